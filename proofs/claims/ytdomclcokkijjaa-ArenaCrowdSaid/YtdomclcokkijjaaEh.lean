/- Contracts: core.New. -/
import Derived.Test.YtdomclcokkijjaaEf
namespace Go.Proofs.Ytdomclcokkijjaa
open Go.RowKit
attribute [local irreducible] Instr.loadAt Instr.storeAt Instr.fieldAt Instr.indexAt Instr.sliceAt Instr.buildSlice Instr.box Instr.alloc Builtin.append_ Builtin.len_ Builtin.min_ Builtin.max_ Calls Instr.build Instr.makeSlice binSem convert Instr.index Instr.range Instr.next
def endT : MT := .rd 15 (.ef 16 (.ef 17 (.ef 18 .done)))
def treeT : MT := .rd 0 (.rd 1 (.rd 2 (.rd 3 (.rd 4 (.rd 5 (.rd 6 (.rd 7 (.rd 9 (.rd 10 (.rd 12 (.rd 13 (.fk 8 (.fk 11 (.ef 14 endT) (.ef 14 (.ef 11 endT))) (.fk 11 (.fk 8 (.ef 14 endT) (.ef 14 (.ef 8 endT))) (.ef 14 (.fk 8 (.ef 11 endT) (.ef 11 (.ef 8 endT)))))))))))))))))
theorem zeros_sl {w : World} {g n : Nat} (hb : Blk w g 27 (madeCells #[.int .u64 0] n)) (hn : n ≤ 100) : Sl w 27 1 (.slice (some ⟨g, 0, none⟩) n n) n (zerosV n) := by
  rw [made_zero] at hb
  exact ⟨by simp [zerosV], .inr ⟨_, _, n, _, rfl, hb, by omega, by simp [maxLen]; omega, by simp, by simp [zerosV]⟩⟩
theorem Parts.snoc {w : World} {mp fp l : Nat} {v lv fv gv : Value} {s : MS} {draws : List Int} {gs : Option (Nat × Value × List Int × Int × Int)} {ptrs : List Nat} {g : Nat} (h : Parts w mp v lv s fp fv draws gv gs ptrs l) (hg : ThrZ w g (ptrs.length : Int) l) :
    Parts w mp v lv s fp fv draws gv gs (ptrs ++ [g]) l := ⟨h.mem, h.fd, h.gh, fun i hi => by
  rw [List.length_append, List.length_singleton] at hi
  by_cases hlt : i < ptrs.length
  · have e : (ptrs ++ [g]).getD i 0 = ptrs.getD i 0 := by simp [List.getD, List.getElem?_append_left hlt]
    rw [e]; exact h.ths i hlt
  · have hi : i = ptrs.length := by omega
    subst hi
    have e : (ptrs ++ [g]).getD ptrs.length 0 = g := by simp [List.getD]
    rw [e]; exact hg⟩
theorem ghost_new2 (N l : Int) (hn : 1 ≤ N ∧ N ≤ 64) (hl : 0 ≤ l ∧ l ≤ N) (w : World) : Fn Try.prog 21 #[.int .i64 N, .int .i64 l] w fun r w' => (∃ p v, r = .pointer (some ⟨p, 0, none⟩) ∧ w.heap.size ≤ p ∧ (∀ g, v.ownBlock = some g → w.heap.size ≤ g) ∧ IsG w' p v (liveL N.toNat l.toNat) 0 0) ∧ Upd [] w w' := by
  obtain ⟨n, rfl⟩ := Int.eq_ofNat_of_zero_le (show 0 ≤ N by omega)
  obtain ⟨k, rfl⟩ := Int.eq_ofNat_of_zero_le hl.1
  exact ghost_new n k (by omega) (by omega) w
theorem dj2 {a b n : Nat} (h : a ≠ b) : ∀ g, (Value.slice (some ⟨a, 0, none⟩) n n).ownBlock = some g → (Value.slice (some ⟨b, 0, none⟩) n n).ownBlock ≠ some g := by
  intro g h1 h2
  have h1 : a = g := by simpa [Value.ownBlock] using h1
  have h2 : b = g := by simpa [Value.ownBlock] using h2
  omega
theorem dj3 {a b c n : Nat} (h : a ≠ b) (h' : a ≠ c) : ∀ g, (Value.slice (some ⟨a, 0, none⟩) n n).ownBlock = some g → (Value.slice (some ⟨b, 0, none⟩) n n).ownBlock ≠ some g ∧ (Value.slice (some ⟨c, 0, none⟩) n n).ownBlock ≠ some g := fun g hg => ⟨dj2 h g hg, dj2 h' g hg⟩
theorem sl_blk {w : World} {e n m g : Nat} {v : Value} {xs : List Value} (h : Sl w e n v m xs) (hg : v.ownBlock = some g) : ∃ cs, Blk w g e cs := by
  rcases h.2 with ⟨rfl, _⟩ | ⟨g', off, cap, cur, rfl, hb, _⟩
  · simp [Value.ownBlock] at hg
  · have : g' = g := by simpa [Value.ownBlock] using hg
    subst this
    exact ⟨_, hb⟩
set_option maxRecDepth 100000 in
theorem core_new {w : World} {v : Value} {draws : List Int} {A T N L B P S : Int} (gh : Bool) (hv : RdK w .u8 v draws) (hl : draws.length ≤ 5000) :
    Fn Try.prog 20 #[.agg (cf7 ⟨A, T, N, L, B, P, S⟩), v, .bool gh] w fun r w' => (¬ rightC ⟨A, T, N, L, B, P, S⟩ → r = .tuple #[.pointer none, .int .i64 6] ∧ Upd [] w w') ∧
      (rightC ⟨A, T, N, L, B, P, S⟩ → ∃ m mp mv lv fp fv gv gs tv ptrs, r = .tuple #[ptrV m, .int .i64 0] ∧ MkI w w' m ⟨A, T, N, L, B, P, S⟩ mp mv lv (layS A T N L (newMS (sizeP A T N L).toNat)) fp fv draws gv gs tv ptrs L.toNat ∧ (ptrs.length : Int) = T ∧
        (gh = false → gs = none) ∧ (gh = true → ∃ gp gv', gs = some (gp, gv', liveL N.toNat (sentP A).toNat, 0, 0))) := by
  refine fn_enter Try.func20 rfl rfl ?_
  refine bx fun w1 hb1 hu1 hs1 => ?_
  have hb1 : Blk w1 w.heap.size 42 (cf7 ⟨A, T, N, L, B, P, S⟩) := hb1
  refine ldw hb1 rfl ?_
  refine cl (new_c ⟨A, T, N, L, B, P, S⟩ w1) ?_
  rintro _ w2 ⟨rfl, hu2⟩
  refine al z15 (fun _ => by kernel_rfl) fun w3 hb3 hu3 hs3 => ?_
  by_cases hr : rightC ⟨A, T, N, L, B, P, S⟩
  rotate_left
  · rw [if_neg hr, if_neg hr]
    refine stw hb3 rfl rfl rfl fun w4 hb4 hu4 hs4 => ?_
    exact ⟨fun _ => ⟨rfl, ((hu1.trans hu2).trans hu3).step hu4 (by have := hu1.size; have := hu2.size; simp; omega)⟩, fun h => absurd h hr⟩
  rw [if_pos hr, if_pos hr]
  obtain ⟨b1, b2, b3, b4, b5, b6, b7, b8, b9, b10, b11, b12⟩ := plan_bd hr
  refine stw hb3 rfl rfl rfl fun w4 hb4 hu4 hs4 => ?_
  have hb4 : Blk w4 w2.heap.size TP (planC ⟨A, T, N, L, B, P, S⟩) := hb4
  have hz2 := hu2.size
  have hU4 : Upd [] w w4 := ((hu1.trans hu2).trans hu3).step hu4 (by simp; omega)
  have hc4 := ((hb1.upd hu2 (by simp)).upd hu3 (by simp)).upd hu4 (by simp; omega)
  generalize hg1 : w.heap.size = g1 at hc4
  generalize w2.heap.size = g2 at *
  refine ldw hb4 rfl ?_
  refine cl (size_c A T N L B P S w4) ?_
  rintro _ w5 ⟨rfl, hu5⟩
  obtain ⟨n, hn⟩ : ∃ n : Nat, sizeP A T N L = (n : Int) := ⟨_, (Int.toNat_of_nonneg (by omega)).symm⟩
  have hnn : (sizeP A T N L).toNat = n := by omega
  rw [hnn, hn]
  refine cl (new_yes n w5 (by omega) (by omega)) ?_
  rintro _ w6 ⟨mp, mv, rfl, hm6, hu6, hf6⟩
  have hU6 := (hU4.trans hu5).trans hu6
  have hc6 := (hc4.upd hu5 (by simp)).upd hu6 (by simp)
  have hp6 := (hb4.upd hu5 (by simp)).upd hu6 (by simp)
  refine ldw hp6 rfl ?_
  refine cl (lay_c hm6 ⟨Int.le_refl _, Int.le_refl _, rfl, rfl⟩ hr) ?_
  rintro _ w7 ⟨lv, hm7, hu7, hf7⟩
  have hz46 : w4.heap.size ≤ w5.heap.size := hu5.size
  have hz4 := hU4.size
  have hF : ∀ k ∈ mfoot mp mv lv, w.heap.size ≤ k := fun k hk => by
    have h6 := hU6.size
    rcases hf7 k hk with h | h
    · have := hf6 k h; omega
    · omega
  have hU7 : Upd [] w w7 := hU6.step hu7 (fun k hk => .inr (by have := hf6 k hk; omega))
  have hc7 := hc6.upd hu7 (hm6.off hc6 (by decide) (by decide) (by decide))
  have hp7 := hp6.upd hu7 (hm6.off hp6 (by decide) (by decide) (by decide))
  generalize layS A T N L (newMS n) = ms at *
  refine draw_mix 6 [(0, true), (1, true), (2, true), (3, false), (4, true), (5, false)] (fun w' => Upd [] w7 w') (by decide +kernel) (Upd.refl [] w7).drew ?_
  refine rq (.agg (planC ⟨A, T, N, L, B, P, S⟩)) (fun w' hw' => ldw (hp7.upd hw' (by simp)) rfl ⟨rfl, rfl⟩) ?_
  refine cl (feed_new (hv.upd0 hU7.drew) (by omega)) ?_
  rintro _ w8 ⟨⟨fp, fv, rfl, hfp, hfv, hfd⟩, hu8⟩
  have hu78 : Upd [] w7 w8 := (Upd.refl [] w7).drew.trans hu8
  refine ⟨hu78, ?_⟩
  refine rq (.agg (machC ⟨A, T, N, L, B, P, S⟩ (ptrV mp) (.pointer none) (ptrV fp) (.slice none 0 0) false false)) (fun _ _ => bd _ (fun _ => by kernel_rfl) ⟨rfl, rfl⟩) ?_
  refine bx fun w9 hb9 hu9 hs9 => ?_
  refine ⟨hu78.trans hu9, ?_⟩
  have hb9 : Blk w9 w8.heap.size TM (machC ⟨A, T, N, L, B, P, S⟩ (ptrV mp) (.pointer none) (ptrV fp) (.slice none 0 0) false false) := hb9
  have hu79 := hu78.trans hu9
  have hU9 := hU7.trans hu79
  have I9 : MkI w w9 w8.heap.size ⟨A, T, N, L, B, P, S⟩ mp mv lv ms fp fv draws (.pointer none) none (.slice none 0 0) [] L.toNat :=
    ⟨hb9, ⟨hm7.upd hu79 (by simp), ⟨hfd.blk.upd hu9 (by simp), hfd.s.upd hu9 (by simp)⟩, rfl, fun i hi => absurd hi (by simp)⟩, Sl.nil_ _ _ _, hU9, by have := hU7.size; have := hu78.size; omega, hF, by simp [Value.ownBlock], fun x hx => (by cases hx), by simp, by have := hU7.size; have : w7.drew.heap.size = w7.heap.size := rfl; omega, fun g hg => by have := hfv g hg; have := hU7.size; have : w7.drew.heap.size = w7.heap.size := rfl; omega⟩
  have hc9 := hc7.upd hu79 (by simp)
  have hp9 := hp7.upd hu79 (by simp)
  have hmg1 : w8.heap.size ≠ g1 := fun h => by have := hc7.lt; have := hu78.size; omega
  have hmg2 : w8.heap.size ≠ g2 := fun h => by have := hp7.lt; have := hu78.size; omega
  generalize w8.heap.size = m at *
  cases gh with
  | false =>
    refine fa ?_
    refine ldb (hc9) (v := .int .i64 T) rfl ?_
    obtain ⟨t, ht⟩ : ∃ t : Nat, T = (t : Int) := ⟨_, (Int.toNat_of_nonneg (by omega)).symm⟩
    refine loop_rule [3, 11, 49] [50] (fun vs w' k => ∃ (i : Nat) (tv : Value) (ptrs : List Nat), vs = [.int .i64 (i : Int)] ∧ i ≤ t ∧ k = t - i ∧ ptrs.length = i ∧ MkI w w' m ⟨A, T, N, L, B, P, S⟩ mp mv lv ms fp fv draws (.pointer none) (none) tv ptrs L.toNat ∧ Blk w' g1 42 (cf7 ⟨A, T, N, L, B, P, S⟩)) rfl [.int .i64 0] t rfl
      ⟨0, _, _, rfl, by omega, rfl, rfl, I9, hc9⟩ ?_
    rintro _ x1 k ⟨i, tv, ptrs, rfl, hi, rfl, hpl, J, hx1⟩
    refine cd (fun hlt => ?_) (fun hlt => ?_)
    · obtain ⟨l, hL⟩ : ∃ l : Nat, L = (l : Int) := ⟨_, (Int.toNat_of_nonneg (by omega)).symm⟩
      have hLn : L.toNat = l := by omega
      rw [hLn] at J
      have hne1 := J.ths.blk_ne J.blk (by decide)
      have hne2 := J.ths.blk_ne hx1 (by decide)
      have hsb : ∀ w', Upd tv.ownBlock.toList x1 w' → Blk w' m TM _ := fun w' hu => J.blk.upd hu (by simpa using hne1)
      have hsc : ∀ w', Upd tv.ownBlock.toList x1 w' → Blk w' g1 42 _ := fun w' hu => hx1.upd hu (by simpa using hne2)
      refine draw_tree 19 treeT (fun w' => Upd tv.ownBlock.toList x1 w') (by decide +kernel) (Upd.refl _ x1).drew ?_
      refine q_fa ?_
      refine q_ld (v := tv) (fun w' hw' => (hsb w' hw').cell 18) ?_
      refine q_fa ?_
      refine q_ld (v := .int .i64 L) (fun w' hw' => (hsc w' hw').cell 3) ?_
      refine q_fa ?_
      refine q_ld (v := .int .i64 L) (fun w' hw' => (hsc w' hw').cell 3) ?_
      refine q_fa ?_
      refine q_ld (v := .int .i64 L) (fun w' hw' => (hsc w' hw').cell 3) ?_
      have Us : Upd tv.ownBlock.toList x1 x1.drew := (Upd.refl _ x1).drew
      refine ⟨?_, ?_, ?_⟩
      · refine mks l hL hL (by omega) (by omega) fun xa ha ua za => ?_
        have Va := (Upd.refl [] x1).drew.trans ua
        refine ⟨Va.mono (by simp), ?_⟩
        refine ⟨?_, ?_⟩
        · refine mks l hL hL (by omega) (by omega) fun xb hb ub zb => ?_
          have Vb := Va.trans ub
          refine ⟨Vb.mono (by simp), ?_⟩
          refine mks l hL hL (by omega) (by omega) fun xc hc uc zc => ?_
          have Vc := Vb.trans uc
          refine ⟨Vc.mono (by simp), ?_⟩
          have sa := ((zeros_sl ha (by omega)).upd ub (by simp)).upd uc (by simp)
          have sb := (zeros_sl hb (by omega)).upd uc (by simp)
          have sc := zeros_sl hc (by omega)
          refine rq (.agg (thrC (i : Int) (.slice none 0 0) (0, 0, 0) (.slice (some ⟨x1.drew.heap.size, 0, none⟩) l l) (.slice (some ⟨xa.heap.size, 0, none⟩) l l) (.slice (some ⟨xb.heap.size, 0, none⟩) l l) (.slice none 0 0) (.slice none 0 0))) (fun _ _ => bd _ (fun _ => by kernel_rfl) ⟨rfl, rfl⟩) ?_
          refine bx fun xd hd ud zd => ?_
          have hd : Blk xd xc.heap.size TT (thrC (i : Int) (.slice none 0 0) (0, 0, 0) (.slice (some ⟨x1.drew.heap.size, 0, none⟩) l l) (.slice (some ⟨xa.heap.size, 0, none⟩) l l) (.slice (some ⟨xb.heap.size, 0, none⟩) l l) (.slice none 0 0) (.slice none 0 0)) := hd
          have Vd := Vc.trans ud
          refine ⟨Vd.mono (by simp), ?_⟩
          refine bs #[ptrV xc.heap.size] (fun _ => by kernel_rfl) fun xe he ue ze => ?_
          have Ve := Vd.trans ue
          refine ⟨Ve.mono (by simp), ?_⟩
          have zx := Vc.size
          refine apg (J.ths.upd Ve (by simp)) he rfl rfl (by decide) (by simp only [maxLen]; omega) (by omega) fun tv2 xf hsf hGf => ?_
          have Uf : Upd tv.ownBlock.toList x1 xf := (Ve.mono (by simp)).trans hGf.up
          refine ⟨Uf, ?_⟩
          obtain ⟨tva, tvc, rfl, -⟩ := hsf.form
          refine fa ?_
          refine st (hsb xf Uf) (by show 18 < 21; omega) rfl fun xg hg ug zg => ?_
          refine ar64 (by omega) ?_
          have Z : ThrZ xd xc.heap.size (ptrs.length : Int) l := by
            rw [hpl]
            exact ⟨_, _, _, hd, (sa).upd ud (by simp), (sb).upd ud (by simp), (sc).upd ud (by simp), dj3 (by omega) (by omega), dj2 (by omega)⟩
          have P1 := (((J.parts.upd (S := []) (by simp) Vd).snoc Z).upd (S := []) (by simp) ue).upd (S := tv.ownBlock.toList) (fun q hq => by
            obtain ⟨cs, hcs⟩ := sl_blk (J.ths.upd Ve (by simp)) (by simpa using hq)
            exact ⟨cs, _, hcs, .inr rfl⟩) hGf.up
          have P2 := P1.upd (S := [m]) (fun q hq => by
            simp only [List.mem_singleton] at hq
            subst hq
            exact ⟨_, _, hsb xf Uf, .inl rfl⟩) ug
          refine round_mk [.int .i64 ((i + 1 : Nat) : Int)] (t - (i + 1)) rfl rfl ⟨i + 1, .slice tva (ptrs.length + 1) tvc, ptrs ++ [xc.heap.size], rfl, by omega, rfl, by rw [List.length_append, hpl]; rfl, ?_, (hsc xf Uf).upd ug (by simp; exact fun h => hmg1 h.symm)⟩ (by omega)
          rw [hLn]
          refine ⟨hg, P2, ?_, ((J.up.trans Ve).step hGf.up (fun q hq => .inr (J.f3 q (by simpa using hq)))).step ug (by simp; exact J.f1), J.f1, J.f2, fun q hq => ?_, J.f4, fun q hq => ?_, J.f6⟩
          · have := hsf.farT (hsb xf Uf) (by decide) ug
            rw [List.length_append, List.map_append]
            exact this
          · rcases hGf.own q hq with h | h
            · exact J.f3 q h
            · have := J.up.size; have := Ve.size; omega
          · rcases List.mem_append.1 hq with h | h
            · exact J.f5 q h
            · have : q = xc.heap.size := by simpa using h
              have := J.up.size; have := Vc.size; omega
        · refine mks l hL hL (by omega) (by omega) fun xb hb ub zb => ?_
          have Vb := Va.trans ub
          refine ⟨Vb.mono (by simp), ?_⟩
          refine mks l hL hL (by omega) (by omega) fun xc hc uc zc => ?_
          have Vc := Vb.trans uc
          refine ⟨Vc.mono (by simp), ?_⟩
          have sa := ((zeros_sl ha (by omega)).upd ub (by simp)).upd uc (by simp)
          have sb := (zeros_sl hb (by omega)).upd uc (by simp)
          have sc := zeros_sl hc (by omega)
          refine rq (.agg (thrC (i : Int) (.slice none 0 0) (0, 0, 0) (.slice (some ⟨x1.drew.heap.size, 0, none⟩) l l) (.slice (some ⟨xb.heap.size, 0, none⟩) l l) (.slice (some ⟨xa.heap.size, 0, none⟩) l l) (.slice none 0 0) (.slice none 0 0))) (fun _ _ => bd _ (fun _ => by kernel_rfl) ⟨rfl, rfl⟩) ?_
          refine bx fun xd hd ud zd => ?_
          have hd : Blk xd xc.heap.size TT (thrC (i : Int) (.slice none 0 0) (0, 0, 0) (.slice (some ⟨x1.drew.heap.size, 0, none⟩) l l) (.slice (some ⟨xb.heap.size, 0, none⟩) l l) (.slice (some ⟨xa.heap.size, 0, none⟩) l l) (.slice none 0 0) (.slice none 0 0)) := hd
          have Vd := Vc.trans ud
          refine ⟨Vd.mono (by simp), ?_⟩
          refine bs #[ptrV xc.heap.size] (fun _ => by kernel_rfl) fun xe he ue ze => ?_
          have Ve := Vd.trans ue
          refine ⟨Ve.mono (by simp), ?_⟩
          have zx := Vc.size
          refine apg (J.ths.upd Ve (by simp)) he rfl rfl (by decide) (by simp only [maxLen]; omega) (by omega) fun tv2 xf hsf hGf => ?_
          have Uf : Upd tv.ownBlock.toList x1 xf := (Ve.mono (by simp)).trans hGf.up
          refine ⟨Uf, ?_⟩
          obtain ⟨tva, tvc, rfl, -⟩ := hsf.form
          refine fa ?_
          refine st (hsb xf Uf) (by show 18 < 21; omega) rfl fun xg hg ug zg => ?_
          refine ar64 (by omega) ?_
          have Z : ThrZ xd xc.heap.size (ptrs.length : Int) l := by
            rw [hpl]
            exact ⟨_, _, _, hd, (sa).upd ud (by simp), (sc).upd ud (by simp), (sb).upd ud (by simp), dj3 (by omega) (by omega), dj2 (by omega)⟩
          have P1 := (((J.parts.upd (S := []) (by simp) Vd).snoc Z).upd (S := []) (by simp) ue).upd (S := tv.ownBlock.toList) (fun q hq => by
            obtain ⟨cs, hcs⟩ := sl_blk (J.ths.upd Ve (by simp)) (by simpa using hq)
            exact ⟨cs, _, hcs, .inr rfl⟩) hGf.up
          have P2 := P1.upd (S := [m]) (fun q hq => by
            simp only [List.mem_singleton] at hq
            subst hq
            exact ⟨_, _, hsb xf Uf, .inl rfl⟩) ug
          refine round_mk [.int .i64 ((i + 1 : Nat) : Int)] (t - (i + 1)) rfl rfl ⟨i + 1, .slice tva (ptrs.length + 1) tvc, ptrs ++ [xc.heap.size], rfl, by omega, rfl, by rw [List.length_append, hpl]; rfl, ?_, (hsc xf Uf).upd ug (by simp; exact fun h => hmg1 h.symm)⟩ (by omega)
          rw [hLn]
          refine ⟨hg, P2, ?_, ((J.up.trans Ve).step hGf.up (fun q hq => .inr (J.f3 q (by simpa using hq)))).step ug (by simp; exact J.f1), J.f1, J.f2, fun q hq => ?_, J.f4, fun q hq => ?_, J.f6⟩
          · have := hsf.farT (hsb xf Uf) (by decide) ug
            rw [List.length_append, List.map_append]
            exact this
          · rcases hGf.own q hq with h | h
            · exact J.f3 q h
            · have := J.up.size; have := Ve.size; omega
          · rcases List.mem_append.1 hq with h | h
            · exact J.f5 q h
            · have : q = xc.heap.size := by simpa using h
              have := J.up.size; have := Vc.size; omega
      · refine mks l hL hL (by omega) (by omega) fun xa ha ua za => ?_
        have Va := (Upd.refl [] x1).drew.trans ua
        refine ⟨Va.mono (by simp), ?_⟩
        refine ⟨?_, ?_⟩
        · refine mks l hL hL (by omega) (by omega) fun xb hb ub zb => ?_
          have Vb := Va.trans ub
          refine ⟨Vb.mono (by simp), ?_⟩
          refine mks l hL hL (by omega) (by omega) fun xc hc uc zc => ?_
          have Vc := Vb.trans uc
          refine ⟨Vc.mono (by simp), ?_⟩
          have sa := ((zeros_sl ha (by omega)).upd ub (by simp)).upd uc (by simp)
          have sb := (zeros_sl hb (by omega)).upd uc (by simp)
          have sc := zeros_sl hc (by omega)
          refine rq (.agg (thrC (i : Int) (.slice none 0 0) (0, 0, 0) (.slice (some ⟨xa.heap.size, 0, none⟩) l l) (.slice (some ⟨x1.drew.heap.size, 0, none⟩) l l) (.slice (some ⟨xb.heap.size, 0, none⟩) l l) (.slice none 0 0) (.slice none 0 0))) (fun _ _ => bd _ (fun _ => by kernel_rfl) ⟨rfl, rfl⟩) ?_
          refine bx fun xd hd ud zd => ?_
          have hd : Blk xd xc.heap.size TT (thrC (i : Int) (.slice none 0 0) (0, 0, 0) (.slice (some ⟨xa.heap.size, 0, none⟩) l l) (.slice (some ⟨x1.drew.heap.size, 0, none⟩) l l) (.slice (some ⟨xb.heap.size, 0, none⟩) l l) (.slice none 0 0) (.slice none 0 0)) := hd
          have Vd := Vc.trans ud
          refine ⟨Vd.mono (by simp), ?_⟩
          refine bs #[ptrV xc.heap.size] (fun _ => by kernel_rfl) fun xe he ue ze => ?_
          have Ve := Vd.trans ue
          refine ⟨Ve.mono (by simp), ?_⟩
          have zx := Vc.size
          refine apg (J.ths.upd Ve (by simp)) he rfl rfl (by decide) (by simp only [maxLen]; omega) (by omega) fun tv2 xf hsf hGf => ?_
          have Uf : Upd tv.ownBlock.toList x1 xf := (Ve.mono (by simp)).trans hGf.up
          refine ⟨Uf, ?_⟩
          obtain ⟨tva, tvc, rfl, -⟩ := hsf.form
          refine fa ?_
          refine st (hsb xf Uf) (by show 18 < 21; omega) rfl fun xg hg ug zg => ?_
          refine ar64 (by omega) ?_
          have Z : ThrZ xd xc.heap.size (ptrs.length : Int) l := by
            rw [hpl]
            exact ⟨_, _, _, hd, (sb).upd ud (by simp), (sa).upd ud (by simp), (sc).upd ud (by simp), dj3 (by omega) (by omega), dj2 (by omega)⟩
          have P1 := (((J.parts.upd (S := []) (by simp) Vd).snoc Z).upd (S := []) (by simp) ue).upd (S := tv.ownBlock.toList) (fun q hq => by
            obtain ⟨cs, hcs⟩ := sl_blk (J.ths.upd Ve (by simp)) (by simpa using hq)
            exact ⟨cs, _, hcs, .inr rfl⟩) hGf.up
          have P2 := P1.upd (S := [m]) (fun q hq => by
            simp only [List.mem_singleton] at hq
            subst hq
            exact ⟨_, _, hsb xf Uf, .inl rfl⟩) ug
          refine round_mk [.int .i64 ((i + 1 : Nat) : Int)] (t - (i + 1)) rfl rfl ⟨i + 1, .slice tva (ptrs.length + 1) tvc, ptrs ++ [xc.heap.size], rfl, by omega, rfl, by rw [List.length_append, hpl]; rfl, ?_, (hsc xf Uf).upd ug (by simp; exact fun h => hmg1 h.symm)⟩ (by omega)
          rw [hLn]
          refine ⟨hg, P2, ?_, ((J.up.trans Ve).step hGf.up (fun q hq => .inr (J.f3 q (by simpa using hq)))).step ug (by simp; exact J.f1), J.f1, J.f2, fun q hq => ?_, J.f4, fun q hq => ?_, J.f6⟩
          · have := hsf.farT (hsb xf Uf) (by decide) ug
            rw [List.length_append, List.map_append]
            exact this
          · rcases hGf.own q hq with h | h
            · exact J.f3 q h
            · have := J.up.size; have := Ve.size; omega
          · rcases List.mem_append.1 hq with h | h
            · exact J.f5 q h
            · have : q = xc.heap.size := by simpa using h
              have := J.up.size; have := Vc.size; omega
        · refine mks l hL hL (by omega) (by omega) fun xb hb ub zb => ?_
          have Vb := Va.trans ub
          refine ⟨Vb.mono (by simp), ?_⟩
          refine mks l hL hL (by omega) (by omega) fun xc hc uc zc => ?_
          have Vc := Vb.trans uc
          refine ⟨Vc.mono (by simp), ?_⟩
          have sa := ((zeros_sl ha (by omega)).upd ub (by simp)).upd uc (by simp)
          have sb := (zeros_sl hb (by omega)).upd uc (by simp)
          have sc := zeros_sl hc (by omega)
          refine rq (.agg (thrC (i : Int) (.slice none 0 0) (0, 0, 0) (.slice (some ⟨xb.heap.size, 0, none⟩) l l) (.slice (some ⟨x1.drew.heap.size, 0, none⟩) l l) (.slice (some ⟨xa.heap.size, 0, none⟩) l l) (.slice none 0 0) (.slice none 0 0))) (fun _ _ => bd _ (fun _ => by kernel_rfl) ⟨rfl, rfl⟩) ?_
          refine bx fun xd hd ud zd => ?_
          have hd : Blk xd xc.heap.size TT (thrC (i : Int) (.slice none 0 0) (0, 0, 0) (.slice (some ⟨xb.heap.size, 0, none⟩) l l) (.slice (some ⟨x1.drew.heap.size, 0, none⟩) l l) (.slice (some ⟨xa.heap.size, 0, none⟩) l l) (.slice none 0 0) (.slice none 0 0)) := hd
          have Vd := Vc.trans ud
          refine ⟨Vd.mono (by simp), ?_⟩
          refine bs #[ptrV xc.heap.size] (fun _ => by kernel_rfl) fun xe he ue ze => ?_
          have Ve := Vd.trans ue
          refine ⟨Ve.mono (by simp), ?_⟩
          have zx := Vc.size
          refine apg (J.ths.upd Ve (by simp)) he rfl rfl (by decide) (by simp only [maxLen]; omega) (by omega) fun tv2 xf hsf hGf => ?_
          have Uf : Upd tv.ownBlock.toList x1 xf := (Ve.mono (by simp)).trans hGf.up
          refine ⟨Uf, ?_⟩
          obtain ⟨tva, tvc, rfl, -⟩ := hsf.form
          refine fa ?_
          refine st (hsb xf Uf) (by show 18 < 21; omega) rfl fun xg hg ug zg => ?_
          refine ar64 (by omega) ?_
          have Z : ThrZ xd xc.heap.size (ptrs.length : Int) l := by
            rw [hpl]
            exact ⟨_, _, _, hd, (sc).upd ud (by simp), (sa).upd ud (by simp), (sb).upd ud (by simp), dj3 (by omega) (by omega), dj2 (by omega)⟩
          have P1 := (((J.parts.upd (S := []) (by simp) Vd).snoc Z).upd (S := []) (by simp) ue).upd (S := tv.ownBlock.toList) (fun q hq => by
            obtain ⟨cs, hcs⟩ := sl_blk (J.ths.upd Ve (by simp)) (by simpa using hq)
            exact ⟨cs, _, hcs, .inr rfl⟩) hGf.up
          have P2 := P1.upd (S := [m]) (fun q hq => by
            simp only [List.mem_singleton] at hq
            subst hq
            exact ⟨_, _, hsb xf Uf, .inl rfl⟩) ug
          refine round_mk [.int .i64 ((i + 1 : Nat) : Int)] (t - (i + 1)) rfl rfl ⟨i + 1, .slice tva (ptrs.length + 1) tvc, ptrs ++ [xc.heap.size], rfl, by omega, rfl, by rw [List.length_append, hpl]; rfl, ?_, (hsc xf Uf).upd ug (by simp; exact fun h => hmg1 h.symm)⟩ (by omega)
          rw [hLn]
          refine ⟨hg, P2, ?_, ((J.up.trans Ve).step hGf.up (fun q hq => .inr (J.f3 q (by simpa using hq)))).step ug (by simp; exact J.f1), J.f1, J.f2, fun q hq => ?_, J.f4, fun q hq => ?_, J.f6⟩
          · have := hsf.farT (hsb xf Uf) (by decide) ug
            rw [List.length_append, List.map_append]
            exact this
          · rcases hGf.own q hq with h | h
            · exact J.f3 q h
            · have := J.up.size; have := Ve.size; omega
          · rcases List.mem_append.1 hq with h | h
            · exact J.f5 q h
            · have : q = xc.heap.size := by simpa using h
              have := J.up.size; have := Vc.size; omega
      · refine mks l hL hL (by omega) (by omega) fun xa ha ua za => ?_
        have Va := (Upd.refl [] x1).drew.trans ua
        refine ⟨Va.mono (by simp), ?_⟩
        refine ⟨?_, ?_⟩
        · refine mks l hL hL (by omega) (by omega) fun xb hb ub zb => ?_
          have Vb := Va.trans ub
          refine ⟨Vb.mono (by simp), ?_⟩
          refine mks l hL hL (by omega) (by omega) fun xc hc uc zc => ?_
          have Vc := Vb.trans uc
          refine ⟨Vc.mono (by simp), ?_⟩
          have sa := ((zeros_sl ha (by omega)).upd ub (by simp)).upd uc (by simp)
          have sb := (zeros_sl hb (by omega)).upd uc (by simp)
          have sc := zeros_sl hc (by omega)
          refine rq (.agg (thrC (i : Int) (.slice none 0 0) (0, 0, 0) (.slice (some ⟨xa.heap.size, 0, none⟩) l l) (.slice (some ⟨xb.heap.size, 0, none⟩) l l) (.slice (some ⟨x1.drew.heap.size, 0, none⟩) l l) (.slice none 0 0) (.slice none 0 0))) (fun _ _ => bd _ (fun _ => by kernel_rfl) ⟨rfl, rfl⟩) ?_
          refine bx fun xd hd ud zd => ?_
          have hd : Blk xd xc.heap.size TT (thrC (i : Int) (.slice none 0 0) (0, 0, 0) (.slice (some ⟨xa.heap.size, 0, none⟩) l l) (.slice (some ⟨xb.heap.size, 0, none⟩) l l) (.slice (some ⟨x1.drew.heap.size, 0, none⟩) l l) (.slice none 0 0) (.slice none 0 0)) := hd
          have Vd := Vc.trans ud
          refine ⟨Vd.mono (by simp), ?_⟩
          refine bs #[ptrV xc.heap.size] (fun _ => by kernel_rfl) fun xe he ue ze => ?_
          have Ve := Vd.trans ue
          refine ⟨Ve.mono (by simp), ?_⟩
          have zx := Vc.size
          refine apg (J.ths.upd Ve (by simp)) he rfl rfl (by decide) (by simp only [maxLen]; omega) (by omega) fun tv2 xf hsf hGf => ?_
          have Uf : Upd tv.ownBlock.toList x1 xf := (Ve.mono (by simp)).trans hGf.up
          refine ⟨Uf, ?_⟩
          obtain ⟨tva, tvc, rfl, -⟩ := hsf.form
          refine fa ?_
          refine st (hsb xf Uf) (by show 18 < 21; omega) rfl fun xg hg ug zg => ?_
          refine ar64 (by omega) ?_
          have Z : ThrZ xd xc.heap.size (ptrs.length : Int) l := by
            rw [hpl]
            exact ⟨_, _, _, hd, (sb).upd ud (by simp), (sc).upd ud (by simp), (sa).upd ud (by simp), dj3 (by omega) (by omega), dj2 (by omega)⟩
          have P1 := (((J.parts.upd (S := []) (by simp) Vd).snoc Z).upd (S := []) (by simp) ue).upd (S := tv.ownBlock.toList) (fun q hq => by
            obtain ⟨cs, hcs⟩ := sl_blk (J.ths.upd Ve (by simp)) (by simpa using hq)
            exact ⟨cs, _, hcs, .inr rfl⟩) hGf.up
          have P2 := P1.upd (S := [m]) (fun q hq => by
            simp only [List.mem_singleton] at hq
            subst hq
            exact ⟨_, _, hsb xf Uf, .inl rfl⟩) ug
          refine round_mk [.int .i64 ((i + 1 : Nat) : Int)] (t - (i + 1)) rfl rfl ⟨i + 1, .slice tva (ptrs.length + 1) tvc, ptrs ++ [xc.heap.size], rfl, by omega, rfl, by rw [List.length_append, hpl]; rfl, ?_, (hsc xf Uf).upd ug (by simp; exact fun h => hmg1 h.symm)⟩ (by omega)
          rw [hLn]
          refine ⟨hg, P2, ?_, ((J.up.trans Ve).step hGf.up (fun q hq => .inr (J.f3 q (by simpa using hq)))).step ug (by simp; exact J.f1), J.f1, J.f2, fun q hq => ?_, J.f4, fun q hq => ?_, J.f6⟩
          · have := hsf.farT (hsb xf Uf) (by decide) ug
            rw [List.length_append, List.map_append]
            exact this
          · rcases hGf.own q hq with h | h
            · exact J.f3 q h
            · have := J.up.size; have := Ve.size; omega
          · rcases List.mem_append.1 hq with h | h
            · exact J.f5 q h
            · have : q = xc.heap.size := by simpa using h
              have := J.up.size; have := Vc.size; omega
        · refine mks l hL hL (by omega) (by omega) fun xb hb ub zb => ?_
          have Vb := Va.trans ub
          refine ⟨Vb.mono (by simp), ?_⟩
          refine mks l hL hL (by omega) (by omega) fun xc hc uc zc => ?_
          have Vc := Vb.trans uc
          refine ⟨Vc.mono (by simp), ?_⟩
          have sa := ((zeros_sl ha (by omega)).upd ub (by simp)).upd uc (by simp)
          have sb := (zeros_sl hb (by omega)).upd uc (by simp)
          have sc := zeros_sl hc (by omega)
          refine rq (.agg (thrC (i : Int) (.slice none 0 0) (0, 0, 0) (.slice (some ⟨xb.heap.size, 0, none⟩) l l) (.slice (some ⟨xa.heap.size, 0, none⟩) l l) (.slice (some ⟨x1.drew.heap.size, 0, none⟩) l l) (.slice none 0 0) (.slice none 0 0))) (fun _ _ => bd _ (fun _ => by kernel_rfl) ⟨rfl, rfl⟩) ?_
          refine bx fun xd hd ud zd => ?_
          have hd : Blk xd xc.heap.size TT (thrC (i : Int) (.slice none 0 0) (0, 0, 0) (.slice (some ⟨xb.heap.size, 0, none⟩) l l) (.slice (some ⟨xa.heap.size, 0, none⟩) l l) (.slice (some ⟨x1.drew.heap.size, 0, none⟩) l l) (.slice none 0 0) (.slice none 0 0)) := hd
          have Vd := Vc.trans ud
          refine ⟨Vd.mono (by simp), ?_⟩
          refine bs #[ptrV xc.heap.size] (fun _ => by kernel_rfl) fun xe he ue ze => ?_
          have Ve := Vd.trans ue
          refine ⟨Ve.mono (by simp), ?_⟩
          have zx := Vc.size
          refine apg (J.ths.upd Ve (by simp)) he rfl rfl (by decide) (by simp only [maxLen]; omega) (by omega) fun tv2 xf hsf hGf => ?_
          have Uf : Upd tv.ownBlock.toList x1 xf := (Ve.mono (by simp)).trans hGf.up
          refine ⟨Uf, ?_⟩
          obtain ⟨tva, tvc, rfl, -⟩ := hsf.form
          refine fa ?_
          refine st (hsb xf Uf) (by show 18 < 21; omega) rfl fun xg hg ug zg => ?_
          refine ar64 (by omega) ?_
          have Z : ThrZ xd xc.heap.size (ptrs.length : Int) l := by
            rw [hpl]
            exact ⟨_, _, _, hd, (sc).upd ud (by simp), (sb).upd ud (by simp), (sa).upd ud (by simp), dj3 (by omega) (by omega), dj2 (by omega)⟩
          have P1 := (((J.parts.upd (S := []) (by simp) Vd).snoc Z).upd (S := []) (by simp) ue).upd (S := tv.ownBlock.toList) (fun q hq => by
            obtain ⟨cs, hcs⟩ := sl_blk (J.ths.upd Ve (by simp)) (by simpa using hq)
            exact ⟨cs, _, hcs, .inr rfl⟩) hGf.up
          have P2 := P1.upd (S := [m]) (fun q hq => by
            simp only [List.mem_singleton] at hq
            subst hq
            exact ⟨_, _, hsb xf Uf, .inl rfl⟩) ug
          refine round_mk [.int .i64 ((i + 1 : Nat) : Int)] (t - (i + 1)) rfl rfl ⟨i + 1, .slice tva (ptrs.length + 1) tvc, ptrs ++ [xc.heap.size], rfl, by omega, rfl, by rw [List.length_append, hpl]; rfl, ?_, (hsc xf Uf).upd ug (by simp; exact fun h => hmg1 h.symm)⟩ (by omega)
          rw [hLn]
          refine ⟨hg, P2, ?_, ((J.up.trans Ve).step hGf.up (fun q hq => .inr (J.f3 q (by simpa using hq)))).step ug (by simp; exact J.f1), J.f1, J.f2, fun q hq => ?_, J.f4, fun q hq => ?_, J.f6⟩
          · have := hsf.farT (hsb xf Uf) (by decide) ug
            rw [List.length_append, List.map_append]
            exact this
          · rcases hGf.own q hq with h | h
            · exact J.f3 q h
            · have := J.up.size; have := Ve.size; omega
          · rcases List.mem_append.1 hq with h | h
            · exact J.f5 q h
            · have : q = xc.heap.size := by simpa using h
              have := J.up.size; have := Vc.size; omega
    · have hi : i = t := by omega
      subst hi
      exact ⟨fun h => absurd hr h, fun _ => ⟨m, mp, mv, lv, fp, fv, _, _, tv, ptrs, rfl, J, by omega, (fun _ => rfl), (fun h => (by cases h))⟩⟩
  | true =>
    refine draw_mix 6 [(0, true), (1, true), (2, true), (3, true), (4, false), (5, false)] (fun w' => Upd [] w9 w') (by decide +kernel) (Upd.refl [] w9).drew ?_
    refine q_fa ?_
    refine q_ld (v := .int .i64 N) (fun w' hw' => (hc9.upd hw' (by simp)).cell 2) ?_
    refine rq (.agg (planC ⟨A, T, N, L, B, P, S⟩)) (fun w' hw' => ldw (hp9.upd hw' (by simp)) rfl ⟨rfl, rfl⟩) ?_
    refine cl (sent_c A T N L B P S _) ?_
    rintro _ w10 ⟨rfl, hu10⟩
    have hu910 : Upd [] w9 w10 := (Upd.refl [] w9).drew.trans hu10
    refine ⟨hu910, ?_⟩
    refine cl (ghost_new2 N (sentP A) (by omega) (by omega) w10) ?_
    rintro _ w11 ⟨⟨gp, gv', rfl, hgp, hgv, hG⟩, hu11⟩
    have hu911 := hu910.trans hu11
    refine ⟨hu911, ?_⟩
    refine fa ?_
    refine st (I9.blk.upd hu911 (by simp)) (by show 16 < 21; omega) rfl fun w12 hb12 hu12 hs12 => ?_
    have hb12 : Blk w12 m TM (machC ⟨A, T, N, L, B, P, S⟩ (ptrV mp) (.pointer (some ⟨gp, 0, none⟩)) (ptrV fp) (.slice none 0 0) false false) := hb12
    have I12 : MkI w w12 m ⟨A, T, N, L, B, P, S⟩ mp mv lv ms fp fv draws (.pointer (some ⟨gp, 0, none⟩)) (some (gp, gv', liveL N.toNat (sentP A).toNat, 0, 0)) (.slice none 0 0) [] L.toNat := by
      have P11 : Parts w11 mp mv lv ms fp fv draws (.pointer (some ⟨gp, 0, none⟩)) (some (gp, gv', liveL N.toNat (sentP A).toNat, 0, 0)) [] L.toNat := by
        have P9 := I9.parts.upd (S := []) (by simp) hu911
        exact ⟨P9.mem, P9.fd, ⟨rfl, hG⟩, fun i hi => absurd hi (by simp)⟩
      refine ⟨hb12, P11.upd (S := [m]) (fun g hg => ?_) hu12, Sl.nil_ _ _ _, (I9.up.trans hu911).step hu12 (by simp; exact I9.f1), I9.f1, I9.f2, I9.f3, fun x hx => ?_, I9.f5, I9.f6⟩
      · simp only [List.mem_singleton] at hg
        subst hg
        exact ⟨_, _, I9.blk.upd hu911 (by simp), .inl rfl⟩
      · cases hx
        have hz9 := I9.up.size
        have hz10 := hu910.size
        refine ⟨?_, fun g hg => ?_⟩
        · show w.heap.size ≤ gp
          omega
        · have := hgv g hg
          omega
    have hc12 := (hc9.upd hu911 (by simp)).upd hu12 (by simp; exact fun h => hmg1 h.symm)
    refine fa ?_
    refine ldb (hc12) (v := .int .i64 T) rfl ?_
    obtain ⟨t, ht⟩ : ∃ t : Nat, T = (t : Int) := ⟨_, (Int.toNat_of_nonneg (by omega)).symm⟩
    refine loop_rule [3, 11, 49] [50] (fun vs w' k => ∃ (i : Nat) (tv : Value) (ptrs : List Nat), vs = [.int .i64 (i : Int)] ∧ i ≤ t ∧ k = t - i ∧ ptrs.length = i ∧ MkI w w' m ⟨A, T, N, L, B, P, S⟩ mp mv lv ms fp fv draws (.pointer (some ⟨gp, 0, none⟩)) (some (gp, gv', liveL N.toNat (sentP A).toNat, 0, 0)) tv ptrs L.toNat ∧ Blk w' g1 42 (cf7 ⟨A, T, N, L, B, P, S⟩)) rfl [.int .i64 0] t rfl
      ⟨0, _, _, rfl, by omega, rfl, rfl, I12, hc12⟩ ?_
    rintro _ x1 k ⟨i, tv, ptrs, rfl, hi, rfl, hpl, J, hx1⟩
    refine cd (fun hlt => ?_) (fun hlt => ?_)
    · obtain ⟨l, hL⟩ : ∃ l : Nat, L = (l : Int) := ⟨_, (Int.toNat_of_nonneg (by omega)).symm⟩
      have hLn : L.toNat = l := by omega
      rw [hLn] at J
      have hne1 := J.ths.blk_ne J.blk (by decide)
      have hne2 := J.ths.blk_ne hx1 (by decide)
      have hsb : ∀ w', Upd tv.ownBlock.toList x1 w' → Blk w' m TM _ := fun w' hu => J.blk.upd hu (by simpa using hne1)
      have hsc : ∀ w', Upd tv.ownBlock.toList x1 w' → Blk w' g1 42 _ := fun w' hu => hx1.upd hu (by simpa using hne2)
      refine draw_tree 19 treeT (fun w' => Upd tv.ownBlock.toList x1 w') (by decide +kernel) (Upd.refl _ x1).drew ?_
      refine q_fa ?_
      refine q_ld (v := tv) (fun w' hw' => (hsb w' hw').cell 18) ?_
      refine q_fa ?_
      refine q_ld (v := .int .i64 L) (fun w' hw' => (hsc w' hw').cell 3) ?_
      refine q_fa ?_
      refine q_ld (v := .int .i64 L) (fun w' hw' => (hsc w' hw').cell 3) ?_
      refine q_fa ?_
      refine q_ld (v := .int .i64 L) (fun w' hw' => (hsc w' hw').cell 3) ?_
      have Us : Upd tv.ownBlock.toList x1 x1.drew := (Upd.refl _ x1).drew
      refine ⟨?_, ?_, ?_⟩
      · refine mks l hL hL (by omega) (by omega) fun xa ha ua za => ?_
        have Va := (Upd.refl [] x1).drew.trans ua
        refine ⟨Va.mono (by simp), ?_⟩
        refine ⟨?_, ?_⟩
        · refine mks l hL hL (by omega) (by omega) fun xb hb ub zb => ?_
          have Vb := Va.trans ub
          refine ⟨Vb.mono (by simp), ?_⟩
          refine mks l hL hL (by omega) (by omega) fun xc hc uc zc => ?_
          have Vc := Vb.trans uc
          refine ⟨Vc.mono (by simp), ?_⟩
          have sa := ((zeros_sl ha (by omega)).upd ub (by simp)).upd uc (by simp)
          have sb := (zeros_sl hb (by omega)).upd uc (by simp)
          have sc := zeros_sl hc (by omega)
          refine rq (.agg (thrC (i : Int) (.slice none 0 0) (0, 0, 0) (.slice (some ⟨x1.drew.heap.size, 0, none⟩) l l) (.slice (some ⟨xa.heap.size, 0, none⟩) l l) (.slice (some ⟨xb.heap.size, 0, none⟩) l l) (.slice none 0 0) (.slice none 0 0))) (fun _ _ => bd _ (fun _ => by kernel_rfl) ⟨rfl, rfl⟩) ?_
          refine bx fun xd hd ud zd => ?_
          have hd : Blk xd xc.heap.size TT (thrC (i : Int) (.slice none 0 0) (0, 0, 0) (.slice (some ⟨x1.drew.heap.size, 0, none⟩) l l) (.slice (some ⟨xa.heap.size, 0, none⟩) l l) (.slice (some ⟨xb.heap.size, 0, none⟩) l l) (.slice none 0 0) (.slice none 0 0)) := hd
          have Vd := Vc.trans ud
          refine ⟨Vd.mono (by simp), ?_⟩
          refine bs #[ptrV xc.heap.size] (fun _ => by kernel_rfl) fun xe he ue ze => ?_
          have Ve := Vd.trans ue
          refine ⟨Ve.mono (by simp), ?_⟩
          have zx := Vc.size
          refine apg (J.ths.upd Ve (by simp)) he rfl rfl (by decide) (by simp only [maxLen]; omega) (by omega) fun tv2 xf hsf hGf => ?_
          have Uf : Upd tv.ownBlock.toList x1 xf := (Ve.mono (by simp)).trans hGf.up
          refine ⟨Uf, ?_⟩
          obtain ⟨tva, tvc, rfl, -⟩ := hsf.form
          refine fa ?_
          refine st (hsb xf Uf) (by show 18 < 21; omega) rfl fun xg hg ug zg => ?_
          refine ar64 (by omega) ?_
          have Z : ThrZ xd xc.heap.size (ptrs.length : Int) l := by
            rw [hpl]
            exact ⟨_, _, _, hd, (sa).upd ud (by simp), (sb).upd ud (by simp), (sc).upd ud (by simp), dj3 (by omega) (by omega), dj2 (by omega)⟩
          have P1 := (((J.parts.upd (S := []) (by simp) Vd).snoc Z).upd (S := []) (by simp) ue).upd (S := tv.ownBlock.toList) (fun q hq => by
            obtain ⟨cs, hcs⟩ := sl_blk (J.ths.upd Ve (by simp)) (by simpa using hq)
            exact ⟨cs, _, hcs, .inr rfl⟩) hGf.up
          have P2 := P1.upd (S := [m]) (fun q hq => by
            simp only [List.mem_singleton] at hq
            subst hq
            exact ⟨_, _, hsb xf Uf, .inl rfl⟩) ug
          refine round_mk [.int .i64 ((i + 1 : Nat) : Int)] (t - (i + 1)) rfl rfl ⟨i + 1, .slice tva (ptrs.length + 1) tvc, ptrs ++ [xc.heap.size], rfl, by omega, rfl, by rw [List.length_append, hpl]; rfl, ?_, (hsc xf Uf).upd ug (by simp; exact fun h => hmg1 h.symm)⟩ (by omega)
          rw [hLn]
          refine ⟨hg, P2, ?_, ((J.up.trans Ve).step hGf.up (fun q hq => .inr (J.f3 q (by simpa using hq)))).step ug (by simp; exact J.f1), J.f1, J.f2, fun q hq => ?_, J.f4, fun q hq => ?_, J.f6⟩
          · have := hsf.farT (hsb xf Uf) (by decide) ug
            rw [List.length_append, List.map_append]
            exact this
          · rcases hGf.own q hq with h | h
            · exact J.f3 q h
            · have := J.up.size; have := Ve.size; omega
          · rcases List.mem_append.1 hq with h | h
            · exact J.f5 q h
            · have : q = xc.heap.size := by simpa using h
              have := J.up.size; have := Vc.size; omega
        · refine mks l hL hL (by omega) (by omega) fun xb hb ub zb => ?_
          have Vb := Va.trans ub
          refine ⟨Vb.mono (by simp), ?_⟩
          refine mks l hL hL (by omega) (by omega) fun xc hc uc zc => ?_
          have Vc := Vb.trans uc
          refine ⟨Vc.mono (by simp), ?_⟩
          have sa := ((zeros_sl ha (by omega)).upd ub (by simp)).upd uc (by simp)
          have sb := (zeros_sl hb (by omega)).upd uc (by simp)
          have sc := zeros_sl hc (by omega)
          refine rq (.agg (thrC (i : Int) (.slice none 0 0) (0, 0, 0) (.slice (some ⟨x1.drew.heap.size, 0, none⟩) l l) (.slice (some ⟨xb.heap.size, 0, none⟩) l l) (.slice (some ⟨xa.heap.size, 0, none⟩) l l) (.slice none 0 0) (.slice none 0 0))) (fun _ _ => bd _ (fun _ => by kernel_rfl) ⟨rfl, rfl⟩) ?_
          refine bx fun xd hd ud zd => ?_
          have hd : Blk xd xc.heap.size TT (thrC (i : Int) (.slice none 0 0) (0, 0, 0) (.slice (some ⟨x1.drew.heap.size, 0, none⟩) l l) (.slice (some ⟨xb.heap.size, 0, none⟩) l l) (.slice (some ⟨xa.heap.size, 0, none⟩) l l) (.slice none 0 0) (.slice none 0 0)) := hd
          have Vd := Vc.trans ud
          refine ⟨Vd.mono (by simp), ?_⟩
          refine bs #[ptrV xc.heap.size] (fun _ => by kernel_rfl) fun xe he ue ze => ?_
          have Ve := Vd.trans ue
          refine ⟨Ve.mono (by simp), ?_⟩
          have zx := Vc.size
          refine apg (J.ths.upd Ve (by simp)) he rfl rfl (by decide) (by simp only [maxLen]; omega) (by omega) fun tv2 xf hsf hGf => ?_
          have Uf : Upd tv.ownBlock.toList x1 xf := (Ve.mono (by simp)).trans hGf.up
          refine ⟨Uf, ?_⟩
          obtain ⟨tva, tvc, rfl, -⟩ := hsf.form
          refine fa ?_
          refine st (hsb xf Uf) (by show 18 < 21; omega) rfl fun xg hg ug zg => ?_
          refine ar64 (by omega) ?_
          have Z : ThrZ xd xc.heap.size (ptrs.length : Int) l := by
            rw [hpl]
            exact ⟨_, _, _, hd, (sa).upd ud (by simp), (sc).upd ud (by simp), (sb).upd ud (by simp), dj3 (by omega) (by omega), dj2 (by omega)⟩
          have P1 := (((J.parts.upd (S := []) (by simp) Vd).snoc Z).upd (S := []) (by simp) ue).upd (S := tv.ownBlock.toList) (fun q hq => by
            obtain ⟨cs, hcs⟩ := sl_blk (J.ths.upd Ve (by simp)) (by simpa using hq)
            exact ⟨cs, _, hcs, .inr rfl⟩) hGf.up
          have P2 := P1.upd (S := [m]) (fun q hq => by
            simp only [List.mem_singleton] at hq
            subst hq
            exact ⟨_, _, hsb xf Uf, .inl rfl⟩) ug
          refine round_mk [.int .i64 ((i + 1 : Nat) : Int)] (t - (i + 1)) rfl rfl ⟨i + 1, .slice tva (ptrs.length + 1) tvc, ptrs ++ [xc.heap.size], rfl, by omega, rfl, by rw [List.length_append, hpl]; rfl, ?_, (hsc xf Uf).upd ug (by simp; exact fun h => hmg1 h.symm)⟩ (by omega)
          rw [hLn]
          refine ⟨hg, P2, ?_, ((J.up.trans Ve).step hGf.up (fun q hq => .inr (J.f3 q (by simpa using hq)))).step ug (by simp; exact J.f1), J.f1, J.f2, fun q hq => ?_, J.f4, fun q hq => ?_, J.f6⟩
          · have := hsf.farT (hsb xf Uf) (by decide) ug
            rw [List.length_append, List.map_append]
            exact this
          · rcases hGf.own q hq with h | h
            · exact J.f3 q h
            · have := J.up.size; have := Ve.size; omega
          · rcases List.mem_append.1 hq with h | h
            · exact J.f5 q h
            · have : q = xc.heap.size := by simpa using h
              have := J.up.size; have := Vc.size; omega
      · refine mks l hL hL (by omega) (by omega) fun xa ha ua za => ?_
        have Va := (Upd.refl [] x1).drew.trans ua
        refine ⟨Va.mono (by simp), ?_⟩
        refine ⟨?_, ?_⟩
        · refine mks l hL hL (by omega) (by omega) fun xb hb ub zb => ?_
          have Vb := Va.trans ub
          refine ⟨Vb.mono (by simp), ?_⟩
          refine mks l hL hL (by omega) (by omega) fun xc hc uc zc => ?_
          have Vc := Vb.trans uc
          refine ⟨Vc.mono (by simp), ?_⟩
          have sa := ((zeros_sl ha (by omega)).upd ub (by simp)).upd uc (by simp)
          have sb := (zeros_sl hb (by omega)).upd uc (by simp)
          have sc := zeros_sl hc (by omega)
          refine rq (.agg (thrC (i : Int) (.slice none 0 0) (0, 0, 0) (.slice (some ⟨xa.heap.size, 0, none⟩) l l) (.slice (some ⟨x1.drew.heap.size, 0, none⟩) l l) (.slice (some ⟨xb.heap.size, 0, none⟩) l l) (.slice none 0 0) (.slice none 0 0))) (fun _ _ => bd _ (fun _ => by kernel_rfl) ⟨rfl, rfl⟩) ?_
          refine bx fun xd hd ud zd => ?_
          have hd : Blk xd xc.heap.size TT (thrC (i : Int) (.slice none 0 0) (0, 0, 0) (.slice (some ⟨xa.heap.size, 0, none⟩) l l) (.slice (some ⟨x1.drew.heap.size, 0, none⟩) l l) (.slice (some ⟨xb.heap.size, 0, none⟩) l l) (.slice none 0 0) (.slice none 0 0)) := hd
          have Vd := Vc.trans ud
          refine ⟨Vd.mono (by simp), ?_⟩
          refine bs #[ptrV xc.heap.size] (fun _ => by kernel_rfl) fun xe he ue ze => ?_
          have Ve := Vd.trans ue
          refine ⟨Ve.mono (by simp), ?_⟩
          have zx := Vc.size
          refine apg (J.ths.upd Ve (by simp)) he rfl rfl (by decide) (by simp only [maxLen]; omega) (by omega) fun tv2 xf hsf hGf => ?_
          have Uf : Upd tv.ownBlock.toList x1 xf := (Ve.mono (by simp)).trans hGf.up
          refine ⟨Uf, ?_⟩
          obtain ⟨tva, tvc, rfl, -⟩ := hsf.form
          refine fa ?_
          refine st (hsb xf Uf) (by show 18 < 21; omega) rfl fun xg hg ug zg => ?_
          refine ar64 (by omega) ?_
          have Z : ThrZ xd xc.heap.size (ptrs.length : Int) l := by
            rw [hpl]
            exact ⟨_, _, _, hd, (sb).upd ud (by simp), (sa).upd ud (by simp), (sc).upd ud (by simp), dj3 (by omega) (by omega), dj2 (by omega)⟩
          have P1 := (((J.parts.upd (S := []) (by simp) Vd).snoc Z).upd (S := []) (by simp) ue).upd (S := tv.ownBlock.toList) (fun q hq => by
            obtain ⟨cs, hcs⟩ := sl_blk (J.ths.upd Ve (by simp)) (by simpa using hq)
            exact ⟨cs, _, hcs, .inr rfl⟩) hGf.up
          have P2 := P1.upd (S := [m]) (fun q hq => by
            simp only [List.mem_singleton] at hq
            subst hq
            exact ⟨_, _, hsb xf Uf, .inl rfl⟩) ug
          refine round_mk [.int .i64 ((i + 1 : Nat) : Int)] (t - (i + 1)) rfl rfl ⟨i + 1, .slice tva (ptrs.length + 1) tvc, ptrs ++ [xc.heap.size], rfl, by omega, rfl, by rw [List.length_append, hpl]; rfl, ?_, (hsc xf Uf).upd ug (by simp; exact fun h => hmg1 h.symm)⟩ (by omega)
          rw [hLn]
          refine ⟨hg, P2, ?_, ((J.up.trans Ve).step hGf.up (fun q hq => .inr (J.f3 q (by simpa using hq)))).step ug (by simp; exact J.f1), J.f1, J.f2, fun q hq => ?_, J.f4, fun q hq => ?_, J.f6⟩
          · have := hsf.farT (hsb xf Uf) (by decide) ug
            rw [List.length_append, List.map_append]
            exact this
          · rcases hGf.own q hq with h | h
            · exact J.f3 q h
            · have := J.up.size; have := Ve.size; omega
          · rcases List.mem_append.1 hq with h | h
            · exact J.f5 q h
            · have : q = xc.heap.size := by simpa using h
              have := J.up.size; have := Vc.size; omega
        · refine mks l hL hL (by omega) (by omega) fun xb hb ub zb => ?_
          have Vb := Va.trans ub
          refine ⟨Vb.mono (by simp), ?_⟩
          refine mks l hL hL (by omega) (by omega) fun xc hc uc zc => ?_
          have Vc := Vb.trans uc
          refine ⟨Vc.mono (by simp), ?_⟩
          have sa := ((zeros_sl ha (by omega)).upd ub (by simp)).upd uc (by simp)
          have sb := (zeros_sl hb (by omega)).upd uc (by simp)
          have sc := zeros_sl hc (by omega)
          refine rq (.agg (thrC (i : Int) (.slice none 0 0) (0, 0, 0) (.slice (some ⟨xb.heap.size, 0, none⟩) l l) (.slice (some ⟨x1.drew.heap.size, 0, none⟩) l l) (.slice (some ⟨xa.heap.size, 0, none⟩) l l) (.slice none 0 0) (.slice none 0 0))) (fun _ _ => bd _ (fun _ => by kernel_rfl) ⟨rfl, rfl⟩) ?_
          refine bx fun xd hd ud zd => ?_
          have hd : Blk xd xc.heap.size TT (thrC (i : Int) (.slice none 0 0) (0, 0, 0) (.slice (some ⟨xb.heap.size, 0, none⟩) l l) (.slice (some ⟨x1.drew.heap.size, 0, none⟩) l l) (.slice (some ⟨xa.heap.size, 0, none⟩) l l) (.slice none 0 0) (.slice none 0 0)) := hd
          have Vd := Vc.trans ud
          refine ⟨Vd.mono (by simp), ?_⟩
          refine bs #[ptrV xc.heap.size] (fun _ => by kernel_rfl) fun xe he ue ze => ?_
          have Ve := Vd.trans ue
          refine ⟨Ve.mono (by simp), ?_⟩
          have zx := Vc.size
          refine apg (J.ths.upd Ve (by simp)) he rfl rfl (by decide) (by simp only [maxLen]; omega) (by omega) fun tv2 xf hsf hGf => ?_
          have Uf : Upd tv.ownBlock.toList x1 xf := (Ve.mono (by simp)).trans hGf.up
          refine ⟨Uf, ?_⟩
          obtain ⟨tva, tvc, rfl, -⟩ := hsf.form
          refine fa ?_
          refine st (hsb xf Uf) (by show 18 < 21; omega) rfl fun xg hg ug zg => ?_
          refine ar64 (by omega) ?_
          have Z : ThrZ xd xc.heap.size (ptrs.length : Int) l := by
            rw [hpl]
            exact ⟨_, _, _, hd, (sc).upd ud (by simp), (sa).upd ud (by simp), (sb).upd ud (by simp), dj3 (by omega) (by omega), dj2 (by omega)⟩
          have P1 := (((J.parts.upd (S := []) (by simp) Vd).snoc Z).upd (S := []) (by simp) ue).upd (S := tv.ownBlock.toList) (fun q hq => by
            obtain ⟨cs, hcs⟩ := sl_blk (J.ths.upd Ve (by simp)) (by simpa using hq)
            exact ⟨cs, _, hcs, .inr rfl⟩) hGf.up
          have P2 := P1.upd (S := [m]) (fun q hq => by
            simp only [List.mem_singleton] at hq
            subst hq
            exact ⟨_, _, hsb xf Uf, .inl rfl⟩) ug
          refine round_mk [.int .i64 ((i + 1 : Nat) : Int)] (t - (i + 1)) rfl rfl ⟨i + 1, .slice tva (ptrs.length + 1) tvc, ptrs ++ [xc.heap.size], rfl, by omega, rfl, by rw [List.length_append, hpl]; rfl, ?_, (hsc xf Uf).upd ug (by simp; exact fun h => hmg1 h.symm)⟩ (by omega)
          rw [hLn]
          refine ⟨hg, P2, ?_, ((J.up.trans Ve).step hGf.up (fun q hq => .inr (J.f3 q (by simpa using hq)))).step ug (by simp; exact J.f1), J.f1, J.f2, fun q hq => ?_, J.f4, fun q hq => ?_, J.f6⟩
          · have := hsf.farT (hsb xf Uf) (by decide) ug
            rw [List.length_append, List.map_append]
            exact this
          · rcases hGf.own q hq with h | h
            · exact J.f3 q h
            · have := J.up.size; have := Ve.size; omega
          · rcases List.mem_append.1 hq with h | h
            · exact J.f5 q h
            · have : q = xc.heap.size := by simpa using h
              have := J.up.size; have := Vc.size; omega
      · refine mks l hL hL (by omega) (by omega) fun xa ha ua za => ?_
        have Va := (Upd.refl [] x1).drew.trans ua
        refine ⟨Va.mono (by simp), ?_⟩
        refine ⟨?_, ?_⟩
        · refine mks l hL hL (by omega) (by omega) fun xb hb ub zb => ?_
          have Vb := Va.trans ub
          refine ⟨Vb.mono (by simp), ?_⟩
          refine mks l hL hL (by omega) (by omega) fun xc hc uc zc => ?_
          have Vc := Vb.trans uc
          refine ⟨Vc.mono (by simp), ?_⟩
          have sa := ((zeros_sl ha (by omega)).upd ub (by simp)).upd uc (by simp)
          have sb := (zeros_sl hb (by omega)).upd uc (by simp)
          have sc := zeros_sl hc (by omega)
          refine rq (.agg (thrC (i : Int) (.slice none 0 0) (0, 0, 0) (.slice (some ⟨xa.heap.size, 0, none⟩) l l) (.slice (some ⟨xb.heap.size, 0, none⟩) l l) (.slice (some ⟨x1.drew.heap.size, 0, none⟩) l l) (.slice none 0 0) (.slice none 0 0))) (fun _ _ => bd _ (fun _ => by kernel_rfl) ⟨rfl, rfl⟩) ?_
          refine bx fun xd hd ud zd => ?_
          have hd : Blk xd xc.heap.size TT (thrC (i : Int) (.slice none 0 0) (0, 0, 0) (.slice (some ⟨xa.heap.size, 0, none⟩) l l) (.slice (some ⟨xb.heap.size, 0, none⟩) l l) (.slice (some ⟨x1.drew.heap.size, 0, none⟩) l l) (.slice none 0 0) (.slice none 0 0)) := hd
          have Vd := Vc.trans ud
          refine ⟨Vd.mono (by simp), ?_⟩
          refine bs #[ptrV xc.heap.size] (fun _ => by kernel_rfl) fun xe he ue ze => ?_
          have Ve := Vd.trans ue
          refine ⟨Ve.mono (by simp), ?_⟩
          have zx := Vc.size
          refine apg (J.ths.upd Ve (by simp)) he rfl rfl (by decide) (by simp only [maxLen]; omega) (by omega) fun tv2 xf hsf hGf => ?_
          have Uf : Upd tv.ownBlock.toList x1 xf := (Ve.mono (by simp)).trans hGf.up
          refine ⟨Uf, ?_⟩
          obtain ⟨tva, tvc, rfl, -⟩ := hsf.form
          refine fa ?_
          refine st (hsb xf Uf) (by show 18 < 21; omega) rfl fun xg hg ug zg => ?_
          refine ar64 (by omega) ?_
          have Z : ThrZ xd xc.heap.size (ptrs.length : Int) l := by
            rw [hpl]
            exact ⟨_, _, _, hd, (sb).upd ud (by simp), (sc).upd ud (by simp), (sa).upd ud (by simp), dj3 (by omega) (by omega), dj2 (by omega)⟩
          have P1 := (((J.parts.upd (S := []) (by simp) Vd).snoc Z).upd (S := []) (by simp) ue).upd (S := tv.ownBlock.toList) (fun q hq => by
            obtain ⟨cs, hcs⟩ := sl_blk (J.ths.upd Ve (by simp)) (by simpa using hq)
            exact ⟨cs, _, hcs, .inr rfl⟩) hGf.up
          have P2 := P1.upd (S := [m]) (fun q hq => by
            simp only [List.mem_singleton] at hq
            subst hq
            exact ⟨_, _, hsb xf Uf, .inl rfl⟩) ug
          refine round_mk [.int .i64 ((i + 1 : Nat) : Int)] (t - (i + 1)) rfl rfl ⟨i + 1, .slice tva (ptrs.length + 1) tvc, ptrs ++ [xc.heap.size], rfl, by omega, rfl, by rw [List.length_append, hpl]; rfl, ?_, (hsc xf Uf).upd ug (by simp; exact fun h => hmg1 h.symm)⟩ (by omega)
          rw [hLn]
          refine ⟨hg, P2, ?_, ((J.up.trans Ve).step hGf.up (fun q hq => .inr (J.f3 q (by simpa using hq)))).step ug (by simp; exact J.f1), J.f1, J.f2, fun q hq => ?_, J.f4, fun q hq => ?_, J.f6⟩
          · have := hsf.farT (hsb xf Uf) (by decide) ug
            rw [List.length_append, List.map_append]
            exact this
          · rcases hGf.own q hq with h | h
            · exact J.f3 q h
            · have := J.up.size; have := Ve.size; omega
          · rcases List.mem_append.1 hq with h | h
            · exact J.f5 q h
            · have : q = xc.heap.size := by simpa using h
              have := J.up.size; have := Vc.size; omega
        · refine mks l hL hL (by omega) (by omega) fun xb hb ub zb => ?_
          have Vb := Va.trans ub
          refine ⟨Vb.mono (by simp), ?_⟩
          refine mks l hL hL (by omega) (by omega) fun xc hc uc zc => ?_
          have Vc := Vb.trans uc
          refine ⟨Vc.mono (by simp), ?_⟩
          have sa := ((zeros_sl ha (by omega)).upd ub (by simp)).upd uc (by simp)
          have sb := (zeros_sl hb (by omega)).upd uc (by simp)
          have sc := zeros_sl hc (by omega)
          refine rq (.agg (thrC (i : Int) (.slice none 0 0) (0, 0, 0) (.slice (some ⟨xb.heap.size, 0, none⟩) l l) (.slice (some ⟨xa.heap.size, 0, none⟩) l l) (.slice (some ⟨x1.drew.heap.size, 0, none⟩) l l) (.slice none 0 0) (.slice none 0 0))) (fun _ _ => bd _ (fun _ => by kernel_rfl) ⟨rfl, rfl⟩) ?_
          refine bx fun xd hd ud zd => ?_
          have hd : Blk xd xc.heap.size TT (thrC (i : Int) (.slice none 0 0) (0, 0, 0) (.slice (some ⟨xb.heap.size, 0, none⟩) l l) (.slice (some ⟨xa.heap.size, 0, none⟩) l l) (.slice (some ⟨x1.drew.heap.size, 0, none⟩) l l) (.slice none 0 0) (.slice none 0 0)) := hd
          have Vd := Vc.trans ud
          refine ⟨Vd.mono (by simp), ?_⟩
          refine bs #[ptrV xc.heap.size] (fun _ => by kernel_rfl) fun xe he ue ze => ?_
          have Ve := Vd.trans ue
          refine ⟨Ve.mono (by simp), ?_⟩
          have zx := Vc.size
          refine apg (J.ths.upd Ve (by simp)) he rfl rfl (by decide) (by simp only [maxLen]; omega) (by omega) fun tv2 xf hsf hGf => ?_
          have Uf : Upd tv.ownBlock.toList x1 xf := (Ve.mono (by simp)).trans hGf.up
          refine ⟨Uf, ?_⟩
          obtain ⟨tva, tvc, rfl, -⟩ := hsf.form
          refine fa ?_
          refine st (hsb xf Uf) (by show 18 < 21; omega) rfl fun xg hg ug zg => ?_
          refine ar64 (by omega) ?_
          have Z : ThrZ xd xc.heap.size (ptrs.length : Int) l := by
            rw [hpl]
            exact ⟨_, _, _, hd, (sc).upd ud (by simp), (sb).upd ud (by simp), (sa).upd ud (by simp), dj3 (by omega) (by omega), dj2 (by omega)⟩
          have P1 := (((J.parts.upd (S := []) (by simp) Vd).snoc Z).upd (S := []) (by simp) ue).upd (S := tv.ownBlock.toList) (fun q hq => by
            obtain ⟨cs, hcs⟩ := sl_blk (J.ths.upd Ve (by simp)) (by simpa using hq)
            exact ⟨cs, _, hcs, .inr rfl⟩) hGf.up
          have P2 := P1.upd (S := [m]) (fun q hq => by
            simp only [List.mem_singleton] at hq
            subst hq
            exact ⟨_, _, hsb xf Uf, .inl rfl⟩) ug
          refine round_mk [.int .i64 ((i + 1 : Nat) : Int)] (t - (i + 1)) rfl rfl ⟨i + 1, .slice tva (ptrs.length + 1) tvc, ptrs ++ [xc.heap.size], rfl, by omega, rfl, by rw [List.length_append, hpl]; rfl, ?_, (hsc xf Uf).upd ug (by simp; exact fun h => hmg1 h.symm)⟩ (by omega)
          rw [hLn]
          refine ⟨hg, P2, ?_, ((J.up.trans Ve).step hGf.up (fun q hq => .inr (J.f3 q (by simpa using hq)))).step ug (by simp; exact J.f1), J.f1, J.f2, fun q hq => ?_, J.f4, fun q hq => ?_, J.f6⟩
          · have := hsf.farT (hsb xf Uf) (by decide) ug
            rw [List.length_append, List.map_append]
            exact this
          · rcases hGf.own q hq with h | h
            · exact J.f3 q h
            · have := J.up.size; have := Ve.size; omega
          · rcases List.mem_append.1 hq with h | h
            · exact J.f5 q h
            · have : q = xc.heap.size := by simpa using h
              have := J.up.size; have := Vc.size; omega
    · have hi : i = t := by omega
      subst hi
      exact ⟨fun h => absurd hr h, fun _ => ⟨m, mp, mv, lv, fp, fv, _, _, tv, ptrs, rfl, J, by omega, (fun h => (by cases h)), (fun _ => ⟨_, _, rfl⟩)⟩⟩
end Go.Proofs.Ytdomclcokkijjaa
