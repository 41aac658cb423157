/- Contracts: core.New, all its things apart. -/
import Derived.Test.YtdomclcokkijjaaFb
namespace Go.Proofs.Ytdomclcokkijjaa
open Go.RowKit
attribute [local irreducible] Instr.loadAt Instr.storeAt Instr.fieldAt Instr.indexAt Instr.sliceAt Instr.buildSlice Instr.box Instr.alloc Builtin.append_ Builtin.len_ Builtin.min_ Builtin.max_ Calls Instr.build Instr.makeSlice binSem convert Instr.index Instr.range Instr.next
theorem Sep.singles {w : World} : Sep w [] := Sep.nil w
def thZ (g : Nat) (pv sv wv : Value) (l : Nat) : Th := ⟨g, .slice none 0 0, pv, sv, wv, .slice none 0 0, .slice none 0 0, [], (0, 0, 0), List.replicate l 0, List.replicate l 0, List.replicate l 0, [], []⟩
theorem obs_snoc (X : Mc) (tv : Value) (t : Th) : ({ X with tv := tv, ths := X.ths ++ [t] } : Mc).obs = (((X.obs ++ [obThr (X.ths.length : Int) t]).set 4 (obSl TTp 1 tv (X.ths.length + 1) (ptrs X.ths ++ [ptrV t.g]))).set 0 (Mc.obM { X with tv := tv })) := by
  unfold Mc.obs Mc.obM ptrs
  simp [List.mapIdx_append]
/-- a machine that is being made -/
structure New (w w' : World) (X : Mc) : Prop where
  ok : Mach w' X
  up : Upd [] w w'
  fr : ∀ k ∈ X.feet, w.heap.size ≤ k
theorem New.post {w w' w'' : World} {X X' : Mc} (h : New w w' X) (p : Post w' X w'' X') : New w w'' X' := by
  obtain ⟨h1, h2⟩ := p.to.new h.up h.fr
  exact ⟨p.ok, h1, h2⟩
theorem New.rebase {w0 w w' : World} {X : Mc} (h : New w w' X) (hu : Upd [] w0 w) : New w0 w' X := ⟨h.ok, hu.trans h.up, fun k hk => by have := h.fr k hk; have := hu.size; omega⟩
def mc0 (m : Nat) (c : Cf) (mp : Nat) (v lv : Value) (s : MS) (gs : Option Gs) (fp : Nat) (fv : Value) (draws : List Int) (tv : Value) (ths : List Th) : Mc := ⟨m, c, mp, v, lv, s, gs, fp, fv, draws, 0, tv, false, false, ths⟩
theorem thZ_sep {w : World} {g a b c l : Nat} {id : Int} (hb : Blk w g TT (thrC id (.slice none 0 0) (0, 0, 0) (.slice (some ⟨a, 0, none⟩) l l) (.slice (some ⟨b, 0, none⟩) l l) (.slice (some ⟨c, 0, none⟩) l l) (.slice none 0 0) (.slice none 0 0)))
    (h1 : Sl w 27 1 (.slice (some ⟨a, 0, none⟩) l l) l (zerosV l)) (h2 : Sl w 27 1 (.slice (some ⟨b, 0, none⟩) l l) l (zerosV l)) (h3 : Sl w 27 1 (.slice (some ⟨c, 0, none⟩) l l) l (zerosV l)) (n1 : a ≠ b) (n2 : a ≠ c) (n3 : b ≠ c) (n4 : g ≠ a) (n5 : g ≠ b) (n6 : g ≠ c) :
    Sep w ((thZ g (.slice (some ⟨a, 0, none⟩) l l) (.slice (some ⟨b, 0, none⟩) l l) (.slice (some ⟨c, 0, none⟩) l l) l).obs id) := by
  have e : ∀ v : Value, Sl w 27 1 v l (zerosV l) → (obU v (List.replicate l 0)).ok w := fun v h => by
    show Sl w _ 1 v (List.replicate l (0 : Int)).length _
    rw [List.length_replicate]; exact h
  have n0 : (obI (.slice none 0 0) []).ok w := Sl.nil_ _ _ _
  refine Sep.cons (Sep.cons (Sep.cons (Sep.cons (Sep.cons (Sep.cons (Sep.nil w) n0 ?_) n0 ?_) (e _ h3) ?_) (e _ h2) ?_) (e _ h1) ?_) (⟨hb, Sl.nil_ _ _ _⟩) ?_
  all_goals
    simp [feet, obSl, obCore, thZ, Value.ownBlock]
    try omega
set_option maxRecDepth 100000 in
theorem core_new2 {w : World} {v : Value} {draws : List Int} {A T N L B P S : Int} (gh : Bool) (hv : RdK w .u8 v draws) (hl : draws.length ≤ 5000) :
    Fn Try.prog 20 #[.agg (cf7 ⟨A, T, N, L, B, P, S⟩), v, .bool gh] w fun r w' => (¬ rightC ⟨A, T, N, L, B, P, S⟩ → r = .tuple #[.pointer none, .int .i64 6] ∧ Upd [] w w') ∧
      (rightC ⟨A, T, N, L, B, P, S⟩ → ∃ m mp mv lv fp fv gs tv ths, r = .tuple #[ptrV m, .int .i64 0] ∧ New w w' (mc0 m ⟨A, T, N, L, B, P, S⟩ mp mv lv (layS A T N L (newMS (sizeP A T N L).toNat)) gs fp fv draws tv ths) ∧ (ths.length : Int) = T ∧
        (∀ t ∈ ths, ∃ g pv sv wv, t = thZ g pv sv wv L.toNat) ∧ (gh = false → gs = none) ∧ (gh = true → ∃ gp gv', gs = some ⟨gp, gv', liveL N.toNat (sentP A).toNat, 0, 0⟩)) := by
  refine fn_enter Try.func20 rfl rfl ?_
  refine bx fun w1 hb1 hu1 hs1 => ?_
  have hb1 : Blk w1 w.heap.size 42 (cf7 ⟨A, T, N, L, B, P, S⟩) := hb1
  refine ldw hb1 rfl ?_
  refine cl (new_c ⟨A, T, N, L, B, P, S⟩ w1) ?_
  rintro _ w2 ⟨rfl, hu2⟩
  refine al z15 (fun _ => by kernel_rfl) fun w3 hb3 hu3 hs3 => ?_
  by_cases hr : rightC ⟨A, T, N, L, B, P, S⟩
  rotate_left
  · rw [if_neg hr, if_neg hr]
    refine stw hb3 rfl rfl rfl fun w4 hb4 hu4 hs4 => ?_
    exact ⟨fun _ => ⟨rfl, ((hu1.trans hu2).trans hu3).step hu4 (by have := hu1.size; have := hu2.size; simp; omega)⟩, fun h => absurd h hr⟩
  rw [if_pos hr, if_pos hr]
  obtain ⟨b1, b2, b3, b4, b5, b6, b7, b8, b9, b10, b11, b12⟩ := plan_bd hr
  refine stw hb3 rfl rfl rfl fun w4 hb4 hu4 hs4 => ?_
  have hb4 : Blk w4 w2.heap.size TP (planC ⟨A, T, N, L, B, P, S⟩) := hb4
  have hz2 := hu2.size
  have hU4 : Upd [] w w4 := ((hu1.trans hu2).trans hu3).step hu4 (by simp; omega)
  have hc4 := ((hb1.upd hu2 (by simp)).upd hu3 (by simp)).upd hu4 (by simp; omega)
  generalize hg1 : w.heap.size = g1 at hc4
  generalize w2.heap.size = g2 at *
  refine ldw hb4 rfl ?_
  refine cl (size_c A T N L B P S w4) ?_
  rintro _ w5 ⟨rfl, hu5⟩
  obtain ⟨n, hn⟩ : ∃ n : Nat, sizeP A T N L = (n : Int) := ⟨_, (Int.toNat_of_nonneg (by omega)).symm⟩
  have hnn : (sizeP A T N L).toNat = n := by omega
  rw [hnn, hn]
  refine cl (new_yes n w5 (by omega) (by omega)) ?_
  rintro _ w6 ⟨mp, mv, rfl, hm6, hu6, hf6⟩
  have hU6 := (hU4.trans hu5).trans hu6
  have hc6 := (hc4.upd hu5 (by simp)).upd hu6 (by simp)
  have hp6 := (hb4.upd hu5 (by simp)).upd hu6 (by simp)
  refine ldw hp6 rfl ?_
  refine cl (lay_c hm6 ⟨Int.le_refl _, Int.le_refl _, rfl, rfl⟩ hr) ?_
  rintro _ w7 ⟨lv, hm7, hu7, hf7⟩
  have hz46 : w4.heap.size ≤ w5.heap.size := hu5.size
  have hz4 := hU4.size
  have hF : ∀ k ∈ mfoot mp mv lv, w.heap.size ≤ k := fun k hk => by
    have h6 := hU6.size
    rcases hf7 k hk with h | h
    · have := hf6 k h; omega
    · omega
  have hU7 : Upd [] w w7 := hU6.step hu7 (fun k hk => .inr (by have := hf6 k hk; omega))
  have hc7 := hc6.upd hu7 (hm6.off hc6 (by decide) (by decide) (by decide))
  have hp7 := hp6.upd hu7 (hm6.off hp6 (by decide) (by decide) (by decide))
  generalize layS A T N L (newMS n) = ms at *
  refine draw_mix 6 [(0, true), (1, true), (2, true), (3, false), (4, true), (5, false)] (fun w' => Upd [] w7 w') (by decide +kernel) (Upd.refl [] w7).drew ?_
  refine rq (.agg (planC ⟨A, T, N, L, B, P, S⟩)) (fun w' hw' => ldw (hp7.upd hw' (by simp)) rfl ⟨rfl, rfl⟩) ?_
  refine cl (feed_new (hv.upd0 hU7.drew) (by omega)) ?_
  rintro _ w8 ⟨⟨fp, fv, rfl, hfp, hfv, hfd⟩, hu8⟩
  have hu78 : Upd [] w7 w8 := (Upd.refl [] w7).drew.trans hu8
  refine ⟨hu78, ?_⟩
  refine rq (.agg (machC ⟨A, T, N, L, B, P, S⟩ (ptrV mp) (.pointer none) (ptrV fp) (.slice none 0 0) false false)) (fun _ _ => bd _ (fun _ => by kernel_rfl) ⟨rfl, rfl⟩) ?_
  refine bx fun w9 hb9 hu9 hs9 => ?_
  refine ⟨hu78.trans hu9, ?_⟩
  have hb9 : Blk w9 w8.heap.size TM (machC ⟨A, T, N, L, B, P, S⟩ (ptrV mp) (.pointer none) (ptrV fp) (.slice none 0 0) false false) := hb9
  have hu79 := hu78.trans hu9
  have hU9 := hU7.trans hu79
  have e78 : w7.drew.heap.size = w7.heap.size := rfl
  have hz7 := hU7.size
  have hz78 := hu78.size
  have F9 : ∀ k ∈ fp :: fv.ownBlock.toList, w7.heap.size ≤ k := fun k hk => by
    rcases List.mem_cons.1 hk with h | h
    · rw [h]; exact hfp
    · exact hfv k (by simpa using h)
  have S8 : Sep w8 [obMem mp mv lv ms, obGh none, obFd fp fv draws 0, obSl TTp 1 (.slice none 0 0) 0 []] := by
    refine Sep.cons (Sep.cons (Sep.cons (Sep.cons (Sep.nil w8) (Sl.nil_ _ _ _) (by simp [obSl, Value.ownBlock])) hfd ?_) trivial (by simp [obGh, ghFoot])) (hm7.upd hu78 (by simp)) ?_
    · simp [feet, obSl, Value.ownBlock]
    · intro k hk hk2
      have := hm7.lt k hk
      simp only [feet, obGh, ghFoot, obFd, obSl, List.flatMap_cons, List.flatMap_nil, List.append_nil, List.nil_append] at hk2
      rcases List.mem_append.1 hk2 with h | h
      · have := F9 k h; omega
      · simp [Value.ownBlock] at h
  have N9 : New w w9 (mc0 w8.heap.size ⟨A, T, N, L, B, P, S⟩ mp mv lv ms none fp fv draws (.slice none 0 0) []) := by
    refine ⟨?_, hU9, ?_⟩
    · refine Sep.cons (y := obBlk w8.heap.size TM (machC ⟨A, T, N, L, B, P, S⟩ (ptrV mp) (.pointer none) (ptrV fp) (.slice none 0 0) false false)) (S8.upd0 hu9) hb9 ?_
      intro k hk hk2
      have h1 := S8.lt k hk2
      have h2 : k = w8.heap.size := List.mem_singleton.1 hk
      omega
    · intro k hk
      obtain ⟨x, hx, hk⟩ := mem_feet.1 hk
      have hx : x ∈ [obBlk w8.heap.size TM (machC ⟨A, T, N, L, B, P, S⟩ (ptrV mp) (.pointer none) (ptrV fp) (.slice none 0 0) false false), obMem mp mv lv ms, obGh none, obFd fp fv draws 0, obSl TTp 1 (.slice none 0 0) 0 []] := hx
      simp only [List.mem_cons, List.not_mem_nil, or_false] at hx
      rcases hx with rfl | rfl | rfl | rfl | rfl
      · have h2 : k = w8.heap.size := List.mem_singleton.1 hk
        omega
      · exact hF k hk
      · simp [obGh, ghFoot] at hk
      · have := F9 k hk; omega
      · simp [obSl, Value.ownBlock] at hk
  have hc9 := hc7.upd hu79 (by simp)
  have hp9 := hp7.upd hu79 (by simp)
  have hmg1 : w8.heap.size ≠ g1 := fun h => by have := hc7.lt; have := hu78.size; omega
  have hmg2 : w8.heap.size ≠ g2 := fun h => by have := hp7.lt; have := hu78.size; omega
  have hN9m := N9.ok.blk
  generalize w8.heap.size = m at *
  cases gh with
  | false =>
    refine fa ?_
    refine ldb (hc9) (v := .int .i64 T) rfl ?_
    obtain ⟨t, ht⟩ : ∃ t : Nat, T = (t : Int) := ⟨_, (Int.toNat_of_nonneg (by omega)).symm⟩
    refine loop_rule [3, 11, 49] [50] (fun vs w' k => ∃ (i : Nat) (tv : Value) (ths : List Th), vs = [.int .i64 (i : Int)] ∧ i ≤ t ∧ k = t - i ∧ ths.length = i ∧ (∀ t ∈ ths, ∃ g pv sv wv, t = thZ g pv sv wv L.toNat) ∧ New w w' (mc0 m ⟨A, T, N, L, B, P, S⟩ mp mv lv ms (none) fp fv draws tv ths) ∧ Blk w' g1 42 (cf7 ⟨A, T, N, L, B, P, S⟩)) rfl [.int .i64 0] t rfl
      ⟨0, _, _, rfl, by omega, rfl, rfl, (by simp), N9, hc9⟩ ?_
    rintro _ x1 k ⟨i, tv, ths, rfl, hi, rfl, hpl, hz, J, hx1⟩
    refine cd (fun hlt => ?_) (fun hlt => ?_)
    · obtain ⟨l, hL⟩ : ∃ l : Nat, L = (l : Int) := ⟨_, (Int.toNat_of_nonneg (by omega)).symm⟩
      have hLn : L.toNat = l := by omega
      have hne1 : tv.ownBlock ≠ some m := J.ok.tvs.blk_ne J.ok.blk (by decide)
      have hne2 : tv.ownBlock ≠ some g1 := J.ok.tvs.blk_ne hx1 (by decide)
      have hsb : ∀ w', Upd tv.ownBlock.toList x1 w' → Blk w' m TM (machC ⟨A, T, N, L, B, P, S⟩ (ptrV mp) (gvOf (none)) (ptrV fp) tv false false) := fun w' hu => J.ok.blk.upd hu (by show m ∉ _; simpa using hne1)
      have hsc : ∀ w', Upd tv.ownBlock.toList x1 w' → Blk w' g1 42 _ := fun w' hu => hx1.upd hu (by simpa using hne2)
      refine draw_tree 19 treeT (fun w' => Upd tv.ownBlock.toList x1 w') (by decide +kernel) (Upd.refl _ x1).drew ?_
      refine q_fa ?_
      refine q_ld (v := tv) (fun w' hw' => (hsb w' hw').cell 18) ?_
      refine q_fa ?_
      refine q_ld (v := .int .i64 L) (fun w' hw' => (hsc w' hw').cell 3) ?_
      refine q_fa ?_
      refine q_ld (v := .int .i64 L) (fun w' hw' => (hsc w' hw').cell 3) ?_
      refine q_fa ?_
      refine q_ld (v := .int .i64 L) (fun w' hw' => (hsc w' hw').cell 3) ?_
      have Us : Upd tv.ownBlock.toList x1 x1.drew := (Upd.refl _ x1).drew
      refine ⟨?_, ?_, ?_⟩
      · refine mks l hL hL (by omega) (by omega) fun xa ha ua za => ?_
        have Va := (Upd.refl [] x1).drew.trans ua
        refine ⟨Va.mono (by simp), ?_⟩
        refine ⟨?_, ?_⟩
        · refine mks l hL hL (by omega) (by omega) fun xb hb ub zb => ?_
          have Vb := Va.trans ub
          refine ⟨Vb.mono (by simp), ?_⟩
          refine mks l hL hL (by omega) (by omega) fun xc hc uc zc => ?_
          have Vc := Vb.trans uc
          refine ⟨Vc.mono (by simp), ?_⟩
          have sa := ((zeros_sl ha (by omega)).upd ub (by simp)).upd uc (by simp)
          have sb := (zeros_sl hb (by omega)).upd uc (by simp)
          have sc := zeros_sl hc (by omega)
          refine rq (.agg (thrC (i : Int) (.slice none 0 0) (0, 0, 0) (.slice (some ⟨x1.drew.heap.size, 0, none⟩) l l) (.slice (some ⟨xa.heap.size, 0, none⟩) l l) (.slice (some ⟨xb.heap.size, 0, none⟩) l l) (.slice none 0 0) (.slice none 0 0))) (fun _ _ => bd _ (fun _ => by kernel_rfl) ⟨rfl, rfl⟩) ?_
          refine bx fun xd hd ud zd => ?_
          have hd : Blk xd xc.heap.size TT (thrC (i : Int) (.slice none 0 0) (0, 0, 0) (.slice (some ⟨x1.drew.heap.size, 0, none⟩) l l) (.slice (some ⟨xa.heap.size, 0, none⟩) l l) (.slice (some ⟨xb.heap.size, 0, none⟩) l l) (.slice none 0 0) (.slice none 0 0)) := hd
          have Vd := Vc.trans ud
          refine ⟨Vd.mono (by simp), ?_⟩
          refine bs #[ptrV xc.heap.size] (fun _ => by kernel_rfl) fun xe he ue ze => ?_
          have Ve := Vd.trans ue
          refine ⟨Ve.mono (by simp), ?_⟩
          have zx := Vc.size
          have ex1 : x1.drew.heap.size = x1.heap.size := rfl
          refine apg (J.ok.tvs.upd Ve (by simp)) he rfl rfl (by decide) (by simp only [maxLen]; show ths.length + 1 ≤ _; omega) (by show (ths.length + 1) * 8 ≤ _; omega) fun tv2 xf hsf hGf => ?_
          have Uf : Upd tv.ownBlock.toList x1 xf := (Ve.mono (by simp)).trans hGf.up
          refine ⟨Uf, ?_⟩
          obtain ⟨tva, tvc, rfl, -⟩ := hsf.form
          replace hsf : Sl xf TTp 1 (.slice tva (ths.length + 1) tvc) (ths.length + 1) (ptrs ths ++ [ptrV xc.heap.size]) := hsf
          replace hGf : Grow xe xf tv (.slice tva (ths.length + 1) tvc) := hGf
          refine fa ?_
          refine st (hsb xf Uf) (by show 18 < 21; omega) rfl fun xg hg ug zg => ?_
          refine ar64 (by omega) ?_
          have Z : Sep xd ((thZ xc.heap.size (.slice (some ⟨x1.drew.heap.size, 0, none⟩) l l) (.slice (some ⟨xa.heap.size, 0, none⟩) l l) (.slice (some ⟨xb.heap.size, 0, none⟩) l l) l).obs (i : Int)) := thZ_sep hd ((sa).upd ud (by simp)) ((sb).upd ud (by simp)) ((sc).upd ud (by simp)) (by omega) (by omega) (by omega) (by omega) (by omega) (by omega)
          obtain ⟨th, hth⟩ : ∃ th, th = thZ xc.heap.size (.slice (some ⟨x1.drew.heap.size, 0, none⟩) l l) (.slice (some ⟨xa.heap.size, 0, none⟩) l l) (.slice (some ⟨xb.heap.size, 0, none⟩) l l) l := ⟨_, rfl⟩
          rw [← hth] at Z
          have hthg : th.g = xc.heap.size := by rw [hth]; rfl
          have hnew : ∀ k ∈ (obThr (i : Int) th).foot, x1.heap.size ≤ k := by
            rw [hth]
            show ∀ k ∈ feet _, _
            intro k hk
            simp [feet, Th.obs, obSl, obCore, thZ, Value.ownBlock] at hk
            rcases hk with rfl | rfl | rfl | rfl <;> omega
          have S1 := Sep.add (y := obThr (i : Int) th) J.ok Vd Z hnew
          have S2 := S1.upd0 ue
          have T2 : To x1 (Mc.feet (mc0 m ⟨A, T, N, L, B, P, S⟩ mp mv lv ms (none) fp fv draws tv ths)) xe (feet (Mc.obs (mc0 m ⟨A, T, N, L, B, P, S⟩ mp mv lv ms (none) fp fv draws tv ths) ++ [obThr (i : Int) th])) := ⟨Ve.mono (by simp), fun k hk => by
            rw [feet_app] at hk
            rcases List.mem_append.1 hk with h | h
            · exact .inl h
            · exact .inr (hnew k (by simpa [feet] using h))⟩
          have tz : To xe (obSl TTp 1 tv ths.length (ptrs ths)).foot xf (obSl TTp 1 (.slice tva (ths.length + 1) tvc) (ths.length + 1) (ptrs ths ++ [ptrV th.g])).foot := ⟨hGf.up, fun k hk => by
            rcases hGf.own k (by simpa [obSl] using hk) with h | h
            · exact .inl (by simpa [obSl] using h)
            · exact .inr h⟩
          have S3 := Sep.set (i := 4) (x := obSl TTp 1 tv ths.length (ptrs ths)) (y := obSl TTp 1 (.slice tva (ths.length + 1) tvc) (ths.length + 1) (ptrs ths ++ [ptrV th.g])) S2 rfl (by rw [hthg]; exact hsf) tz
          have T3 := T2.trans (To.set (l := Mc.obs (mc0 m ⟨A, T, N, L, B, P, S⟩ mp mv lv ms (none) fp fv draws tv ths) ++ [obThr (i : Int) th]) (i := 4) (x := obSl TTp 1 tv ths.length (ptrs ths)) rfl tz)
          have tm : To xf [m] xg [m] := ⟨ug, fun _ h => .inl h⟩
          have S4 := Sep.set (i := 0) (x := Mc.obM (mc0 m ⟨A, T, N, L, B, P, S⟩ mp mv lv ms (none) fp fv draws tv ths)) (y := Mc.obM (mc0 m ⟨A, T, N, L, B, P, S⟩ mp mv lv ms (none) fp fv draws (.slice tva (ths.length + 1) tvc) ths)) S3 rfl hg tm
          have T4 := T3.trans (To.set (i := 0) (x := Mc.obM (mc0 m ⟨A, T, N, L, B, P, S⟩ mp mv lv ms (none) fp fv draws tv ths)) (y := Mc.obM (mc0 m ⟨A, T, N, L, B, P, S⟩ mp mv lv ms (none) fp fv draws (.slice tva (ths.length + 1) tvc) ths)) rfl tm)
          have eo : Mc.obs (mc0 m ⟨A, T, N, L, B, P, S⟩ mp mv lv ms (none) fp fv draws (.slice tva (ths.length + 1) tvc) (ths ++ [th])) = (((Mc.obs (mc0 m ⟨A, T, N, L, B, P, S⟩ mp mv lv ms (none) fp fv draws tv ths) ++ [obThr (i : Int) th]).set 4 (obSl TTp 1 (.slice tva (ths.length + 1) tvc) (ths.length + 1) (ptrs ths ++ [ptrV th.g]))).set 0 (Mc.obM (mc0 m ⟨A, T, N, L, B, P, S⟩ mp mv lv ms (none) fp fv draws (.slice tva (ths.length + 1) tvc) ths))) := by
            have eo := obs_snoc (mc0 m ⟨A, T, N, L, B, P, S⟩ mp mv lv ms (none) fp fv draws tv ths) (.slice tva (ths.length + 1) tvc) th
            have el : ((mc0 m ⟨A, T, N, L, B, P, S⟩ mp mv lv ms (none) fp fv draws tv ths).ths.length : Int) = (i : Int) := by show (ths.length : Int) = _; rw [hpl]
            rw [el] at eo
            exact eo
          refine round_mk [.int .i64 ((i + 1 : Nat) : Int)] (t - (i + 1)) rfl rfl ⟨i + 1, .slice tva (ths.length + 1) tvc, ths ++ [th], rfl, by omega, rfl, by rw [List.length_append, hpl]; rfl, ?_, ?_, (hsc xf Uf).upd ug (by simp; exact fun h => hmg1 h.symm)⟩ (by omega)
          · intro t ht
            rcases List.mem_append.1 ht with h | h
            · exact hz t h
            · rw [List.mem_singleton.1 h, hth, hLn]
              exact ⟨_, _, _, _, rfl⟩
          · have P4 : Post x1 (mc0 m ⟨A, T, N, L, B, P, S⟩ mp mv lv ms (none) fp fv draws tv ths) xg (mc0 m ⟨A, T, N, L, B, P, S⟩ mp mv lv ms (none) fp fv draws (.slice tva (ths.length + 1) tvc) (ths ++ [th])) := by
              refine ⟨?_, ?_⟩
              · show Sep xg (Mc.obs (mc0 m ⟨A, T, N, L, B, P, S⟩ mp mv lv ms (none) fp fv draws (.slice tva (ths.length + 1) tvc) (ths ++ [th])))
                rw [eo]; exact S4
              · show To x1 (Mc.feet (mc0 m ⟨A, T, N, L, B, P, S⟩ mp mv lv ms (none) fp fv draws tv ths)) xg (feet (Mc.obs (mc0 m ⟨A, T, N, L, B, P, S⟩ mp mv lv ms (none) fp fv draws (.slice tva (ths.length + 1) tvc) (ths ++ [th]))))
                rw [eo]; exact T4
            exact J.post P4
        · refine mks l hL hL (by omega) (by omega) fun xb hb ub zb => ?_
          have Vb := Va.trans ub
          refine ⟨Vb.mono (by simp), ?_⟩
          refine mks l hL hL (by omega) (by omega) fun xc hc uc zc => ?_
          have Vc := Vb.trans uc
          refine ⟨Vc.mono (by simp), ?_⟩
          have sa := ((zeros_sl ha (by omega)).upd ub (by simp)).upd uc (by simp)
          have sb := (zeros_sl hb (by omega)).upd uc (by simp)
          have sc := zeros_sl hc (by omega)
          refine rq (.agg (thrC (i : Int) (.slice none 0 0) (0, 0, 0) (.slice (some ⟨x1.drew.heap.size, 0, none⟩) l l) (.slice (some ⟨xb.heap.size, 0, none⟩) l l) (.slice (some ⟨xa.heap.size, 0, none⟩) l l) (.slice none 0 0) (.slice none 0 0))) (fun _ _ => bd _ (fun _ => by kernel_rfl) ⟨rfl, rfl⟩) ?_
          refine bx fun xd hd ud zd => ?_
          have hd : Blk xd xc.heap.size TT (thrC (i : Int) (.slice none 0 0) (0, 0, 0) (.slice (some ⟨x1.drew.heap.size, 0, none⟩) l l) (.slice (some ⟨xb.heap.size, 0, none⟩) l l) (.slice (some ⟨xa.heap.size, 0, none⟩) l l) (.slice none 0 0) (.slice none 0 0)) := hd
          have Vd := Vc.trans ud
          refine ⟨Vd.mono (by simp), ?_⟩
          refine bs #[ptrV xc.heap.size] (fun _ => by kernel_rfl) fun xe he ue ze => ?_
          have Ve := Vd.trans ue
          refine ⟨Ve.mono (by simp), ?_⟩
          have zx := Vc.size
          have ex1 : x1.drew.heap.size = x1.heap.size := rfl
          refine apg (J.ok.tvs.upd Ve (by simp)) he rfl rfl (by decide) (by simp only [maxLen]; show ths.length + 1 ≤ _; omega) (by show (ths.length + 1) * 8 ≤ _; omega) fun tv2 xf hsf hGf => ?_
          have Uf : Upd tv.ownBlock.toList x1 xf := (Ve.mono (by simp)).trans hGf.up
          refine ⟨Uf, ?_⟩
          obtain ⟨tva, tvc, rfl, -⟩ := hsf.form
          replace hsf : Sl xf TTp 1 (.slice tva (ths.length + 1) tvc) (ths.length + 1) (ptrs ths ++ [ptrV xc.heap.size]) := hsf
          replace hGf : Grow xe xf tv (.slice tva (ths.length + 1) tvc) := hGf
          refine fa ?_
          refine st (hsb xf Uf) (by show 18 < 21; omega) rfl fun xg hg ug zg => ?_
          refine ar64 (by omega) ?_
          have Z : Sep xd ((thZ xc.heap.size (.slice (some ⟨x1.drew.heap.size, 0, none⟩) l l) (.slice (some ⟨xb.heap.size, 0, none⟩) l l) (.slice (some ⟨xa.heap.size, 0, none⟩) l l) l).obs (i : Int)) := thZ_sep hd ((sa).upd ud (by simp)) ((sc).upd ud (by simp)) ((sb).upd ud (by simp)) (by omega) (by omega) (by omega) (by omega) (by omega) (by omega)
          obtain ⟨th, hth⟩ : ∃ th, th = thZ xc.heap.size (.slice (some ⟨x1.drew.heap.size, 0, none⟩) l l) (.slice (some ⟨xb.heap.size, 0, none⟩) l l) (.slice (some ⟨xa.heap.size, 0, none⟩) l l) l := ⟨_, rfl⟩
          rw [← hth] at Z
          have hthg : th.g = xc.heap.size := by rw [hth]; rfl
          have hnew : ∀ k ∈ (obThr (i : Int) th).foot, x1.heap.size ≤ k := by
            rw [hth]
            show ∀ k ∈ feet _, _
            intro k hk
            simp [feet, Th.obs, obSl, obCore, thZ, Value.ownBlock] at hk
            rcases hk with rfl | rfl | rfl | rfl <;> omega
          have S1 := Sep.add (y := obThr (i : Int) th) J.ok Vd Z hnew
          have S2 := S1.upd0 ue
          have T2 : To x1 (Mc.feet (mc0 m ⟨A, T, N, L, B, P, S⟩ mp mv lv ms (none) fp fv draws tv ths)) xe (feet (Mc.obs (mc0 m ⟨A, T, N, L, B, P, S⟩ mp mv lv ms (none) fp fv draws tv ths) ++ [obThr (i : Int) th])) := ⟨Ve.mono (by simp), fun k hk => by
            rw [feet_app] at hk
            rcases List.mem_append.1 hk with h | h
            · exact .inl h
            · exact .inr (hnew k (by simpa [feet] using h))⟩
          have tz : To xe (obSl TTp 1 tv ths.length (ptrs ths)).foot xf (obSl TTp 1 (.slice tva (ths.length + 1) tvc) (ths.length + 1) (ptrs ths ++ [ptrV th.g])).foot := ⟨hGf.up, fun k hk => by
            rcases hGf.own k (by simpa [obSl] using hk) with h | h
            · exact .inl (by simpa [obSl] using h)
            · exact .inr h⟩
          have S3 := Sep.set (i := 4) (x := obSl TTp 1 tv ths.length (ptrs ths)) (y := obSl TTp 1 (.slice tva (ths.length + 1) tvc) (ths.length + 1) (ptrs ths ++ [ptrV th.g])) S2 rfl (by rw [hthg]; exact hsf) tz
          have T3 := T2.trans (To.set (l := Mc.obs (mc0 m ⟨A, T, N, L, B, P, S⟩ mp mv lv ms (none) fp fv draws tv ths) ++ [obThr (i : Int) th]) (i := 4) (x := obSl TTp 1 tv ths.length (ptrs ths)) rfl tz)
          have tm : To xf [m] xg [m] := ⟨ug, fun _ h => .inl h⟩
          have S4 := Sep.set (i := 0) (x := Mc.obM (mc0 m ⟨A, T, N, L, B, P, S⟩ mp mv lv ms (none) fp fv draws tv ths)) (y := Mc.obM (mc0 m ⟨A, T, N, L, B, P, S⟩ mp mv lv ms (none) fp fv draws (.slice tva (ths.length + 1) tvc) ths)) S3 rfl hg tm
          have T4 := T3.trans (To.set (i := 0) (x := Mc.obM (mc0 m ⟨A, T, N, L, B, P, S⟩ mp mv lv ms (none) fp fv draws tv ths)) (y := Mc.obM (mc0 m ⟨A, T, N, L, B, P, S⟩ mp mv lv ms (none) fp fv draws (.slice tva (ths.length + 1) tvc) ths)) rfl tm)
          have eo : Mc.obs (mc0 m ⟨A, T, N, L, B, P, S⟩ mp mv lv ms (none) fp fv draws (.slice tva (ths.length + 1) tvc) (ths ++ [th])) = (((Mc.obs (mc0 m ⟨A, T, N, L, B, P, S⟩ mp mv lv ms (none) fp fv draws tv ths) ++ [obThr (i : Int) th]).set 4 (obSl TTp 1 (.slice tva (ths.length + 1) tvc) (ths.length + 1) (ptrs ths ++ [ptrV th.g]))).set 0 (Mc.obM (mc0 m ⟨A, T, N, L, B, P, S⟩ mp mv lv ms (none) fp fv draws (.slice tva (ths.length + 1) tvc) ths))) := by
            have eo := obs_snoc (mc0 m ⟨A, T, N, L, B, P, S⟩ mp mv lv ms (none) fp fv draws tv ths) (.slice tva (ths.length + 1) tvc) th
            have el : ((mc0 m ⟨A, T, N, L, B, P, S⟩ mp mv lv ms (none) fp fv draws tv ths).ths.length : Int) = (i : Int) := by show (ths.length : Int) = _; rw [hpl]
            rw [el] at eo
            exact eo
          refine round_mk [.int .i64 ((i + 1 : Nat) : Int)] (t - (i + 1)) rfl rfl ⟨i + 1, .slice tva (ths.length + 1) tvc, ths ++ [th], rfl, by omega, rfl, by rw [List.length_append, hpl]; rfl, ?_, ?_, (hsc xf Uf).upd ug (by simp; exact fun h => hmg1 h.symm)⟩ (by omega)
          · intro t ht
            rcases List.mem_append.1 ht with h | h
            · exact hz t h
            · rw [List.mem_singleton.1 h, hth, hLn]
              exact ⟨_, _, _, _, rfl⟩
          · have P4 : Post x1 (mc0 m ⟨A, T, N, L, B, P, S⟩ mp mv lv ms (none) fp fv draws tv ths) xg (mc0 m ⟨A, T, N, L, B, P, S⟩ mp mv lv ms (none) fp fv draws (.slice tva (ths.length + 1) tvc) (ths ++ [th])) := by
              refine ⟨?_, ?_⟩
              · show Sep xg (Mc.obs (mc0 m ⟨A, T, N, L, B, P, S⟩ mp mv lv ms (none) fp fv draws (.slice tva (ths.length + 1) tvc) (ths ++ [th])))
                rw [eo]; exact S4
              · show To x1 (Mc.feet (mc0 m ⟨A, T, N, L, B, P, S⟩ mp mv lv ms (none) fp fv draws tv ths)) xg (feet (Mc.obs (mc0 m ⟨A, T, N, L, B, P, S⟩ mp mv lv ms (none) fp fv draws (.slice tva (ths.length + 1) tvc) (ths ++ [th]))))
                rw [eo]; exact T4
            exact J.post P4
      · refine mks l hL hL (by omega) (by omega) fun xa ha ua za => ?_
        have Va := (Upd.refl [] x1).drew.trans ua
        refine ⟨Va.mono (by simp), ?_⟩
        refine ⟨?_, ?_⟩
        · refine mks l hL hL (by omega) (by omega) fun xb hb ub zb => ?_
          have Vb := Va.trans ub
          refine ⟨Vb.mono (by simp), ?_⟩
          refine mks l hL hL (by omega) (by omega) fun xc hc uc zc => ?_
          have Vc := Vb.trans uc
          refine ⟨Vc.mono (by simp), ?_⟩
          have sa := ((zeros_sl ha (by omega)).upd ub (by simp)).upd uc (by simp)
          have sb := (zeros_sl hb (by omega)).upd uc (by simp)
          have sc := zeros_sl hc (by omega)
          refine rq (.agg (thrC (i : Int) (.slice none 0 0) (0, 0, 0) (.slice (some ⟨xa.heap.size, 0, none⟩) l l) (.slice (some ⟨x1.drew.heap.size, 0, none⟩) l l) (.slice (some ⟨xb.heap.size, 0, none⟩) l l) (.slice none 0 0) (.slice none 0 0))) (fun _ _ => bd _ (fun _ => by kernel_rfl) ⟨rfl, rfl⟩) ?_
          refine bx fun xd hd ud zd => ?_
          have hd : Blk xd xc.heap.size TT (thrC (i : Int) (.slice none 0 0) (0, 0, 0) (.slice (some ⟨xa.heap.size, 0, none⟩) l l) (.slice (some ⟨x1.drew.heap.size, 0, none⟩) l l) (.slice (some ⟨xb.heap.size, 0, none⟩) l l) (.slice none 0 0) (.slice none 0 0)) := hd
          have Vd := Vc.trans ud
          refine ⟨Vd.mono (by simp), ?_⟩
          refine bs #[ptrV xc.heap.size] (fun _ => by kernel_rfl) fun xe he ue ze => ?_
          have Ve := Vd.trans ue
          refine ⟨Ve.mono (by simp), ?_⟩
          have zx := Vc.size
          have ex1 : x1.drew.heap.size = x1.heap.size := rfl
          refine apg (J.ok.tvs.upd Ve (by simp)) he rfl rfl (by decide) (by simp only [maxLen]; show ths.length + 1 ≤ _; omega) (by show (ths.length + 1) * 8 ≤ _; omega) fun tv2 xf hsf hGf => ?_
          have Uf : Upd tv.ownBlock.toList x1 xf := (Ve.mono (by simp)).trans hGf.up
          refine ⟨Uf, ?_⟩
          obtain ⟨tva, tvc, rfl, -⟩ := hsf.form
          replace hsf : Sl xf TTp 1 (.slice tva (ths.length + 1) tvc) (ths.length + 1) (ptrs ths ++ [ptrV xc.heap.size]) := hsf
          replace hGf : Grow xe xf tv (.slice tva (ths.length + 1) tvc) := hGf
          refine fa ?_
          refine st (hsb xf Uf) (by show 18 < 21; omega) rfl fun xg hg ug zg => ?_
          refine ar64 (by omega) ?_
          have Z : Sep xd ((thZ xc.heap.size (.slice (some ⟨xa.heap.size, 0, none⟩) l l) (.slice (some ⟨x1.drew.heap.size, 0, none⟩) l l) (.slice (some ⟨xb.heap.size, 0, none⟩) l l) l).obs (i : Int)) := thZ_sep hd ((sb).upd ud (by simp)) ((sa).upd ud (by simp)) ((sc).upd ud (by simp)) (by omega) (by omega) (by omega) (by omega) (by omega) (by omega)
          obtain ⟨th, hth⟩ : ∃ th, th = thZ xc.heap.size (.slice (some ⟨xa.heap.size, 0, none⟩) l l) (.slice (some ⟨x1.drew.heap.size, 0, none⟩) l l) (.slice (some ⟨xb.heap.size, 0, none⟩) l l) l := ⟨_, rfl⟩
          rw [← hth] at Z
          have hthg : th.g = xc.heap.size := by rw [hth]; rfl
          have hnew : ∀ k ∈ (obThr (i : Int) th).foot, x1.heap.size ≤ k := by
            rw [hth]
            show ∀ k ∈ feet _, _
            intro k hk
            simp [feet, Th.obs, obSl, obCore, thZ, Value.ownBlock] at hk
            rcases hk with rfl | rfl | rfl | rfl <;> omega
          have S1 := Sep.add (y := obThr (i : Int) th) J.ok Vd Z hnew
          have S2 := S1.upd0 ue
          have T2 : To x1 (Mc.feet (mc0 m ⟨A, T, N, L, B, P, S⟩ mp mv lv ms (none) fp fv draws tv ths)) xe (feet (Mc.obs (mc0 m ⟨A, T, N, L, B, P, S⟩ mp mv lv ms (none) fp fv draws tv ths) ++ [obThr (i : Int) th])) := ⟨Ve.mono (by simp), fun k hk => by
            rw [feet_app] at hk
            rcases List.mem_append.1 hk with h | h
            · exact .inl h
            · exact .inr (hnew k (by simpa [feet] using h))⟩
          have tz : To xe (obSl TTp 1 tv ths.length (ptrs ths)).foot xf (obSl TTp 1 (.slice tva (ths.length + 1) tvc) (ths.length + 1) (ptrs ths ++ [ptrV th.g])).foot := ⟨hGf.up, fun k hk => by
            rcases hGf.own k (by simpa [obSl] using hk) with h | h
            · exact .inl (by simpa [obSl] using h)
            · exact .inr h⟩
          have S3 := Sep.set (i := 4) (x := obSl TTp 1 tv ths.length (ptrs ths)) (y := obSl TTp 1 (.slice tva (ths.length + 1) tvc) (ths.length + 1) (ptrs ths ++ [ptrV th.g])) S2 rfl (by rw [hthg]; exact hsf) tz
          have T3 := T2.trans (To.set (l := Mc.obs (mc0 m ⟨A, T, N, L, B, P, S⟩ mp mv lv ms (none) fp fv draws tv ths) ++ [obThr (i : Int) th]) (i := 4) (x := obSl TTp 1 tv ths.length (ptrs ths)) rfl tz)
          have tm : To xf [m] xg [m] := ⟨ug, fun _ h => .inl h⟩
          have S4 := Sep.set (i := 0) (x := Mc.obM (mc0 m ⟨A, T, N, L, B, P, S⟩ mp mv lv ms (none) fp fv draws tv ths)) (y := Mc.obM (mc0 m ⟨A, T, N, L, B, P, S⟩ mp mv lv ms (none) fp fv draws (.slice tva (ths.length + 1) tvc) ths)) S3 rfl hg tm
          have T4 := T3.trans (To.set (i := 0) (x := Mc.obM (mc0 m ⟨A, T, N, L, B, P, S⟩ mp mv lv ms (none) fp fv draws tv ths)) (y := Mc.obM (mc0 m ⟨A, T, N, L, B, P, S⟩ mp mv lv ms (none) fp fv draws (.slice tva (ths.length + 1) tvc) ths)) rfl tm)
          have eo : Mc.obs (mc0 m ⟨A, T, N, L, B, P, S⟩ mp mv lv ms (none) fp fv draws (.slice tva (ths.length + 1) tvc) (ths ++ [th])) = (((Mc.obs (mc0 m ⟨A, T, N, L, B, P, S⟩ mp mv lv ms (none) fp fv draws tv ths) ++ [obThr (i : Int) th]).set 4 (obSl TTp 1 (.slice tva (ths.length + 1) tvc) (ths.length + 1) (ptrs ths ++ [ptrV th.g]))).set 0 (Mc.obM (mc0 m ⟨A, T, N, L, B, P, S⟩ mp mv lv ms (none) fp fv draws (.slice tva (ths.length + 1) tvc) ths))) := by
            have eo := obs_snoc (mc0 m ⟨A, T, N, L, B, P, S⟩ mp mv lv ms (none) fp fv draws tv ths) (.slice tva (ths.length + 1) tvc) th
            have el : ((mc0 m ⟨A, T, N, L, B, P, S⟩ mp mv lv ms (none) fp fv draws tv ths).ths.length : Int) = (i : Int) := by show (ths.length : Int) = _; rw [hpl]
            rw [el] at eo
            exact eo
          refine round_mk [.int .i64 ((i + 1 : Nat) : Int)] (t - (i + 1)) rfl rfl ⟨i + 1, .slice tva (ths.length + 1) tvc, ths ++ [th], rfl, by omega, rfl, by rw [List.length_append, hpl]; rfl, ?_, ?_, (hsc xf Uf).upd ug (by simp; exact fun h => hmg1 h.symm)⟩ (by omega)
          · intro t ht
            rcases List.mem_append.1 ht with h | h
            · exact hz t h
            · rw [List.mem_singleton.1 h, hth, hLn]
              exact ⟨_, _, _, _, rfl⟩
          · have P4 : Post x1 (mc0 m ⟨A, T, N, L, B, P, S⟩ mp mv lv ms (none) fp fv draws tv ths) xg (mc0 m ⟨A, T, N, L, B, P, S⟩ mp mv lv ms (none) fp fv draws (.slice tva (ths.length + 1) tvc) (ths ++ [th])) := by
              refine ⟨?_, ?_⟩
              · show Sep xg (Mc.obs (mc0 m ⟨A, T, N, L, B, P, S⟩ mp mv lv ms (none) fp fv draws (.slice tva (ths.length + 1) tvc) (ths ++ [th])))
                rw [eo]; exact S4
              · show To x1 (Mc.feet (mc0 m ⟨A, T, N, L, B, P, S⟩ mp mv lv ms (none) fp fv draws tv ths)) xg (feet (Mc.obs (mc0 m ⟨A, T, N, L, B, P, S⟩ mp mv lv ms (none) fp fv draws (.slice tva (ths.length + 1) tvc) (ths ++ [th]))))
                rw [eo]; exact T4
            exact J.post P4
        · refine mks l hL hL (by omega) (by omega) fun xb hb ub zb => ?_
          have Vb := Va.trans ub
          refine ⟨Vb.mono (by simp), ?_⟩
          refine mks l hL hL (by omega) (by omega) fun xc hc uc zc => ?_
          have Vc := Vb.trans uc
          refine ⟨Vc.mono (by simp), ?_⟩
          have sa := ((zeros_sl ha (by omega)).upd ub (by simp)).upd uc (by simp)
          have sb := (zeros_sl hb (by omega)).upd uc (by simp)
          have sc := zeros_sl hc (by omega)
          refine rq (.agg (thrC (i : Int) (.slice none 0 0) (0, 0, 0) (.slice (some ⟨xb.heap.size, 0, none⟩) l l) (.slice (some ⟨x1.drew.heap.size, 0, none⟩) l l) (.slice (some ⟨xa.heap.size, 0, none⟩) l l) (.slice none 0 0) (.slice none 0 0))) (fun _ _ => bd _ (fun _ => by kernel_rfl) ⟨rfl, rfl⟩) ?_
          refine bx fun xd hd ud zd => ?_
          have hd : Blk xd xc.heap.size TT (thrC (i : Int) (.slice none 0 0) (0, 0, 0) (.slice (some ⟨xb.heap.size, 0, none⟩) l l) (.slice (some ⟨x1.drew.heap.size, 0, none⟩) l l) (.slice (some ⟨xa.heap.size, 0, none⟩) l l) (.slice none 0 0) (.slice none 0 0)) := hd
          have Vd := Vc.trans ud
          refine ⟨Vd.mono (by simp), ?_⟩
          refine bs #[ptrV xc.heap.size] (fun _ => by kernel_rfl) fun xe he ue ze => ?_
          have Ve := Vd.trans ue
          refine ⟨Ve.mono (by simp), ?_⟩
          have zx := Vc.size
          have ex1 : x1.drew.heap.size = x1.heap.size := rfl
          refine apg (J.ok.tvs.upd Ve (by simp)) he rfl rfl (by decide) (by simp only [maxLen]; show ths.length + 1 ≤ _; omega) (by show (ths.length + 1) * 8 ≤ _; omega) fun tv2 xf hsf hGf => ?_
          have Uf : Upd tv.ownBlock.toList x1 xf := (Ve.mono (by simp)).trans hGf.up
          refine ⟨Uf, ?_⟩
          obtain ⟨tva, tvc, rfl, -⟩ := hsf.form
          replace hsf : Sl xf TTp 1 (.slice tva (ths.length + 1) tvc) (ths.length + 1) (ptrs ths ++ [ptrV xc.heap.size]) := hsf
          replace hGf : Grow xe xf tv (.slice tva (ths.length + 1) tvc) := hGf
          refine fa ?_
          refine st (hsb xf Uf) (by show 18 < 21; omega) rfl fun xg hg ug zg => ?_
          refine ar64 (by omega) ?_
          have Z : Sep xd ((thZ xc.heap.size (.slice (some ⟨xb.heap.size, 0, none⟩) l l) (.slice (some ⟨x1.drew.heap.size, 0, none⟩) l l) (.slice (some ⟨xa.heap.size, 0, none⟩) l l) l).obs (i : Int)) := thZ_sep hd ((sc).upd ud (by simp)) ((sa).upd ud (by simp)) ((sb).upd ud (by simp)) (by omega) (by omega) (by omega) (by omega) (by omega) (by omega)
          obtain ⟨th, hth⟩ : ∃ th, th = thZ xc.heap.size (.slice (some ⟨xb.heap.size, 0, none⟩) l l) (.slice (some ⟨x1.drew.heap.size, 0, none⟩) l l) (.slice (some ⟨xa.heap.size, 0, none⟩) l l) l := ⟨_, rfl⟩
          rw [← hth] at Z
          have hthg : th.g = xc.heap.size := by rw [hth]; rfl
          have hnew : ∀ k ∈ (obThr (i : Int) th).foot, x1.heap.size ≤ k := by
            rw [hth]
            show ∀ k ∈ feet _, _
            intro k hk
            simp [feet, Th.obs, obSl, obCore, thZ, Value.ownBlock] at hk
            rcases hk with rfl | rfl | rfl | rfl <;> omega
          have S1 := Sep.add (y := obThr (i : Int) th) J.ok Vd Z hnew
          have S2 := S1.upd0 ue
          have T2 : To x1 (Mc.feet (mc0 m ⟨A, T, N, L, B, P, S⟩ mp mv lv ms (none) fp fv draws tv ths)) xe (feet (Mc.obs (mc0 m ⟨A, T, N, L, B, P, S⟩ mp mv lv ms (none) fp fv draws tv ths) ++ [obThr (i : Int) th])) := ⟨Ve.mono (by simp), fun k hk => by
            rw [feet_app] at hk
            rcases List.mem_append.1 hk with h | h
            · exact .inl h
            · exact .inr (hnew k (by simpa [feet] using h))⟩
          have tz : To xe (obSl TTp 1 tv ths.length (ptrs ths)).foot xf (obSl TTp 1 (.slice tva (ths.length + 1) tvc) (ths.length + 1) (ptrs ths ++ [ptrV th.g])).foot := ⟨hGf.up, fun k hk => by
            rcases hGf.own k (by simpa [obSl] using hk) with h | h
            · exact .inl (by simpa [obSl] using h)
            · exact .inr h⟩
          have S3 := Sep.set (i := 4) (x := obSl TTp 1 tv ths.length (ptrs ths)) (y := obSl TTp 1 (.slice tva (ths.length + 1) tvc) (ths.length + 1) (ptrs ths ++ [ptrV th.g])) S2 rfl (by rw [hthg]; exact hsf) tz
          have T3 := T2.trans (To.set (l := Mc.obs (mc0 m ⟨A, T, N, L, B, P, S⟩ mp mv lv ms (none) fp fv draws tv ths) ++ [obThr (i : Int) th]) (i := 4) (x := obSl TTp 1 tv ths.length (ptrs ths)) rfl tz)
          have tm : To xf [m] xg [m] := ⟨ug, fun _ h => .inl h⟩
          have S4 := Sep.set (i := 0) (x := Mc.obM (mc0 m ⟨A, T, N, L, B, P, S⟩ mp mv lv ms (none) fp fv draws tv ths)) (y := Mc.obM (mc0 m ⟨A, T, N, L, B, P, S⟩ mp mv lv ms (none) fp fv draws (.slice tva (ths.length + 1) tvc) ths)) S3 rfl hg tm
          have T4 := T3.trans (To.set (i := 0) (x := Mc.obM (mc0 m ⟨A, T, N, L, B, P, S⟩ mp mv lv ms (none) fp fv draws tv ths)) (y := Mc.obM (mc0 m ⟨A, T, N, L, B, P, S⟩ mp mv lv ms (none) fp fv draws (.slice tva (ths.length + 1) tvc) ths)) rfl tm)
          have eo : Mc.obs (mc0 m ⟨A, T, N, L, B, P, S⟩ mp mv lv ms (none) fp fv draws (.slice tva (ths.length + 1) tvc) (ths ++ [th])) = (((Mc.obs (mc0 m ⟨A, T, N, L, B, P, S⟩ mp mv lv ms (none) fp fv draws tv ths) ++ [obThr (i : Int) th]).set 4 (obSl TTp 1 (.slice tva (ths.length + 1) tvc) (ths.length + 1) (ptrs ths ++ [ptrV th.g]))).set 0 (Mc.obM (mc0 m ⟨A, T, N, L, B, P, S⟩ mp mv lv ms (none) fp fv draws (.slice tva (ths.length + 1) tvc) ths))) := by
            have eo := obs_snoc (mc0 m ⟨A, T, N, L, B, P, S⟩ mp mv lv ms (none) fp fv draws tv ths) (.slice tva (ths.length + 1) tvc) th
            have el : ((mc0 m ⟨A, T, N, L, B, P, S⟩ mp mv lv ms (none) fp fv draws tv ths).ths.length : Int) = (i : Int) := by show (ths.length : Int) = _; rw [hpl]
            rw [el] at eo
            exact eo
          refine round_mk [.int .i64 ((i + 1 : Nat) : Int)] (t - (i + 1)) rfl rfl ⟨i + 1, .slice tva (ths.length + 1) tvc, ths ++ [th], rfl, by omega, rfl, by rw [List.length_append, hpl]; rfl, ?_, ?_, (hsc xf Uf).upd ug (by simp; exact fun h => hmg1 h.symm)⟩ (by omega)
          · intro t ht
            rcases List.mem_append.1 ht with h | h
            · exact hz t h
            · rw [List.mem_singleton.1 h, hth, hLn]
              exact ⟨_, _, _, _, rfl⟩
          · have P4 : Post x1 (mc0 m ⟨A, T, N, L, B, P, S⟩ mp mv lv ms (none) fp fv draws tv ths) xg (mc0 m ⟨A, T, N, L, B, P, S⟩ mp mv lv ms (none) fp fv draws (.slice tva (ths.length + 1) tvc) (ths ++ [th])) := by
              refine ⟨?_, ?_⟩
              · show Sep xg (Mc.obs (mc0 m ⟨A, T, N, L, B, P, S⟩ mp mv lv ms (none) fp fv draws (.slice tva (ths.length + 1) tvc) (ths ++ [th])))
                rw [eo]; exact S4
              · show To x1 (Mc.feet (mc0 m ⟨A, T, N, L, B, P, S⟩ mp mv lv ms (none) fp fv draws tv ths)) xg (feet (Mc.obs (mc0 m ⟨A, T, N, L, B, P, S⟩ mp mv lv ms (none) fp fv draws (.slice tva (ths.length + 1) tvc) (ths ++ [th]))))
                rw [eo]; exact T4
            exact J.post P4
      · refine mks l hL hL (by omega) (by omega) fun xa ha ua za => ?_
        have Va := (Upd.refl [] x1).drew.trans ua
        refine ⟨Va.mono (by simp), ?_⟩
        refine ⟨?_, ?_⟩
        · refine mks l hL hL (by omega) (by omega) fun xb hb ub zb => ?_
          have Vb := Va.trans ub
          refine ⟨Vb.mono (by simp), ?_⟩
          refine mks l hL hL (by omega) (by omega) fun xc hc uc zc => ?_
          have Vc := Vb.trans uc
          refine ⟨Vc.mono (by simp), ?_⟩
          have sa := ((zeros_sl ha (by omega)).upd ub (by simp)).upd uc (by simp)
          have sb := (zeros_sl hb (by omega)).upd uc (by simp)
          have sc := zeros_sl hc (by omega)
          refine rq (.agg (thrC (i : Int) (.slice none 0 0) (0, 0, 0) (.slice (some ⟨xa.heap.size, 0, none⟩) l l) (.slice (some ⟨xb.heap.size, 0, none⟩) l l) (.slice (some ⟨x1.drew.heap.size, 0, none⟩) l l) (.slice none 0 0) (.slice none 0 0))) (fun _ _ => bd _ (fun _ => by kernel_rfl) ⟨rfl, rfl⟩) ?_
          refine bx fun xd hd ud zd => ?_
          have hd : Blk xd xc.heap.size TT (thrC (i : Int) (.slice none 0 0) (0, 0, 0) (.slice (some ⟨xa.heap.size, 0, none⟩) l l) (.slice (some ⟨xb.heap.size, 0, none⟩) l l) (.slice (some ⟨x1.drew.heap.size, 0, none⟩) l l) (.slice none 0 0) (.slice none 0 0)) := hd
          have Vd := Vc.trans ud
          refine ⟨Vd.mono (by simp), ?_⟩
          refine bs #[ptrV xc.heap.size] (fun _ => by kernel_rfl) fun xe he ue ze => ?_
          have Ve := Vd.trans ue
          refine ⟨Ve.mono (by simp), ?_⟩
          have zx := Vc.size
          have ex1 : x1.drew.heap.size = x1.heap.size := rfl
          refine apg (J.ok.tvs.upd Ve (by simp)) he rfl rfl (by decide) (by simp only [maxLen]; show ths.length + 1 ≤ _; omega) (by show (ths.length + 1) * 8 ≤ _; omega) fun tv2 xf hsf hGf => ?_
          have Uf : Upd tv.ownBlock.toList x1 xf := (Ve.mono (by simp)).trans hGf.up
          refine ⟨Uf, ?_⟩
          obtain ⟨tva, tvc, rfl, -⟩ := hsf.form
          replace hsf : Sl xf TTp 1 (.slice tva (ths.length + 1) tvc) (ths.length + 1) (ptrs ths ++ [ptrV xc.heap.size]) := hsf
          replace hGf : Grow xe xf tv (.slice tva (ths.length + 1) tvc) := hGf
          refine fa ?_
          refine st (hsb xf Uf) (by show 18 < 21; omega) rfl fun xg hg ug zg => ?_
          refine ar64 (by omega) ?_
          have Z : Sep xd ((thZ xc.heap.size (.slice (some ⟨xa.heap.size, 0, none⟩) l l) (.slice (some ⟨xb.heap.size, 0, none⟩) l l) (.slice (some ⟨x1.drew.heap.size, 0, none⟩) l l) l).obs (i : Int)) := thZ_sep hd ((sb).upd ud (by simp)) ((sc).upd ud (by simp)) ((sa).upd ud (by simp)) (by omega) (by omega) (by omega) (by omega) (by omega) (by omega)
          obtain ⟨th, hth⟩ : ∃ th, th = thZ xc.heap.size (.slice (some ⟨xa.heap.size, 0, none⟩) l l) (.slice (some ⟨xb.heap.size, 0, none⟩) l l) (.slice (some ⟨x1.drew.heap.size, 0, none⟩) l l) l := ⟨_, rfl⟩
          rw [← hth] at Z
          have hthg : th.g = xc.heap.size := by rw [hth]; rfl
          have hnew : ∀ k ∈ (obThr (i : Int) th).foot, x1.heap.size ≤ k := by
            rw [hth]
            show ∀ k ∈ feet _, _
            intro k hk
            simp [feet, Th.obs, obSl, obCore, thZ, Value.ownBlock] at hk
            rcases hk with rfl | rfl | rfl | rfl <;> omega
          have S1 := Sep.add (y := obThr (i : Int) th) J.ok Vd Z hnew
          have S2 := S1.upd0 ue
          have T2 : To x1 (Mc.feet (mc0 m ⟨A, T, N, L, B, P, S⟩ mp mv lv ms (none) fp fv draws tv ths)) xe (feet (Mc.obs (mc0 m ⟨A, T, N, L, B, P, S⟩ mp mv lv ms (none) fp fv draws tv ths) ++ [obThr (i : Int) th])) := ⟨Ve.mono (by simp), fun k hk => by
            rw [feet_app] at hk
            rcases List.mem_append.1 hk with h | h
            · exact .inl h
            · exact .inr (hnew k (by simpa [feet] using h))⟩
          have tz : To xe (obSl TTp 1 tv ths.length (ptrs ths)).foot xf (obSl TTp 1 (.slice tva (ths.length + 1) tvc) (ths.length + 1) (ptrs ths ++ [ptrV th.g])).foot := ⟨hGf.up, fun k hk => by
            rcases hGf.own k (by simpa [obSl] using hk) with h | h
            · exact .inl (by simpa [obSl] using h)
            · exact .inr h⟩
          have S3 := Sep.set (i := 4) (x := obSl TTp 1 tv ths.length (ptrs ths)) (y := obSl TTp 1 (.slice tva (ths.length + 1) tvc) (ths.length + 1) (ptrs ths ++ [ptrV th.g])) S2 rfl (by rw [hthg]; exact hsf) tz
          have T3 := T2.trans (To.set (l := Mc.obs (mc0 m ⟨A, T, N, L, B, P, S⟩ mp mv lv ms (none) fp fv draws tv ths) ++ [obThr (i : Int) th]) (i := 4) (x := obSl TTp 1 tv ths.length (ptrs ths)) rfl tz)
          have tm : To xf [m] xg [m] := ⟨ug, fun _ h => .inl h⟩
          have S4 := Sep.set (i := 0) (x := Mc.obM (mc0 m ⟨A, T, N, L, B, P, S⟩ mp mv lv ms (none) fp fv draws tv ths)) (y := Mc.obM (mc0 m ⟨A, T, N, L, B, P, S⟩ mp mv lv ms (none) fp fv draws (.slice tva (ths.length + 1) tvc) ths)) S3 rfl hg tm
          have T4 := T3.trans (To.set (i := 0) (x := Mc.obM (mc0 m ⟨A, T, N, L, B, P, S⟩ mp mv lv ms (none) fp fv draws tv ths)) (y := Mc.obM (mc0 m ⟨A, T, N, L, B, P, S⟩ mp mv lv ms (none) fp fv draws (.slice tva (ths.length + 1) tvc) ths)) rfl tm)
          have eo : Mc.obs (mc0 m ⟨A, T, N, L, B, P, S⟩ mp mv lv ms (none) fp fv draws (.slice tva (ths.length + 1) tvc) (ths ++ [th])) = (((Mc.obs (mc0 m ⟨A, T, N, L, B, P, S⟩ mp mv lv ms (none) fp fv draws tv ths) ++ [obThr (i : Int) th]).set 4 (obSl TTp 1 (.slice tva (ths.length + 1) tvc) (ths.length + 1) (ptrs ths ++ [ptrV th.g]))).set 0 (Mc.obM (mc0 m ⟨A, T, N, L, B, P, S⟩ mp mv lv ms (none) fp fv draws (.slice tva (ths.length + 1) tvc) ths))) := by
            have eo := obs_snoc (mc0 m ⟨A, T, N, L, B, P, S⟩ mp mv lv ms (none) fp fv draws tv ths) (.slice tva (ths.length + 1) tvc) th
            have el : ((mc0 m ⟨A, T, N, L, B, P, S⟩ mp mv lv ms (none) fp fv draws tv ths).ths.length : Int) = (i : Int) := by show (ths.length : Int) = _; rw [hpl]
            rw [el] at eo
            exact eo
          refine round_mk [.int .i64 ((i + 1 : Nat) : Int)] (t - (i + 1)) rfl rfl ⟨i + 1, .slice tva (ths.length + 1) tvc, ths ++ [th], rfl, by omega, rfl, by rw [List.length_append, hpl]; rfl, ?_, ?_, (hsc xf Uf).upd ug (by simp; exact fun h => hmg1 h.symm)⟩ (by omega)
          · intro t ht
            rcases List.mem_append.1 ht with h | h
            · exact hz t h
            · rw [List.mem_singleton.1 h, hth, hLn]
              exact ⟨_, _, _, _, rfl⟩
          · have P4 : Post x1 (mc0 m ⟨A, T, N, L, B, P, S⟩ mp mv lv ms (none) fp fv draws tv ths) xg (mc0 m ⟨A, T, N, L, B, P, S⟩ mp mv lv ms (none) fp fv draws (.slice tva (ths.length + 1) tvc) (ths ++ [th])) := by
              refine ⟨?_, ?_⟩
              · show Sep xg (Mc.obs (mc0 m ⟨A, T, N, L, B, P, S⟩ mp mv lv ms (none) fp fv draws (.slice tva (ths.length + 1) tvc) (ths ++ [th])))
                rw [eo]; exact S4
              · show To x1 (Mc.feet (mc0 m ⟨A, T, N, L, B, P, S⟩ mp mv lv ms (none) fp fv draws tv ths)) xg (feet (Mc.obs (mc0 m ⟨A, T, N, L, B, P, S⟩ mp mv lv ms (none) fp fv draws (.slice tva (ths.length + 1) tvc) (ths ++ [th]))))
                rw [eo]; exact T4
            exact J.post P4
        · refine mks l hL hL (by omega) (by omega) fun xb hb ub zb => ?_
          have Vb := Va.trans ub
          refine ⟨Vb.mono (by simp), ?_⟩
          refine mks l hL hL (by omega) (by omega) fun xc hc uc zc => ?_
          have Vc := Vb.trans uc
          refine ⟨Vc.mono (by simp), ?_⟩
          have sa := ((zeros_sl ha (by omega)).upd ub (by simp)).upd uc (by simp)
          have sb := (zeros_sl hb (by omega)).upd uc (by simp)
          have sc := zeros_sl hc (by omega)
          refine rq (.agg (thrC (i : Int) (.slice none 0 0) (0, 0, 0) (.slice (some ⟨xb.heap.size, 0, none⟩) l l) (.slice (some ⟨xa.heap.size, 0, none⟩) l l) (.slice (some ⟨x1.drew.heap.size, 0, none⟩) l l) (.slice none 0 0) (.slice none 0 0))) (fun _ _ => bd _ (fun _ => by kernel_rfl) ⟨rfl, rfl⟩) ?_
          refine bx fun xd hd ud zd => ?_
          have hd : Blk xd xc.heap.size TT (thrC (i : Int) (.slice none 0 0) (0, 0, 0) (.slice (some ⟨xb.heap.size, 0, none⟩) l l) (.slice (some ⟨xa.heap.size, 0, none⟩) l l) (.slice (some ⟨x1.drew.heap.size, 0, none⟩) l l) (.slice none 0 0) (.slice none 0 0)) := hd
          have Vd := Vc.trans ud
          refine ⟨Vd.mono (by simp), ?_⟩
          refine bs #[ptrV xc.heap.size] (fun _ => by kernel_rfl) fun xe he ue ze => ?_
          have Ve := Vd.trans ue
          refine ⟨Ve.mono (by simp), ?_⟩
          have zx := Vc.size
          have ex1 : x1.drew.heap.size = x1.heap.size := rfl
          refine apg (J.ok.tvs.upd Ve (by simp)) he rfl rfl (by decide) (by simp only [maxLen]; show ths.length + 1 ≤ _; omega) (by show (ths.length + 1) * 8 ≤ _; omega) fun tv2 xf hsf hGf => ?_
          have Uf : Upd tv.ownBlock.toList x1 xf := (Ve.mono (by simp)).trans hGf.up
          refine ⟨Uf, ?_⟩
          obtain ⟨tva, tvc, rfl, -⟩ := hsf.form
          replace hsf : Sl xf TTp 1 (.slice tva (ths.length + 1) tvc) (ths.length + 1) (ptrs ths ++ [ptrV xc.heap.size]) := hsf
          replace hGf : Grow xe xf tv (.slice tva (ths.length + 1) tvc) := hGf
          refine fa ?_
          refine st (hsb xf Uf) (by show 18 < 21; omega) rfl fun xg hg ug zg => ?_
          refine ar64 (by omega) ?_
          have Z : Sep xd ((thZ xc.heap.size (.slice (some ⟨xb.heap.size, 0, none⟩) l l) (.slice (some ⟨xa.heap.size, 0, none⟩) l l) (.slice (some ⟨x1.drew.heap.size, 0, none⟩) l l) l).obs (i : Int)) := thZ_sep hd ((sc).upd ud (by simp)) ((sb).upd ud (by simp)) ((sa).upd ud (by simp)) (by omega) (by omega) (by omega) (by omega) (by omega) (by omega)
          obtain ⟨th, hth⟩ : ∃ th, th = thZ xc.heap.size (.slice (some ⟨xb.heap.size, 0, none⟩) l l) (.slice (some ⟨xa.heap.size, 0, none⟩) l l) (.slice (some ⟨x1.drew.heap.size, 0, none⟩) l l) l := ⟨_, rfl⟩
          rw [← hth] at Z
          have hthg : th.g = xc.heap.size := by rw [hth]; rfl
          have hnew : ∀ k ∈ (obThr (i : Int) th).foot, x1.heap.size ≤ k := by
            rw [hth]
            show ∀ k ∈ feet _, _
            intro k hk
            simp [feet, Th.obs, obSl, obCore, thZ, Value.ownBlock] at hk
            rcases hk with rfl | rfl | rfl | rfl <;> omega
          have S1 := Sep.add (y := obThr (i : Int) th) J.ok Vd Z hnew
          have S2 := S1.upd0 ue
          have T2 : To x1 (Mc.feet (mc0 m ⟨A, T, N, L, B, P, S⟩ mp mv lv ms (none) fp fv draws tv ths)) xe (feet (Mc.obs (mc0 m ⟨A, T, N, L, B, P, S⟩ mp mv lv ms (none) fp fv draws tv ths) ++ [obThr (i : Int) th])) := ⟨Ve.mono (by simp), fun k hk => by
            rw [feet_app] at hk
            rcases List.mem_append.1 hk with h | h
            · exact .inl h
            · exact .inr (hnew k (by simpa [feet] using h))⟩
          have tz : To xe (obSl TTp 1 tv ths.length (ptrs ths)).foot xf (obSl TTp 1 (.slice tva (ths.length + 1) tvc) (ths.length + 1) (ptrs ths ++ [ptrV th.g])).foot := ⟨hGf.up, fun k hk => by
            rcases hGf.own k (by simpa [obSl] using hk) with h | h
            · exact .inl (by simpa [obSl] using h)
            · exact .inr h⟩
          have S3 := Sep.set (i := 4) (x := obSl TTp 1 tv ths.length (ptrs ths)) (y := obSl TTp 1 (.slice tva (ths.length + 1) tvc) (ths.length + 1) (ptrs ths ++ [ptrV th.g])) S2 rfl (by rw [hthg]; exact hsf) tz
          have T3 := T2.trans (To.set (l := Mc.obs (mc0 m ⟨A, T, N, L, B, P, S⟩ mp mv lv ms (none) fp fv draws tv ths) ++ [obThr (i : Int) th]) (i := 4) (x := obSl TTp 1 tv ths.length (ptrs ths)) rfl tz)
          have tm : To xf [m] xg [m] := ⟨ug, fun _ h => .inl h⟩
          have S4 := Sep.set (i := 0) (x := Mc.obM (mc0 m ⟨A, T, N, L, B, P, S⟩ mp mv lv ms (none) fp fv draws tv ths)) (y := Mc.obM (mc0 m ⟨A, T, N, L, B, P, S⟩ mp mv lv ms (none) fp fv draws (.slice tva (ths.length + 1) tvc) ths)) S3 rfl hg tm
          have T4 := T3.trans (To.set (i := 0) (x := Mc.obM (mc0 m ⟨A, T, N, L, B, P, S⟩ mp mv lv ms (none) fp fv draws tv ths)) (y := Mc.obM (mc0 m ⟨A, T, N, L, B, P, S⟩ mp mv lv ms (none) fp fv draws (.slice tva (ths.length + 1) tvc) ths)) rfl tm)
          have eo : Mc.obs (mc0 m ⟨A, T, N, L, B, P, S⟩ mp mv lv ms (none) fp fv draws (.slice tva (ths.length + 1) tvc) (ths ++ [th])) = (((Mc.obs (mc0 m ⟨A, T, N, L, B, P, S⟩ mp mv lv ms (none) fp fv draws tv ths) ++ [obThr (i : Int) th]).set 4 (obSl TTp 1 (.slice tva (ths.length + 1) tvc) (ths.length + 1) (ptrs ths ++ [ptrV th.g]))).set 0 (Mc.obM (mc0 m ⟨A, T, N, L, B, P, S⟩ mp mv lv ms (none) fp fv draws (.slice tva (ths.length + 1) tvc) ths))) := by
            have eo := obs_snoc (mc0 m ⟨A, T, N, L, B, P, S⟩ mp mv lv ms (none) fp fv draws tv ths) (.slice tva (ths.length + 1) tvc) th
            have el : ((mc0 m ⟨A, T, N, L, B, P, S⟩ mp mv lv ms (none) fp fv draws tv ths).ths.length : Int) = (i : Int) := by show (ths.length : Int) = _; rw [hpl]
            rw [el] at eo
            exact eo
          refine round_mk [.int .i64 ((i + 1 : Nat) : Int)] (t - (i + 1)) rfl rfl ⟨i + 1, .slice tva (ths.length + 1) tvc, ths ++ [th], rfl, by omega, rfl, by rw [List.length_append, hpl]; rfl, ?_, ?_, (hsc xf Uf).upd ug (by simp; exact fun h => hmg1 h.symm)⟩ (by omega)
          · intro t ht
            rcases List.mem_append.1 ht with h | h
            · exact hz t h
            · rw [List.mem_singleton.1 h, hth, hLn]
              exact ⟨_, _, _, _, rfl⟩
          · have P4 : Post x1 (mc0 m ⟨A, T, N, L, B, P, S⟩ mp mv lv ms (none) fp fv draws tv ths) xg (mc0 m ⟨A, T, N, L, B, P, S⟩ mp mv lv ms (none) fp fv draws (.slice tva (ths.length + 1) tvc) (ths ++ [th])) := by
              refine ⟨?_, ?_⟩
              · show Sep xg (Mc.obs (mc0 m ⟨A, T, N, L, B, P, S⟩ mp mv lv ms (none) fp fv draws (.slice tva (ths.length + 1) tvc) (ths ++ [th])))
                rw [eo]; exact S4
              · show To x1 (Mc.feet (mc0 m ⟨A, T, N, L, B, P, S⟩ mp mv lv ms (none) fp fv draws tv ths)) xg (feet (Mc.obs (mc0 m ⟨A, T, N, L, B, P, S⟩ mp mv lv ms (none) fp fv draws (.slice tva (ths.length + 1) tvc) (ths ++ [th]))))
                rw [eo]; exact T4
            exact J.post P4
    · have hi : i = t := by omega
      subst hi
      exact ⟨fun h => absurd hr h, fun _ => ⟨m, mp, mv, lv, fp, fv, _, tv, ths, rfl, J, by omega, hz, (fun _ => rfl), (fun h => (by cases h))⟩⟩
  | true =>
    refine draw_mix 6 [(0, true), (1, true), (2, true), (3, true), (4, false), (5, false)] (fun w' => Upd [] w9 w') (by decide +kernel) (Upd.refl [] w9).drew ?_
    refine q_fa ?_
    refine q_ld (v := .int .i64 N) (fun w' hw' => (hc9.upd hw' (by simp)).cell 2) ?_
    refine rq (.agg (planC ⟨A, T, N, L, B, P, S⟩)) (fun w' hw' => ldw (hp9.upd hw' (by simp)) rfl ⟨rfl, rfl⟩) ?_
    refine cl (sent_c A T N L B P S _) ?_
    rintro _ w10 ⟨rfl, hu10⟩
    have hu910 : Upd [] w9 w10 := (Upd.refl [] w9).drew.trans hu10
    refine ⟨hu910, ?_⟩
    refine cl (ghost_new2 N (sentP A) (by omega) (by omega) w10) ?_
    rintro _ w11 ⟨⟨gp, gv', rfl, hgp, hgv, hG⟩, hu11⟩
    have hu911 := hu910.trans hu11
    refine ⟨hu911, ?_⟩
    refine fa ?_
    have hb11 := hN9m.upd hu911 (by simp)
    have hb11 : Blk w11 m TM (machC ⟨A, T, N, L, B, P, S⟩ (ptrV mp) (.pointer none) (ptrV fp) (.slice none 0 0) false false) := hb11
    refine st hb11 (by show 16 < 21; omega) rfl fun w12 hb12 hu12 hs12 => ?_
    have hb12 : Blk w12 m TM (machC ⟨A, T, N, L, B, P, S⟩ (ptrV mp) (.pointer (some ⟨gp, 0, none⟩)) (ptrV fp) (.slice none 0 0) false false) := hb12
    have N12 : New w w12 (mc0 m ⟨A, T, N, L, B, P, S⟩ mp mv lv ms (some ⟨gp, gv', liveL N.toNat (sentP A).toNat, 0, 0⟩) fp fv draws (.slice none 0 0) []) := by
      have z910 := hu910.size
      have S9 := Sep.upd0 N9.ok hu910
      have ghn : ∀ k ∈ (obGh (some ⟨gp, gv', liveL N.toNat (sentP A).toNat, 0, 0⟩)).foot, w10.heap.size ≤ k := fun k hk => by
        rcases List.mem_cons.1 hk with h | h
        · rw [h]; exact hgp
        · exact hgv k (by simpa using h)
      have tg : To w10 (obGh none).foot w11 (obGh (some ⟨gp, gv', liveL N.toNat (sentP A).toNat, 0, 0⟩)).foot := ⟨hu11.mono (by simp), fun k hk => .inr (ghn k hk)⟩
      have S11 := Sep.set (i := 2) (x := obGh none) (y := obGh (some ⟨gp, gv', liveL N.toNat (sentP A).toNat, 0, 0⟩)) S9 rfl hG tg
      have T11 := To.set (l := Mc.obs (mc0 m ⟨A, T, N, L, B, P, S⟩ mp mv lv ms none fp fv draws (.slice none 0 0) [])) (i := 2) (x := obGh none) rfl tg
      have tm : To w11 [m] w12 [m] := ⟨hu12, fun _ h => .inl h⟩
      have S12 := Sep.set (i := 0) (x := Mc.obM (mc0 m ⟨A, T, N, L, B, P, S⟩ mp mv lv ms none fp fv draws (.slice none 0 0) [])) (y := Mc.obM (mc0 m ⟨A, T, N, L, B, P, S⟩ mp mv lv ms (some ⟨gp, gv', liveL N.toNat (sentP A).toNat, 0, 0⟩) fp fv draws (.slice none 0 0) [])) S11 rfl hb12 tm
      have T12 := ((To.of0 (Mc.feet (mc0 m ⟨A, T, N, L, B, P, S⟩ mp mv lv ms none fp fv draws (.slice none 0 0) [])) hu910).trans T11).trans (To.set (i := 0) (x := Mc.obM (mc0 m ⟨A, T, N, L, B, P, S⟩ mp mv lv ms none fp fv draws (.slice none 0 0) [])) (y := Mc.obM (mc0 m ⟨A, T, N, L, B, P, S⟩ mp mv lv ms (some ⟨gp, gv', liveL N.toNat (sentP A).toNat, 0, 0⟩) fp fv draws (.slice none 0 0) [])) rfl tm)
      exact N9.post ⟨S12, T12⟩
    have hc12 := (hc9.upd hu911 (by simp)).upd hu12 (by simp; exact fun h => hmg1 h.symm)
    refine fa ?_
    refine ldb (hc12) (v := .int .i64 T) rfl ?_
    obtain ⟨t, ht⟩ : ∃ t : Nat, T = (t : Int) := ⟨_, (Int.toNat_of_nonneg (by omega)).symm⟩
    refine loop_rule [3, 11, 49] [50] (fun vs w' k => ∃ (i : Nat) (tv : Value) (ths : List Th), vs = [.int .i64 (i : Int)] ∧ i ≤ t ∧ k = t - i ∧ ths.length = i ∧ (∀ t ∈ ths, ∃ g pv sv wv, t = thZ g pv sv wv L.toNat) ∧ New w w' (mc0 m ⟨A, T, N, L, B, P, S⟩ mp mv lv ms (some ⟨gp, gv', liveL N.toNat (sentP A).toNat, 0, 0⟩) fp fv draws tv ths) ∧ Blk w' g1 42 (cf7 ⟨A, T, N, L, B, P, S⟩)) rfl [.int .i64 0] t rfl
      ⟨0, _, _, rfl, by omega, rfl, rfl, (by simp), N12, hc12⟩ ?_
    rintro _ x1 k ⟨i, tv, ths, rfl, hi, rfl, hpl, hz, J, hx1⟩
    refine cd (fun hlt => ?_) (fun hlt => ?_)
    · obtain ⟨l, hL⟩ : ∃ l : Nat, L = (l : Int) := ⟨_, (Int.toNat_of_nonneg (by omega)).symm⟩
      have hLn : L.toNat = l := by omega
      have hne1 : tv.ownBlock ≠ some m := J.ok.tvs.blk_ne J.ok.blk (by decide)
      have hne2 : tv.ownBlock ≠ some g1 := J.ok.tvs.blk_ne hx1 (by decide)
      have hsb : ∀ w', Upd tv.ownBlock.toList x1 w' → Blk w' m TM (machC ⟨A, T, N, L, B, P, S⟩ (ptrV mp) (gvOf (some ⟨gp, gv', liveL N.toNat (sentP A).toNat, 0, 0⟩)) (ptrV fp) tv false false) := fun w' hu => J.ok.blk.upd hu (by show m ∉ _; simpa using hne1)
      have hsc : ∀ w', Upd tv.ownBlock.toList x1 w' → Blk w' g1 42 _ := fun w' hu => hx1.upd hu (by simpa using hne2)
      refine draw_tree 19 treeT (fun w' => Upd tv.ownBlock.toList x1 w') (by decide +kernel) (Upd.refl _ x1).drew ?_
      refine q_fa ?_
      refine q_ld (v := tv) (fun w' hw' => (hsb w' hw').cell 18) ?_
      refine q_fa ?_
      refine q_ld (v := .int .i64 L) (fun w' hw' => (hsc w' hw').cell 3) ?_
      refine q_fa ?_
      refine q_ld (v := .int .i64 L) (fun w' hw' => (hsc w' hw').cell 3) ?_
      refine q_fa ?_
      refine q_ld (v := .int .i64 L) (fun w' hw' => (hsc w' hw').cell 3) ?_
      have Us : Upd tv.ownBlock.toList x1 x1.drew := (Upd.refl _ x1).drew
      refine ⟨?_, ?_, ?_⟩
      · refine mks l hL hL (by omega) (by omega) fun xa ha ua za => ?_
        have Va := (Upd.refl [] x1).drew.trans ua
        refine ⟨Va.mono (by simp), ?_⟩
        refine ⟨?_, ?_⟩
        · refine mks l hL hL (by omega) (by omega) fun xb hb ub zb => ?_
          have Vb := Va.trans ub
          refine ⟨Vb.mono (by simp), ?_⟩
          refine mks l hL hL (by omega) (by omega) fun xc hc uc zc => ?_
          have Vc := Vb.trans uc
          refine ⟨Vc.mono (by simp), ?_⟩
          have sa := ((zeros_sl ha (by omega)).upd ub (by simp)).upd uc (by simp)
          have sb := (zeros_sl hb (by omega)).upd uc (by simp)
          have sc := zeros_sl hc (by omega)
          refine rq (.agg (thrC (i : Int) (.slice none 0 0) (0, 0, 0) (.slice (some ⟨x1.drew.heap.size, 0, none⟩) l l) (.slice (some ⟨xa.heap.size, 0, none⟩) l l) (.slice (some ⟨xb.heap.size, 0, none⟩) l l) (.slice none 0 0) (.slice none 0 0))) (fun _ _ => bd _ (fun _ => by kernel_rfl) ⟨rfl, rfl⟩) ?_
          refine bx fun xd hd ud zd => ?_
          have hd : Blk xd xc.heap.size TT (thrC (i : Int) (.slice none 0 0) (0, 0, 0) (.slice (some ⟨x1.drew.heap.size, 0, none⟩) l l) (.slice (some ⟨xa.heap.size, 0, none⟩) l l) (.slice (some ⟨xb.heap.size, 0, none⟩) l l) (.slice none 0 0) (.slice none 0 0)) := hd
          have Vd := Vc.trans ud
          refine ⟨Vd.mono (by simp), ?_⟩
          refine bs #[ptrV xc.heap.size] (fun _ => by kernel_rfl) fun xe he ue ze => ?_
          have Ve := Vd.trans ue
          refine ⟨Ve.mono (by simp), ?_⟩
          have zx := Vc.size
          have ex1 : x1.drew.heap.size = x1.heap.size := rfl
          refine apg (J.ok.tvs.upd Ve (by simp)) he rfl rfl (by decide) (by simp only [maxLen]; show ths.length + 1 ≤ _; omega) (by show (ths.length + 1) * 8 ≤ _; omega) fun tv2 xf hsf hGf => ?_
          have Uf : Upd tv.ownBlock.toList x1 xf := (Ve.mono (by simp)).trans hGf.up
          refine ⟨Uf, ?_⟩
          obtain ⟨tva, tvc, rfl, -⟩ := hsf.form
          replace hsf : Sl xf TTp 1 (.slice tva (ths.length + 1) tvc) (ths.length + 1) (ptrs ths ++ [ptrV xc.heap.size]) := hsf
          replace hGf : Grow xe xf tv (.slice tva (ths.length + 1) tvc) := hGf
          refine fa ?_
          refine st (hsb xf Uf) (by show 18 < 21; omega) rfl fun xg hg ug zg => ?_
          refine ar64 (by omega) ?_
          have Z : Sep xd ((thZ xc.heap.size (.slice (some ⟨x1.drew.heap.size, 0, none⟩) l l) (.slice (some ⟨xa.heap.size, 0, none⟩) l l) (.slice (some ⟨xb.heap.size, 0, none⟩) l l) l).obs (i : Int)) := thZ_sep hd ((sa).upd ud (by simp)) ((sb).upd ud (by simp)) ((sc).upd ud (by simp)) (by omega) (by omega) (by omega) (by omega) (by omega) (by omega)
          obtain ⟨th, hth⟩ : ∃ th, th = thZ xc.heap.size (.slice (some ⟨x1.drew.heap.size, 0, none⟩) l l) (.slice (some ⟨xa.heap.size, 0, none⟩) l l) (.slice (some ⟨xb.heap.size, 0, none⟩) l l) l := ⟨_, rfl⟩
          rw [← hth] at Z
          have hthg : th.g = xc.heap.size := by rw [hth]; rfl
          have hnew : ∀ k ∈ (obThr (i : Int) th).foot, x1.heap.size ≤ k := by
            rw [hth]
            show ∀ k ∈ feet _, _
            intro k hk
            simp [feet, Th.obs, obSl, obCore, thZ, Value.ownBlock] at hk
            rcases hk with rfl | rfl | rfl | rfl <;> omega
          have S1 := Sep.add (y := obThr (i : Int) th) J.ok Vd Z hnew
          have S2 := S1.upd0 ue
          have T2 : To x1 (Mc.feet (mc0 m ⟨A, T, N, L, B, P, S⟩ mp mv lv ms (some ⟨gp, gv', liveL N.toNat (sentP A).toNat, 0, 0⟩) fp fv draws tv ths)) xe (feet (Mc.obs (mc0 m ⟨A, T, N, L, B, P, S⟩ mp mv lv ms (some ⟨gp, gv', liveL N.toNat (sentP A).toNat, 0, 0⟩) fp fv draws tv ths) ++ [obThr (i : Int) th])) := ⟨Ve.mono (by simp), fun k hk => by
            rw [feet_app] at hk
            rcases List.mem_append.1 hk with h | h
            · exact .inl h
            · exact .inr (hnew k (by simpa [feet] using h))⟩
          have tz : To xe (obSl TTp 1 tv ths.length (ptrs ths)).foot xf (obSl TTp 1 (.slice tva (ths.length + 1) tvc) (ths.length + 1) (ptrs ths ++ [ptrV th.g])).foot := ⟨hGf.up, fun k hk => by
            rcases hGf.own k (by simpa [obSl] using hk) with h | h
            · exact .inl (by simpa [obSl] using h)
            · exact .inr h⟩
          have S3 := Sep.set (i := 4) (x := obSl TTp 1 tv ths.length (ptrs ths)) (y := obSl TTp 1 (.slice tva (ths.length + 1) tvc) (ths.length + 1) (ptrs ths ++ [ptrV th.g])) S2 rfl (by rw [hthg]; exact hsf) tz
          have T3 := T2.trans (To.set (l := Mc.obs (mc0 m ⟨A, T, N, L, B, P, S⟩ mp mv lv ms (some ⟨gp, gv', liveL N.toNat (sentP A).toNat, 0, 0⟩) fp fv draws tv ths) ++ [obThr (i : Int) th]) (i := 4) (x := obSl TTp 1 tv ths.length (ptrs ths)) rfl tz)
          have tm : To xf [m] xg [m] := ⟨ug, fun _ h => .inl h⟩
          have S4 := Sep.set (i := 0) (x := Mc.obM (mc0 m ⟨A, T, N, L, B, P, S⟩ mp mv lv ms (some ⟨gp, gv', liveL N.toNat (sentP A).toNat, 0, 0⟩) fp fv draws tv ths)) (y := Mc.obM (mc0 m ⟨A, T, N, L, B, P, S⟩ mp mv lv ms (some ⟨gp, gv', liveL N.toNat (sentP A).toNat, 0, 0⟩) fp fv draws (.slice tva (ths.length + 1) tvc) ths)) S3 rfl hg tm
          have T4 := T3.trans (To.set (i := 0) (x := Mc.obM (mc0 m ⟨A, T, N, L, B, P, S⟩ mp mv lv ms (some ⟨gp, gv', liveL N.toNat (sentP A).toNat, 0, 0⟩) fp fv draws tv ths)) (y := Mc.obM (mc0 m ⟨A, T, N, L, B, P, S⟩ mp mv lv ms (some ⟨gp, gv', liveL N.toNat (sentP A).toNat, 0, 0⟩) fp fv draws (.slice tva (ths.length + 1) tvc) ths)) rfl tm)
          have eo : Mc.obs (mc0 m ⟨A, T, N, L, B, P, S⟩ mp mv lv ms (some ⟨gp, gv', liveL N.toNat (sentP A).toNat, 0, 0⟩) fp fv draws (.slice tva (ths.length + 1) tvc) (ths ++ [th])) = (((Mc.obs (mc0 m ⟨A, T, N, L, B, P, S⟩ mp mv lv ms (some ⟨gp, gv', liveL N.toNat (sentP A).toNat, 0, 0⟩) fp fv draws tv ths) ++ [obThr (i : Int) th]).set 4 (obSl TTp 1 (.slice tva (ths.length + 1) tvc) (ths.length + 1) (ptrs ths ++ [ptrV th.g]))).set 0 (Mc.obM (mc0 m ⟨A, T, N, L, B, P, S⟩ mp mv lv ms (some ⟨gp, gv', liveL N.toNat (sentP A).toNat, 0, 0⟩) fp fv draws (.slice tva (ths.length + 1) tvc) ths))) := by
            have eo := obs_snoc (mc0 m ⟨A, T, N, L, B, P, S⟩ mp mv lv ms (some ⟨gp, gv', liveL N.toNat (sentP A).toNat, 0, 0⟩) fp fv draws tv ths) (.slice tva (ths.length + 1) tvc) th
            have el : ((mc0 m ⟨A, T, N, L, B, P, S⟩ mp mv lv ms (some ⟨gp, gv', liveL N.toNat (sentP A).toNat, 0, 0⟩) fp fv draws tv ths).ths.length : Int) = (i : Int) := by show (ths.length : Int) = _; rw [hpl]
            rw [el] at eo
            exact eo
          refine round_mk [.int .i64 ((i + 1 : Nat) : Int)] (t - (i + 1)) rfl rfl ⟨i + 1, .slice tva (ths.length + 1) tvc, ths ++ [th], rfl, by omega, rfl, by rw [List.length_append, hpl]; rfl, ?_, ?_, (hsc xf Uf).upd ug (by simp; exact fun h => hmg1 h.symm)⟩ (by omega)
          · intro t ht
            rcases List.mem_append.1 ht with h | h
            · exact hz t h
            · rw [List.mem_singleton.1 h, hth, hLn]
              exact ⟨_, _, _, _, rfl⟩
          · have P4 : Post x1 (mc0 m ⟨A, T, N, L, B, P, S⟩ mp mv lv ms (some ⟨gp, gv', liveL N.toNat (sentP A).toNat, 0, 0⟩) fp fv draws tv ths) xg (mc0 m ⟨A, T, N, L, B, P, S⟩ mp mv lv ms (some ⟨gp, gv', liveL N.toNat (sentP A).toNat, 0, 0⟩) fp fv draws (.slice tva (ths.length + 1) tvc) (ths ++ [th])) := by
              refine ⟨?_, ?_⟩
              · show Sep xg (Mc.obs (mc0 m ⟨A, T, N, L, B, P, S⟩ mp mv lv ms (some ⟨gp, gv', liveL N.toNat (sentP A).toNat, 0, 0⟩) fp fv draws (.slice tva (ths.length + 1) tvc) (ths ++ [th])))
                rw [eo]; exact S4
              · show To x1 (Mc.feet (mc0 m ⟨A, T, N, L, B, P, S⟩ mp mv lv ms (some ⟨gp, gv', liveL N.toNat (sentP A).toNat, 0, 0⟩) fp fv draws tv ths)) xg (feet (Mc.obs (mc0 m ⟨A, T, N, L, B, P, S⟩ mp mv lv ms (some ⟨gp, gv', liveL N.toNat (sentP A).toNat, 0, 0⟩) fp fv draws (.slice tva (ths.length + 1) tvc) (ths ++ [th]))))
                rw [eo]; exact T4
            exact J.post P4
        · refine mks l hL hL (by omega) (by omega) fun xb hb ub zb => ?_
          have Vb := Va.trans ub
          refine ⟨Vb.mono (by simp), ?_⟩
          refine mks l hL hL (by omega) (by omega) fun xc hc uc zc => ?_
          have Vc := Vb.trans uc
          refine ⟨Vc.mono (by simp), ?_⟩
          have sa := ((zeros_sl ha (by omega)).upd ub (by simp)).upd uc (by simp)
          have sb := (zeros_sl hb (by omega)).upd uc (by simp)
          have sc := zeros_sl hc (by omega)
          refine rq (.agg (thrC (i : Int) (.slice none 0 0) (0, 0, 0) (.slice (some ⟨x1.drew.heap.size, 0, none⟩) l l) (.slice (some ⟨xb.heap.size, 0, none⟩) l l) (.slice (some ⟨xa.heap.size, 0, none⟩) l l) (.slice none 0 0) (.slice none 0 0))) (fun _ _ => bd _ (fun _ => by kernel_rfl) ⟨rfl, rfl⟩) ?_
          refine bx fun xd hd ud zd => ?_
          have hd : Blk xd xc.heap.size TT (thrC (i : Int) (.slice none 0 0) (0, 0, 0) (.slice (some ⟨x1.drew.heap.size, 0, none⟩) l l) (.slice (some ⟨xb.heap.size, 0, none⟩) l l) (.slice (some ⟨xa.heap.size, 0, none⟩) l l) (.slice none 0 0) (.slice none 0 0)) := hd
          have Vd := Vc.trans ud
          refine ⟨Vd.mono (by simp), ?_⟩
          refine bs #[ptrV xc.heap.size] (fun _ => by kernel_rfl) fun xe he ue ze => ?_
          have Ve := Vd.trans ue
          refine ⟨Ve.mono (by simp), ?_⟩
          have zx := Vc.size
          have ex1 : x1.drew.heap.size = x1.heap.size := rfl
          refine apg (J.ok.tvs.upd Ve (by simp)) he rfl rfl (by decide) (by simp only [maxLen]; show ths.length + 1 ≤ _; omega) (by show (ths.length + 1) * 8 ≤ _; omega) fun tv2 xf hsf hGf => ?_
          have Uf : Upd tv.ownBlock.toList x1 xf := (Ve.mono (by simp)).trans hGf.up
          refine ⟨Uf, ?_⟩
          obtain ⟨tva, tvc, rfl, -⟩ := hsf.form
          replace hsf : Sl xf TTp 1 (.slice tva (ths.length + 1) tvc) (ths.length + 1) (ptrs ths ++ [ptrV xc.heap.size]) := hsf
          replace hGf : Grow xe xf tv (.slice tva (ths.length + 1) tvc) := hGf
          refine fa ?_
          refine st (hsb xf Uf) (by show 18 < 21; omega) rfl fun xg hg ug zg => ?_
          refine ar64 (by omega) ?_
          have Z : Sep xd ((thZ xc.heap.size (.slice (some ⟨x1.drew.heap.size, 0, none⟩) l l) (.slice (some ⟨xb.heap.size, 0, none⟩) l l) (.slice (some ⟨xa.heap.size, 0, none⟩) l l) l).obs (i : Int)) := thZ_sep hd ((sa).upd ud (by simp)) ((sc).upd ud (by simp)) ((sb).upd ud (by simp)) (by omega) (by omega) (by omega) (by omega) (by omega) (by omega)
          obtain ⟨th, hth⟩ : ∃ th, th = thZ xc.heap.size (.slice (some ⟨x1.drew.heap.size, 0, none⟩) l l) (.slice (some ⟨xb.heap.size, 0, none⟩) l l) (.slice (some ⟨xa.heap.size, 0, none⟩) l l) l := ⟨_, rfl⟩
          rw [← hth] at Z
          have hthg : th.g = xc.heap.size := by rw [hth]; rfl
          have hnew : ∀ k ∈ (obThr (i : Int) th).foot, x1.heap.size ≤ k := by
            rw [hth]
            show ∀ k ∈ feet _, _
            intro k hk
            simp [feet, Th.obs, obSl, obCore, thZ, Value.ownBlock] at hk
            rcases hk with rfl | rfl | rfl | rfl <;> omega
          have S1 := Sep.add (y := obThr (i : Int) th) J.ok Vd Z hnew
          have S2 := S1.upd0 ue
          have T2 : To x1 (Mc.feet (mc0 m ⟨A, T, N, L, B, P, S⟩ mp mv lv ms (some ⟨gp, gv', liveL N.toNat (sentP A).toNat, 0, 0⟩) fp fv draws tv ths)) xe (feet (Mc.obs (mc0 m ⟨A, T, N, L, B, P, S⟩ mp mv lv ms (some ⟨gp, gv', liveL N.toNat (sentP A).toNat, 0, 0⟩) fp fv draws tv ths) ++ [obThr (i : Int) th])) := ⟨Ve.mono (by simp), fun k hk => by
            rw [feet_app] at hk
            rcases List.mem_append.1 hk with h | h
            · exact .inl h
            · exact .inr (hnew k (by simpa [feet] using h))⟩
          have tz : To xe (obSl TTp 1 tv ths.length (ptrs ths)).foot xf (obSl TTp 1 (.slice tva (ths.length + 1) tvc) (ths.length + 1) (ptrs ths ++ [ptrV th.g])).foot := ⟨hGf.up, fun k hk => by
            rcases hGf.own k (by simpa [obSl] using hk) with h | h
            · exact .inl (by simpa [obSl] using h)
            · exact .inr h⟩
          have S3 := Sep.set (i := 4) (x := obSl TTp 1 tv ths.length (ptrs ths)) (y := obSl TTp 1 (.slice tva (ths.length + 1) tvc) (ths.length + 1) (ptrs ths ++ [ptrV th.g])) S2 rfl (by rw [hthg]; exact hsf) tz
          have T3 := T2.trans (To.set (l := Mc.obs (mc0 m ⟨A, T, N, L, B, P, S⟩ mp mv lv ms (some ⟨gp, gv', liveL N.toNat (sentP A).toNat, 0, 0⟩) fp fv draws tv ths) ++ [obThr (i : Int) th]) (i := 4) (x := obSl TTp 1 tv ths.length (ptrs ths)) rfl tz)
          have tm : To xf [m] xg [m] := ⟨ug, fun _ h => .inl h⟩
          have S4 := Sep.set (i := 0) (x := Mc.obM (mc0 m ⟨A, T, N, L, B, P, S⟩ mp mv lv ms (some ⟨gp, gv', liveL N.toNat (sentP A).toNat, 0, 0⟩) fp fv draws tv ths)) (y := Mc.obM (mc0 m ⟨A, T, N, L, B, P, S⟩ mp mv lv ms (some ⟨gp, gv', liveL N.toNat (sentP A).toNat, 0, 0⟩) fp fv draws (.slice tva (ths.length + 1) tvc) ths)) S3 rfl hg tm
          have T4 := T3.trans (To.set (i := 0) (x := Mc.obM (mc0 m ⟨A, T, N, L, B, P, S⟩ mp mv lv ms (some ⟨gp, gv', liveL N.toNat (sentP A).toNat, 0, 0⟩) fp fv draws tv ths)) (y := Mc.obM (mc0 m ⟨A, T, N, L, B, P, S⟩ mp mv lv ms (some ⟨gp, gv', liveL N.toNat (sentP A).toNat, 0, 0⟩) fp fv draws (.slice tva (ths.length + 1) tvc) ths)) rfl tm)
          have eo : Mc.obs (mc0 m ⟨A, T, N, L, B, P, S⟩ mp mv lv ms (some ⟨gp, gv', liveL N.toNat (sentP A).toNat, 0, 0⟩) fp fv draws (.slice tva (ths.length + 1) tvc) (ths ++ [th])) = (((Mc.obs (mc0 m ⟨A, T, N, L, B, P, S⟩ mp mv lv ms (some ⟨gp, gv', liveL N.toNat (sentP A).toNat, 0, 0⟩) fp fv draws tv ths) ++ [obThr (i : Int) th]).set 4 (obSl TTp 1 (.slice tva (ths.length + 1) tvc) (ths.length + 1) (ptrs ths ++ [ptrV th.g]))).set 0 (Mc.obM (mc0 m ⟨A, T, N, L, B, P, S⟩ mp mv lv ms (some ⟨gp, gv', liveL N.toNat (sentP A).toNat, 0, 0⟩) fp fv draws (.slice tva (ths.length + 1) tvc) ths))) := by
            have eo := obs_snoc (mc0 m ⟨A, T, N, L, B, P, S⟩ mp mv lv ms (some ⟨gp, gv', liveL N.toNat (sentP A).toNat, 0, 0⟩) fp fv draws tv ths) (.slice tva (ths.length + 1) tvc) th
            have el : ((mc0 m ⟨A, T, N, L, B, P, S⟩ mp mv lv ms (some ⟨gp, gv', liveL N.toNat (sentP A).toNat, 0, 0⟩) fp fv draws tv ths).ths.length : Int) = (i : Int) := by show (ths.length : Int) = _; rw [hpl]
            rw [el] at eo
            exact eo
          refine round_mk [.int .i64 ((i + 1 : Nat) : Int)] (t - (i + 1)) rfl rfl ⟨i + 1, .slice tva (ths.length + 1) tvc, ths ++ [th], rfl, by omega, rfl, by rw [List.length_append, hpl]; rfl, ?_, ?_, (hsc xf Uf).upd ug (by simp; exact fun h => hmg1 h.symm)⟩ (by omega)
          · intro t ht
            rcases List.mem_append.1 ht with h | h
            · exact hz t h
            · rw [List.mem_singleton.1 h, hth, hLn]
              exact ⟨_, _, _, _, rfl⟩
          · have P4 : Post x1 (mc0 m ⟨A, T, N, L, B, P, S⟩ mp mv lv ms (some ⟨gp, gv', liveL N.toNat (sentP A).toNat, 0, 0⟩) fp fv draws tv ths) xg (mc0 m ⟨A, T, N, L, B, P, S⟩ mp mv lv ms (some ⟨gp, gv', liveL N.toNat (sentP A).toNat, 0, 0⟩) fp fv draws (.slice tva (ths.length + 1) tvc) (ths ++ [th])) := by
              refine ⟨?_, ?_⟩
              · show Sep xg (Mc.obs (mc0 m ⟨A, T, N, L, B, P, S⟩ mp mv lv ms (some ⟨gp, gv', liveL N.toNat (sentP A).toNat, 0, 0⟩) fp fv draws (.slice tva (ths.length + 1) tvc) (ths ++ [th])))
                rw [eo]; exact S4
              · show To x1 (Mc.feet (mc0 m ⟨A, T, N, L, B, P, S⟩ mp mv lv ms (some ⟨gp, gv', liveL N.toNat (sentP A).toNat, 0, 0⟩) fp fv draws tv ths)) xg (feet (Mc.obs (mc0 m ⟨A, T, N, L, B, P, S⟩ mp mv lv ms (some ⟨gp, gv', liveL N.toNat (sentP A).toNat, 0, 0⟩) fp fv draws (.slice tva (ths.length + 1) tvc) (ths ++ [th]))))
                rw [eo]; exact T4
            exact J.post P4
      · refine mks l hL hL (by omega) (by omega) fun xa ha ua za => ?_
        have Va := (Upd.refl [] x1).drew.trans ua
        refine ⟨Va.mono (by simp), ?_⟩
        refine ⟨?_, ?_⟩
        · refine mks l hL hL (by omega) (by omega) fun xb hb ub zb => ?_
          have Vb := Va.trans ub
          refine ⟨Vb.mono (by simp), ?_⟩
          refine mks l hL hL (by omega) (by omega) fun xc hc uc zc => ?_
          have Vc := Vb.trans uc
          refine ⟨Vc.mono (by simp), ?_⟩
          have sa := ((zeros_sl ha (by omega)).upd ub (by simp)).upd uc (by simp)
          have sb := (zeros_sl hb (by omega)).upd uc (by simp)
          have sc := zeros_sl hc (by omega)
          refine rq (.agg (thrC (i : Int) (.slice none 0 0) (0, 0, 0) (.slice (some ⟨xa.heap.size, 0, none⟩) l l) (.slice (some ⟨x1.drew.heap.size, 0, none⟩) l l) (.slice (some ⟨xb.heap.size, 0, none⟩) l l) (.slice none 0 0) (.slice none 0 0))) (fun _ _ => bd _ (fun _ => by kernel_rfl) ⟨rfl, rfl⟩) ?_
          refine bx fun xd hd ud zd => ?_
          have hd : Blk xd xc.heap.size TT (thrC (i : Int) (.slice none 0 0) (0, 0, 0) (.slice (some ⟨xa.heap.size, 0, none⟩) l l) (.slice (some ⟨x1.drew.heap.size, 0, none⟩) l l) (.slice (some ⟨xb.heap.size, 0, none⟩) l l) (.slice none 0 0) (.slice none 0 0)) := hd
          have Vd := Vc.trans ud
          refine ⟨Vd.mono (by simp), ?_⟩
          refine bs #[ptrV xc.heap.size] (fun _ => by kernel_rfl) fun xe he ue ze => ?_
          have Ve := Vd.trans ue
          refine ⟨Ve.mono (by simp), ?_⟩
          have zx := Vc.size
          have ex1 : x1.drew.heap.size = x1.heap.size := rfl
          refine apg (J.ok.tvs.upd Ve (by simp)) he rfl rfl (by decide) (by simp only [maxLen]; show ths.length + 1 ≤ _; omega) (by show (ths.length + 1) * 8 ≤ _; omega) fun tv2 xf hsf hGf => ?_
          have Uf : Upd tv.ownBlock.toList x1 xf := (Ve.mono (by simp)).trans hGf.up
          refine ⟨Uf, ?_⟩
          obtain ⟨tva, tvc, rfl, -⟩ := hsf.form
          replace hsf : Sl xf TTp 1 (.slice tva (ths.length + 1) tvc) (ths.length + 1) (ptrs ths ++ [ptrV xc.heap.size]) := hsf
          replace hGf : Grow xe xf tv (.slice tva (ths.length + 1) tvc) := hGf
          refine fa ?_
          refine st (hsb xf Uf) (by show 18 < 21; omega) rfl fun xg hg ug zg => ?_
          refine ar64 (by omega) ?_
          have Z : Sep xd ((thZ xc.heap.size (.slice (some ⟨xa.heap.size, 0, none⟩) l l) (.slice (some ⟨x1.drew.heap.size, 0, none⟩) l l) (.slice (some ⟨xb.heap.size, 0, none⟩) l l) l).obs (i : Int)) := thZ_sep hd ((sb).upd ud (by simp)) ((sa).upd ud (by simp)) ((sc).upd ud (by simp)) (by omega) (by omega) (by omega) (by omega) (by omega) (by omega)
          obtain ⟨th, hth⟩ : ∃ th, th = thZ xc.heap.size (.slice (some ⟨xa.heap.size, 0, none⟩) l l) (.slice (some ⟨x1.drew.heap.size, 0, none⟩) l l) (.slice (some ⟨xb.heap.size, 0, none⟩) l l) l := ⟨_, rfl⟩
          rw [← hth] at Z
          have hthg : th.g = xc.heap.size := by rw [hth]; rfl
          have hnew : ∀ k ∈ (obThr (i : Int) th).foot, x1.heap.size ≤ k := by
            rw [hth]
            show ∀ k ∈ feet _, _
            intro k hk
            simp [feet, Th.obs, obSl, obCore, thZ, Value.ownBlock] at hk
            rcases hk with rfl | rfl | rfl | rfl <;> omega
          have S1 := Sep.add (y := obThr (i : Int) th) J.ok Vd Z hnew
          have S2 := S1.upd0 ue
          have T2 : To x1 (Mc.feet (mc0 m ⟨A, T, N, L, B, P, S⟩ mp mv lv ms (some ⟨gp, gv', liveL N.toNat (sentP A).toNat, 0, 0⟩) fp fv draws tv ths)) xe (feet (Mc.obs (mc0 m ⟨A, T, N, L, B, P, S⟩ mp mv lv ms (some ⟨gp, gv', liveL N.toNat (sentP A).toNat, 0, 0⟩) fp fv draws tv ths) ++ [obThr (i : Int) th])) := ⟨Ve.mono (by simp), fun k hk => by
            rw [feet_app] at hk
            rcases List.mem_append.1 hk with h | h
            · exact .inl h
            · exact .inr (hnew k (by simpa [feet] using h))⟩
          have tz : To xe (obSl TTp 1 tv ths.length (ptrs ths)).foot xf (obSl TTp 1 (.slice tva (ths.length + 1) tvc) (ths.length + 1) (ptrs ths ++ [ptrV th.g])).foot := ⟨hGf.up, fun k hk => by
            rcases hGf.own k (by simpa [obSl] using hk) with h | h
            · exact .inl (by simpa [obSl] using h)
            · exact .inr h⟩
          have S3 := Sep.set (i := 4) (x := obSl TTp 1 tv ths.length (ptrs ths)) (y := obSl TTp 1 (.slice tva (ths.length + 1) tvc) (ths.length + 1) (ptrs ths ++ [ptrV th.g])) S2 rfl (by rw [hthg]; exact hsf) tz
          have T3 := T2.trans (To.set (l := Mc.obs (mc0 m ⟨A, T, N, L, B, P, S⟩ mp mv lv ms (some ⟨gp, gv', liveL N.toNat (sentP A).toNat, 0, 0⟩) fp fv draws tv ths) ++ [obThr (i : Int) th]) (i := 4) (x := obSl TTp 1 tv ths.length (ptrs ths)) rfl tz)
          have tm : To xf [m] xg [m] := ⟨ug, fun _ h => .inl h⟩
          have S4 := Sep.set (i := 0) (x := Mc.obM (mc0 m ⟨A, T, N, L, B, P, S⟩ mp mv lv ms (some ⟨gp, gv', liveL N.toNat (sentP A).toNat, 0, 0⟩) fp fv draws tv ths)) (y := Mc.obM (mc0 m ⟨A, T, N, L, B, P, S⟩ mp mv lv ms (some ⟨gp, gv', liveL N.toNat (sentP A).toNat, 0, 0⟩) fp fv draws (.slice tva (ths.length + 1) tvc) ths)) S3 rfl hg tm
          have T4 := T3.trans (To.set (i := 0) (x := Mc.obM (mc0 m ⟨A, T, N, L, B, P, S⟩ mp mv lv ms (some ⟨gp, gv', liveL N.toNat (sentP A).toNat, 0, 0⟩) fp fv draws tv ths)) (y := Mc.obM (mc0 m ⟨A, T, N, L, B, P, S⟩ mp mv lv ms (some ⟨gp, gv', liveL N.toNat (sentP A).toNat, 0, 0⟩) fp fv draws (.slice tva (ths.length + 1) tvc) ths)) rfl tm)
          have eo : Mc.obs (mc0 m ⟨A, T, N, L, B, P, S⟩ mp mv lv ms (some ⟨gp, gv', liveL N.toNat (sentP A).toNat, 0, 0⟩) fp fv draws (.slice tva (ths.length + 1) tvc) (ths ++ [th])) = (((Mc.obs (mc0 m ⟨A, T, N, L, B, P, S⟩ mp mv lv ms (some ⟨gp, gv', liveL N.toNat (sentP A).toNat, 0, 0⟩) fp fv draws tv ths) ++ [obThr (i : Int) th]).set 4 (obSl TTp 1 (.slice tva (ths.length + 1) tvc) (ths.length + 1) (ptrs ths ++ [ptrV th.g]))).set 0 (Mc.obM (mc0 m ⟨A, T, N, L, B, P, S⟩ mp mv lv ms (some ⟨gp, gv', liveL N.toNat (sentP A).toNat, 0, 0⟩) fp fv draws (.slice tva (ths.length + 1) tvc) ths))) := by
            have eo := obs_snoc (mc0 m ⟨A, T, N, L, B, P, S⟩ mp mv lv ms (some ⟨gp, gv', liveL N.toNat (sentP A).toNat, 0, 0⟩) fp fv draws tv ths) (.slice tva (ths.length + 1) tvc) th
            have el : ((mc0 m ⟨A, T, N, L, B, P, S⟩ mp mv lv ms (some ⟨gp, gv', liveL N.toNat (sentP A).toNat, 0, 0⟩) fp fv draws tv ths).ths.length : Int) = (i : Int) := by show (ths.length : Int) = _; rw [hpl]
            rw [el] at eo
            exact eo
          refine round_mk [.int .i64 ((i + 1 : Nat) : Int)] (t - (i + 1)) rfl rfl ⟨i + 1, .slice tva (ths.length + 1) tvc, ths ++ [th], rfl, by omega, rfl, by rw [List.length_append, hpl]; rfl, ?_, ?_, (hsc xf Uf).upd ug (by simp; exact fun h => hmg1 h.symm)⟩ (by omega)
          · intro t ht
            rcases List.mem_append.1 ht with h | h
            · exact hz t h
            · rw [List.mem_singleton.1 h, hth, hLn]
              exact ⟨_, _, _, _, rfl⟩
          · have P4 : Post x1 (mc0 m ⟨A, T, N, L, B, P, S⟩ mp mv lv ms (some ⟨gp, gv', liveL N.toNat (sentP A).toNat, 0, 0⟩) fp fv draws tv ths) xg (mc0 m ⟨A, T, N, L, B, P, S⟩ mp mv lv ms (some ⟨gp, gv', liveL N.toNat (sentP A).toNat, 0, 0⟩) fp fv draws (.slice tva (ths.length + 1) tvc) (ths ++ [th])) := by
              refine ⟨?_, ?_⟩
              · show Sep xg (Mc.obs (mc0 m ⟨A, T, N, L, B, P, S⟩ mp mv lv ms (some ⟨gp, gv', liveL N.toNat (sentP A).toNat, 0, 0⟩) fp fv draws (.slice tva (ths.length + 1) tvc) (ths ++ [th])))
                rw [eo]; exact S4
              · show To x1 (Mc.feet (mc0 m ⟨A, T, N, L, B, P, S⟩ mp mv lv ms (some ⟨gp, gv', liveL N.toNat (sentP A).toNat, 0, 0⟩) fp fv draws tv ths)) xg (feet (Mc.obs (mc0 m ⟨A, T, N, L, B, P, S⟩ mp mv lv ms (some ⟨gp, gv', liveL N.toNat (sentP A).toNat, 0, 0⟩) fp fv draws (.slice tva (ths.length + 1) tvc) (ths ++ [th]))))
                rw [eo]; exact T4
            exact J.post P4
        · refine mks l hL hL (by omega) (by omega) fun xb hb ub zb => ?_
          have Vb := Va.trans ub
          refine ⟨Vb.mono (by simp), ?_⟩
          refine mks l hL hL (by omega) (by omega) fun xc hc uc zc => ?_
          have Vc := Vb.trans uc
          refine ⟨Vc.mono (by simp), ?_⟩
          have sa := ((zeros_sl ha (by omega)).upd ub (by simp)).upd uc (by simp)
          have sb := (zeros_sl hb (by omega)).upd uc (by simp)
          have sc := zeros_sl hc (by omega)
          refine rq (.agg (thrC (i : Int) (.slice none 0 0) (0, 0, 0) (.slice (some ⟨xb.heap.size, 0, none⟩) l l) (.slice (some ⟨x1.drew.heap.size, 0, none⟩) l l) (.slice (some ⟨xa.heap.size, 0, none⟩) l l) (.slice none 0 0) (.slice none 0 0))) (fun _ _ => bd _ (fun _ => by kernel_rfl) ⟨rfl, rfl⟩) ?_
          refine bx fun xd hd ud zd => ?_
          have hd : Blk xd xc.heap.size TT (thrC (i : Int) (.slice none 0 0) (0, 0, 0) (.slice (some ⟨xb.heap.size, 0, none⟩) l l) (.slice (some ⟨x1.drew.heap.size, 0, none⟩) l l) (.slice (some ⟨xa.heap.size, 0, none⟩) l l) (.slice none 0 0) (.slice none 0 0)) := hd
          have Vd := Vc.trans ud
          refine ⟨Vd.mono (by simp), ?_⟩
          refine bs #[ptrV xc.heap.size] (fun _ => by kernel_rfl) fun xe he ue ze => ?_
          have Ve := Vd.trans ue
          refine ⟨Ve.mono (by simp), ?_⟩
          have zx := Vc.size
          have ex1 : x1.drew.heap.size = x1.heap.size := rfl
          refine apg (J.ok.tvs.upd Ve (by simp)) he rfl rfl (by decide) (by simp only [maxLen]; show ths.length + 1 ≤ _; omega) (by show (ths.length + 1) * 8 ≤ _; omega) fun tv2 xf hsf hGf => ?_
          have Uf : Upd tv.ownBlock.toList x1 xf := (Ve.mono (by simp)).trans hGf.up
          refine ⟨Uf, ?_⟩
          obtain ⟨tva, tvc, rfl, -⟩ := hsf.form
          replace hsf : Sl xf TTp 1 (.slice tva (ths.length + 1) tvc) (ths.length + 1) (ptrs ths ++ [ptrV xc.heap.size]) := hsf
          replace hGf : Grow xe xf tv (.slice tva (ths.length + 1) tvc) := hGf
          refine fa ?_
          refine st (hsb xf Uf) (by show 18 < 21; omega) rfl fun xg hg ug zg => ?_
          refine ar64 (by omega) ?_
          have Z : Sep xd ((thZ xc.heap.size (.slice (some ⟨xb.heap.size, 0, none⟩) l l) (.slice (some ⟨x1.drew.heap.size, 0, none⟩) l l) (.slice (some ⟨xa.heap.size, 0, none⟩) l l) l).obs (i : Int)) := thZ_sep hd ((sc).upd ud (by simp)) ((sa).upd ud (by simp)) ((sb).upd ud (by simp)) (by omega) (by omega) (by omega) (by omega) (by omega) (by omega)
          obtain ⟨th, hth⟩ : ∃ th, th = thZ xc.heap.size (.slice (some ⟨xb.heap.size, 0, none⟩) l l) (.slice (some ⟨x1.drew.heap.size, 0, none⟩) l l) (.slice (some ⟨xa.heap.size, 0, none⟩) l l) l := ⟨_, rfl⟩
          rw [← hth] at Z
          have hthg : th.g = xc.heap.size := by rw [hth]; rfl
          have hnew : ∀ k ∈ (obThr (i : Int) th).foot, x1.heap.size ≤ k := by
            rw [hth]
            show ∀ k ∈ feet _, _
            intro k hk
            simp [feet, Th.obs, obSl, obCore, thZ, Value.ownBlock] at hk
            rcases hk with rfl | rfl | rfl | rfl <;> omega
          have S1 := Sep.add (y := obThr (i : Int) th) J.ok Vd Z hnew
          have S2 := S1.upd0 ue
          have T2 : To x1 (Mc.feet (mc0 m ⟨A, T, N, L, B, P, S⟩ mp mv lv ms (some ⟨gp, gv', liveL N.toNat (sentP A).toNat, 0, 0⟩) fp fv draws tv ths)) xe (feet (Mc.obs (mc0 m ⟨A, T, N, L, B, P, S⟩ mp mv lv ms (some ⟨gp, gv', liveL N.toNat (sentP A).toNat, 0, 0⟩) fp fv draws tv ths) ++ [obThr (i : Int) th])) := ⟨Ve.mono (by simp), fun k hk => by
            rw [feet_app] at hk
            rcases List.mem_append.1 hk with h | h
            · exact .inl h
            · exact .inr (hnew k (by simpa [feet] using h))⟩
          have tz : To xe (obSl TTp 1 tv ths.length (ptrs ths)).foot xf (obSl TTp 1 (.slice tva (ths.length + 1) tvc) (ths.length + 1) (ptrs ths ++ [ptrV th.g])).foot := ⟨hGf.up, fun k hk => by
            rcases hGf.own k (by simpa [obSl] using hk) with h | h
            · exact .inl (by simpa [obSl] using h)
            · exact .inr h⟩
          have S3 := Sep.set (i := 4) (x := obSl TTp 1 tv ths.length (ptrs ths)) (y := obSl TTp 1 (.slice tva (ths.length + 1) tvc) (ths.length + 1) (ptrs ths ++ [ptrV th.g])) S2 rfl (by rw [hthg]; exact hsf) tz
          have T3 := T2.trans (To.set (l := Mc.obs (mc0 m ⟨A, T, N, L, B, P, S⟩ mp mv lv ms (some ⟨gp, gv', liveL N.toNat (sentP A).toNat, 0, 0⟩) fp fv draws tv ths) ++ [obThr (i : Int) th]) (i := 4) (x := obSl TTp 1 tv ths.length (ptrs ths)) rfl tz)
          have tm : To xf [m] xg [m] := ⟨ug, fun _ h => .inl h⟩
          have S4 := Sep.set (i := 0) (x := Mc.obM (mc0 m ⟨A, T, N, L, B, P, S⟩ mp mv lv ms (some ⟨gp, gv', liveL N.toNat (sentP A).toNat, 0, 0⟩) fp fv draws tv ths)) (y := Mc.obM (mc0 m ⟨A, T, N, L, B, P, S⟩ mp mv lv ms (some ⟨gp, gv', liveL N.toNat (sentP A).toNat, 0, 0⟩) fp fv draws (.slice tva (ths.length + 1) tvc) ths)) S3 rfl hg tm
          have T4 := T3.trans (To.set (i := 0) (x := Mc.obM (mc0 m ⟨A, T, N, L, B, P, S⟩ mp mv lv ms (some ⟨gp, gv', liveL N.toNat (sentP A).toNat, 0, 0⟩) fp fv draws tv ths)) (y := Mc.obM (mc0 m ⟨A, T, N, L, B, P, S⟩ mp mv lv ms (some ⟨gp, gv', liveL N.toNat (sentP A).toNat, 0, 0⟩) fp fv draws (.slice tva (ths.length + 1) tvc) ths)) rfl tm)
          have eo : Mc.obs (mc0 m ⟨A, T, N, L, B, P, S⟩ mp mv lv ms (some ⟨gp, gv', liveL N.toNat (sentP A).toNat, 0, 0⟩) fp fv draws (.slice tva (ths.length + 1) tvc) (ths ++ [th])) = (((Mc.obs (mc0 m ⟨A, T, N, L, B, P, S⟩ mp mv lv ms (some ⟨gp, gv', liveL N.toNat (sentP A).toNat, 0, 0⟩) fp fv draws tv ths) ++ [obThr (i : Int) th]).set 4 (obSl TTp 1 (.slice tva (ths.length + 1) tvc) (ths.length + 1) (ptrs ths ++ [ptrV th.g]))).set 0 (Mc.obM (mc0 m ⟨A, T, N, L, B, P, S⟩ mp mv lv ms (some ⟨gp, gv', liveL N.toNat (sentP A).toNat, 0, 0⟩) fp fv draws (.slice tva (ths.length + 1) tvc) ths))) := by
            have eo := obs_snoc (mc0 m ⟨A, T, N, L, B, P, S⟩ mp mv lv ms (some ⟨gp, gv', liveL N.toNat (sentP A).toNat, 0, 0⟩) fp fv draws tv ths) (.slice tva (ths.length + 1) tvc) th
            have el : ((mc0 m ⟨A, T, N, L, B, P, S⟩ mp mv lv ms (some ⟨gp, gv', liveL N.toNat (sentP A).toNat, 0, 0⟩) fp fv draws tv ths).ths.length : Int) = (i : Int) := by show (ths.length : Int) = _; rw [hpl]
            rw [el] at eo
            exact eo
          refine round_mk [.int .i64 ((i + 1 : Nat) : Int)] (t - (i + 1)) rfl rfl ⟨i + 1, .slice tva (ths.length + 1) tvc, ths ++ [th], rfl, by omega, rfl, by rw [List.length_append, hpl]; rfl, ?_, ?_, (hsc xf Uf).upd ug (by simp; exact fun h => hmg1 h.symm)⟩ (by omega)
          · intro t ht
            rcases List.mem_append.1 ht with h | h
            · exact hz t h
            · rw [List.mem_singleton.1 h, hth, hLn]
              exact ⟨_, _, _, _, rfl⟩
          · have P4 : Post x1 (mc0 m ⟨A, T, N, L, B, P, S⟩ mp mv lv ms (some ⟨gp, gv', liveL N.toNat (sentP A).toNat, 0, 0⟩) fp fv draws tv ths) xg (mc0 m ⟨A, T, N, L, B, P, S⟩ mp mv lv ms (some ⟨gp, gv', liveL N.toNat (sentP A).toNat, 0, 0⟩) fp fv draws (.slice tva (ths.length + 1) tvc) (ths ++ [th])) := by
              refine ⟨?_, ?_⟩
              · show Sep xg (Mc.obs (mc0 m ⟨A, T, N, L, B, P, S⟩ mp mv lv ms (some ⟨gp, gv', liveL N.toNat (sentP A).toNat, 0, 0⟩) fp fv draws (.slice tva (ths.length + 1) tvc) (ths ++ [th])))
                rw [eo]; exact S4
              · show To x1 (Mc.feet (mc0 m ⟨A, T, N, L, B, P, S⟩ mp mv lv ms (some ⟨gp, gv', liveL N.toNat (sentP A).toNat, 0, 0⟩) fp fv draws tv ths)) xg (feet (Mc.obs (mc0 m ⟨A, T, N, L, B, P, S⟩ mp mv lv ms (some ⟨gp, gv', liveL N.toNat (sentP A).toNat, 0, 0⟩) fp fv draws (.slice tva (ths.length + 1) tvc) (ths ++ [th]))))
                rw [eo]; exact T4
            exact J.post P4
      · refine mks l hL hL (by omega) (by omega) fun xa ha ua za => ?_
        have Va := (Upd.refl [] x1).drew.trans ua
        refine ⟨Va.mono (by simp), ?_⟩
        refine ⟨?_, ?_⟩
        · refine mks l hL hL (by omega) (by omega) fun xb hb ub zb => ?_
          have Vb := Va.trans ub
          refine ⟨Vb.mono (by simp), ?_⟩
          refine mks l hL hL (by omega) (by omega) fun xc hc uc zc => ?_
          have Vc := Vb.trans uc
          refine ⟨Vc.mono (by simp), ?_⟩
          have sa := ((zeros_sl ha (by omega)).upd ub (by simp)).upd uc (by simp)
          have sb := (zeros_sl hb (by omega)).upd uc (by simp)
          have sc := zeros_sl hc (by omega)
          refine rq (.agg (thrC (i : Int) (.slice none 0 0) (0, 0, 0) (.slice (some ⟨xa.heap.size, 0, none⟩) l l) (.slice (some ⟨xb.heap.size, 0, none⟩) l l) (.slice (some ⟨x1.drew.heap.size, 0, none⟩) l l) (.slice none 0 0) (.slice none 0 0))) (fun _ _ => bd _ (fun _ => by kernel_rfl) ⟨rfl, rfl⟩) ?_
          refine bx fun xd hd ud zd => ?_
          have hd : Blk xd xc.heap.size TT (thrC (i : Int) (.slice none 0 0) (0, 0, 0) (.slice (some ⟨xa.heap.size, 0, none⟩) l l) (.slice (some ⟨xb.heap.size, 0, none⟩) l l) (.slice (some ⟨x1.drew.heap.size, 0, none⟩) l l) (.slice none 0 0) (.slice none 0 0)) := hd
          have Vd := Vc.trans ud
          refine ⟨Vd.mono (by simp), ?_⟩
          refine bs #[ptrV xc.heap.size] (fun _ => by kernel_rfl) fun xe he ue ze => ?_
          have Ve := Vd.trans ue
          refine ⟨Ve.mono (by simp), ?_⟩
          have zx := Vc.size
          have ex1 : x1.drew.heap.size = x1.heap.size := rfl
          refine apg (J.ok.tvs.upd Ve (by simp)) he rfl rfl (by decide) (by simp only [maxLen]; show ths.length + 1 ≤ _; omega) (by show (ths.length + 1) * 8 ≤ _; omega) fun tv2 xf hsf hGf => ?_
          have Uf : Upd tv.ownBlock.toList x1 xf := (Ve.mono (by simp)).trans hGf.up
          refine ⟨Uf, ?_⟩
          obtain ⟨tva, tvc, rfl, -⟩ := hsf.form
          replace hsf : Sl xf TTp 1 (.slice tva (ths.length + 1) tvc) (ths.length + 1) (ptrs ths ++ [ptrV xc.heap.size]) := hsf
          replace hGf : Grow xe xf tv (.slice tva (ths.length + 1) tvc) := hGf
          refine fa ?_
          refine st (hsb xf Uf) (by show 18 < 21; omega) rfl fun xg hg ug zg => ?_
          refine ar64 (by omega) ?_
          have Z : Sep xd ((thZ xc.heap.size (.slice (some ⟨xa.heap.size, 0, none⟩) l l) (.slice (some ⟨xb.heap.size, 0, none⟩) l l) (.slice (some ⟨x1.drew.heap.size, 0, none⟩) l l) l).obs (i : Int)) := thZ_sep hd ((sb).upd ud (by simp)) ((sc).upd ud (by simp)) ((sa).upd ud (by simp)) (by omega) (by omega) (by omega) (by omega) (by omega) (by omega)
          obtain ⟨th, hth⟩ : ∃ th, th = thZ xc.heap.size (.slice (some ⟨xa.heap.size, 0, none⟩) l l) (.slice (some ⟨xb.heap.size, 0, none⟩) l l) (.slice (some ⟨x1.drew.heap.size, 0, none⟩) l l) l := ⟨_, rfl⟩
          rw [← hth] at Z
          have hthg : th.g = xc.heap.size := by rw [hth]; rfl
          have hnew : ∀ k ∈ (obThr (i : Int) th).foot, x1.heap.size ≤ k := by
            rw [hth]
            show ∀ k ∈ feet _, _
            intro k hk
            simp [feet, Th.obs, obSl, obCore, thZ, Value.ownBlock] at hk
            rcases hk with rfl | rfl | rfl | rfl <;> omega
          have S1 := Sep.add (y := obThr (i : Int) th) J.ok Vd Z hnew
          have S2 := S1.upd0 ue
          have T2 : To x1 (Mc.feet (mc0 m ⟨A, T, N, L, B, P, S⟩ mp mv lv ms (some ⟨gp, gv', liveL N.toNat (sentP A).toNat, 0, 0⟩) fp fv draws tv ths)) xe (feet (Mc.obs (mc0 m ⟨A, T, N, L, B, P, S⟩ mp mv lv ms (some ⟨gp, gv', liveL N.toNat (sentP A).toNat, 0, 0⟩) fp fv draws tv ths) ++ [obThr (i : Int) th])) := ⟨Ve.mono (by simp), fun k hk => by
            rw [feet_app] at hk
            rcases List.mem_append.1 hk with h | h
            · exact .inl h
            · exact .inr (hnew k (by simpa [feet] using h))⟩
          have tz : To xe (obSl TTp 1 tv ths.length (ptrs ths)).foot xf (obSl TTp 1 (.slice tva (ths.length + 1) tvc) (ths.length + 1) (ptrs ths ++ [ptrV th.g])).foot := ⟨hGf.up, fun k hk => by
            rcases hGf.own k (by simpa [obSl] using hk) with h | h
            · exact .inl (by simpa [obSl] using h)
            · exact .inr h⟩
          have S3 := Sep.set (i := 4) (x := obSl TTp 1 tv ths.length (ptrs ths)) (y := obSl TTp 1 (.slice tva (ths.length + 1) tvc) (ths.length + 1) (ptrs ths ++ [ptrV th.g])) S2 rfl (by rw [hthg]; exact hsf) tz
          have T3 := T2.trans (To.set (l := Mc.obs (mc0 m ⟨A, T, N, L, B, P, S⟩ mp mv lv ms (some ⟨gp, gv', liveL N.toNat (sentP A).toNat, 0, 0⟩) fp fv draws tv ths) ++ [obThr (i : Int) th]) (i := 4) (x := obSl TTp 1 tv ths.length (ptrs ths)) rfl tz)
          have tm : To xf [m] xg [m] := ⟨ug, fun _ h => .inl h⟩
          have S4 := Sep.set (i := 0) (x := Mc.obM (mc0 m ⟨A, T, N, L, B, P, S⟩ mp mv lv ms (some ⟨gp, gv', liveL N.toNat (sentP A).toNat, 0, 0⟩) fp fv draws tv ths)) (y := Mc.obM (mc0 m ⟨A, T, N, L, B, P, S⟩ mp mv lv ms (some ⟨gp, gv', liveL N.toNat (sentP A).toNat, 0, 0⟩) fp fv draws (.slice tva (ths.length + 1) tvc) ths)) S3 rfl hg tm
          have T4 := T3.trans (To.set (i := 0) (x := Mc.obM (mc0 m ⟨A, T, N, L, B, P, S⟩ mp mv lv ms (some ⟨gp, gv', liveL N.toNat (sentP A).toNat, 0, 0⟩) fp fv draws tv ths)) (y := Mc.obM (mc0 m ⟨A, T, N, L, B, P, S⟩ mp mv lv ms (some ⟨gp, gv', liveL N.toNat (sentP A).toNat, 0, 0⟩) fp fv draws (.slice tva (ths.length + 1) tvc) ths)) rfl tm)
          have eo : Mc.obs (mc0 m ⟨A, T, N, L, B, P, S⟩ mp mv lv ms (some ⟨gp, gv', liveL N.toNat (sentP A).toNat, 0, 0⟩) fp fv draws (.slice tva (ths.length + 1) tvc) (ths ++ [th])) = (((Mc.obs (mc0 m ⟨A, T, N, L, B, P, S⟩ mp mv lv ms (some ⟨gp, gv', liveL N.toNat (sentP A).toNat, 0, 0⟩) fp fv draws tv ths) ++ [obThr (i : Int) th]).set 4 (obSl TTp 1 (.slice tva (ths.length + 1) tvc) (ths.length + 1) (ptrs ths ++ [ptrV th.g]))).set 0 (Mc.obM (mc0 m ⟨A, T, N, L, B, P, S⟩ mp mv lv ms (some ⟨gp, gv', liveL N.toNat (sentP A).toNat, 0, 0⟩) fp fv draws (.slice tva (ths.length + 1) tvc) ths))) := by
            have eo := obs_snoc (mc0 m ⟨A, T, N, L, B, P, S⟩ mp mv lv ms (some ⟨gp, gv', liveL N.toNat (sentP A).toNat, 0, 0⟩) fp fv draws tv ths) (.slice tva (ths.length + 1) tvc) th
            have el : ((mc0 m ⟨A, T, N, L, B, P, S⟩ mp mv lv ms (some ⟨gp, gv', liveL N.toNat (sentP A).toNat, 0, 0⟩) fp fv draws tv ths).ths.length : Int) = (i : Int) := by show (ths.length : Int) = _; rw [hpl]
            rw [el] at eo
            exact eo
          refine round_mk [.int .i64 ((i + 1 : Nat) : Int)] (t - (i + 1)) rfl rfl ⟨i + 1, .slice tva (ths.length + 1) tvc, ths ++ [th], rfl, by omega, rfl, by rw [List.length_append, hpl]; rfl, ?_, ?_, (hsc xf Uf).upd ug (by simp; exact fun h => hmg1 h.symm)⟩ (by omega)
          · intro t ht
            rcases List.mem_append.1 ht with h | h
            · exact hz t h
            · rw [List.mem_singleton.1 h, hth, hLn]
              exact ⟨_, _, _, _, rfl⟩
          · have P4 : Post x1 (mc0 m ⟨A, T, N, L, B, P, S⟩ mp mv lv ms (some ⟨gp, gv', liveL N.toNat (sentP A).toNat, 0, 0⟩) fp fv draws tv ths) xg (mc0 m ⟨A, T, N, L, B, P, S⟩ mp mv lv ms (some ⟨gp, gv', liveL N.toNat (sentP A).toNat, 0, 0⟩) fp fv draws (.slice tva (ths.length + 1) tvc) (ths ++ [th])) := by
              refine ⟨?_, ?_⟩
              · show Sep xg (Mc.obs (mc0 m ⟨A, T, N, L, B, P, S⟩ mp mv lv ms (some ⟨gp, gv', liveL N.toNat (sentP A).toNat, 0, 0⟩) fp fv draws (.slice tva (ths.length + 1) tvc) (ths ++ [th])))
                rw [eo]; exact S4
              · show To x1 (Mc.feet (mc0 m ⟨A, T, N, L, B, P, S⟩ mp mv lv ms (some ⟨gp, gv', liveL N.toNat (sentP A).toNat, 0, 0⟩) fp fv draws tv ths)) xg (feet (Mc.obs (mc0 m ⟨A, T, N, L, B, P, S⟩ mp mv lv ms (some ⟨gp, gv', liveL N.toNat (sentP A).toNat, 0, 0⟩) fp fv draws (.slice tva (ths.length + 1) tvc) (ths ++ [th]))))
                rw [eo]; exact T4
            exact J.post P4
        · refine mks l hL hL (by omega) (by omega) fun xb hb ub zb => ?_
          have Vb := Va.trans ub
          refine ⟨Vb.mono (by simp), ?_⟩
          refine mks l hL hL (by omega) (by omega) fun xc hc uc zc => ?_
          have Vc := Vb.trans uc
          refine ⟨Vc.mono (by simp), ?_⟩
          have sa := ((zeros_sl ha (by omega)).upd ub (by simp)).upd uc (by simp)
          have sb := (zeros_sl hb (by omega)).upd uc (by simp)
          have sc := zeros_sl hc (by omega)
          refine rq (.agg (thrC (i : Int) (.slice none 0 0) (0, 0, 0) (.slice (some ⟨xb.heap.size, 0, none⟩) l l) (.slice (some ⟨xa.heap.size, 0, none⟩) l l) (.slice (some ⟨x1.drew.heap.size, 0, none⟩) l l) (.slice none 0 0) (.slice none 0 0))) (fun _ _ => bd _ (fun _ => by kernel_rfl) ⟨rfl, rfl⟩) ?_
          refine bx fun xd hd ud zd => ?_
          have hd : Blk xd xc.heap.size TT (thrC (i : Int) (.slice none 0 0) (0, 0, 0) (.slice (some ⟨xb.heap.size, 0, none⟩) l l) (.slice (some ⟨xa.heap.size, 0, none⟩) l l) (.slice (some ⟨x1.drew.heap.size, 0, none⟩) l l) (.slice none 0 0) (.slice none 0 0)) := hd
          have Vd := Vc.trans ud
          refine ⟨Vd.mono (by simp), ?_⟩
          refine bs #[ptrV xc.heap.size] (fun _ => by kernel_rfl) fun xe he ue ze => ?_
          have Ve := Vd.trans ue
          refine ⟨Ve.mono (by simp), ?_⟩
          have zx := Vc.size
          have ex1 : x1.drew.heap.size = x1.heap.size := rfl
          refine apg (J.ok.tvs.upd Ve (by simp)) he rfl rfl (by decide) (by simp only [maxLen]; show ths.length + 1 ≤ _; omega) (by show (ths.length + 1) * 8 ≤ _; omega) fun tv2 xf hsf hGf => ?_
          have Uf : Upd tv.ownBlock.toList x1 xf := (Ve.mono (by simp)).trans hGf.up
          refine ⟨Uf, ?_⟩
          obtain ⟨tva, tvc, rfl, -⟩ := hsf.form
          replace hsf : Sl xf TTp 1 (.slice tva (ths.length + 1) tvc) (ths.length + 1) (ptrs ths ++ [ptrV xc.heap.size]) := hsf
          replace hGf : Grow xe xf tv (.slice tva (ths.length + 1) tvc) := hGf
          refine fa ?_
          refine st (hsb xf Uf) (by show 18 < 21; omega) rfl fun xg hg ug zg => ?_
          refine ar64 (by omega) ?_
          have Z : Sep xd ((thZ xc.heap.size (.slice (some ⟨xb.heap.size, 0, none⟩) l l) (.slice (some ⟨xa.heap.size, 0, none⟩) l l) (.slice (some ⟨x1.drew.heap.size, 0, none⟩) l l) l).obs (i : Int)) := thZ_sep hd ((sc).upd ud (by simp)) ((sb).upd ud (by simp)) ((sa).upd ud (by simp)) (by omega) (by omega) (by omega) (by omega) (by omega) (by omega)
          obtain ⟨th, hth⟩ : ∃ th, th = thZ xc.heap.size (.slice (some ⟨xb.heap.size, 0, none⟩) l l) (.slice (some ⟨xa.heap.size, 0, none⟩) l l) (.slice (some ⟨x1.drew.heap.size, 0, none⟩) l l) l := ⟨_, rfl⟩
          rw [← hth] at Z
          have hthg : th.g = xc.heap.size := by rw [hth]; rfl
          have hnew : ∀ k ∈ (obThr (i : Int) th).foot, x1.heap.size ≤ k := by
            rw [hth]
            show ∀ k ∈ feet _, _
            intro k hk
            simp [feet, Th.obs, obSl, obCore, thZ, Value.ownBlock] at hk
            rcases hk with rfl | rfl | rfl | rfl <;> omega
          have S1 := Sep.add (y := obThr (i : Int) th) J.ok Vd Z hnew
          have S2 := S1.upd0 ue
          have T2 : To x1 (Mc.feet (mc0 m ⟨A, T, N, L, B, P, S⟩ mp mv lv ms (some ⟨gp, gv', liveL N.toNat (sentP A).toNat, 0, 0⟩) fp fv draws tv ths)) xe (feet (Mc.obs (mc0 m ⟨A, T, N, L, B, P, S⟩ mp mv lv ms (some ⟨gp, gv', liveL N.toNat (sentP A).toNat, 0, 0⟩) fp fv draws tv ths) ++ [obThr (i : Int) th])) := ⟨Ve.mono (by simp), fun k hk => by
            rw [feet_app] at hk
            rcases List.mem_append.1 hk with h | h
            · exact .inl h
            · exact .inr (hnew k (by simpa [feet] using h))⟩
          have tz : To xe (obSl TTp 1 tv ths.length (ptrs ths)).foot xf (obSl TTp 1 (.slice tva (ths.length + 1) tvc) (ths.length + 1) (ptrs ths ++ [ptrV th.g])).foot := ⟨hGf.up, fun k hk => by
            rcases hGf.own k (by simpa [obSl] using hk) with h | h
            · exact .inl (by simpa [obSl] using h)
            · exact .inr h⟩
          have S3 := Sep.set (i := 4) (x := obSl TTp 1 tv ths.length (ptrs ths)) (y := obSl TTp 1 (.slice tva (ths.length + 1) tvc) (ths.length + 1) (ptrs ths ++ [ptrV th.g])) S2 rfl (by rw [hthg]; exact hsf) tz
          have T3 := T2.trans (To.set (l := Mc.obs (mc0 m ⟨A, T, N, L, B, P, S⟩ mp mv lv ms (some ⟨gp, gv', liveL N.toNat (sentP A).toNat, 0, 0⟩) fp fv draws tv ths) ++ [obThr (i : Int) th]) (i := 4) (x := obSl TTp 1 tv ths.length (ptrs ths)) rfl tz)
          have tm : To xf [m] xg [m] := ⟨ug, fun _ h => .inl h⟩
          have S4 := Sep.set (i := 0) (x := Mc.obM (mc0 m ⟨A, T, N, L, B, P, S⟩ mp mv lv ms (some ⟨gp, gv', liveL N.toNat (sentP A).toNat, 0, 0⟩) fp fv draws tv ths)) (y := Mc.obM (mc0 m ⟨A, T, N, L, B, P, S⟩ mp mv lv ms (some ⟨gp, gv', liveL N.toNat (sentP A).toNat, 0, 0⟩) fp fv draws (.slice tva (ths.length + 1) tvc) ths)) S3 rfl hg tm
          have T4 := T3.trans (To.set (i := 0) (x := Mc.obM (mc0 m ⟨A, T, N, L, B, P, S⟩ mp mv lv ms (some ⟨gp, gv', liveL N.toNat (sentP A).toNat, 0, 0⟩) fp fv draws tv ths)) (y := Mc.obM (mc0 m ⟨A, T, N, L, B, P, S⟩ mp mv lv ms (some ⟨gp, gv', liveL N.toNat (sentP A).toNat, 0, 0⟩) fp fv draws (.slice tva (ths.length + 1) tvc) ths)) rfl tm)
          have eo : Mc.obs (mc0 m ⟨A, T, N, L, B, P, S⟩ mp mv lv ms (some ⟨gp, gv', liveL N.toNat (sentP A).toNat, 0, 0⟩) fp fv draws (.slice tva (ths.length + 1) tvc) (ths ++ [th])) = (((Mc.obs (mc0 m ⟨A, T, N, L, B, P, S⟩ mp mv lv ms (some ⟨gp, gv', liveL N.toNat (sentP A).toNat, 0, 0⟩) fp fv draws tv ths) ++ [obThr (i : Int) th]).set 4 (obSl TTp 1 (.slice tva (ths.length + 1) tvc) (ths.length + 1) (ptrs ths ++ [ptrV th.g]))).set 0 (Mc.obM (mc0 m ⟨A, T, N, L, B, P, S⟩ mp mv lv ms (some ⟨gp, gv', liveL N.toNat (sentP A).toNat, 0, 0⟩) fp fv draws (.slice tva (ths.length + 1) tvc) ths))) := by
            have eo := obs_snoc (mc0 m ⟨A, T, N, L, B, P, S⟩ mp mv lv ms (some ⟨gp, gv', liveL N.toNat (sentP A).toNat, 0, 0⟩) fp fv draws tv ths) (.slice tva (ths.length + 1) tvc) th
            have el : ((mc0 m ⟨A, T, N, L, B, P, S⟩ mp mv lv ms (some ⟨gp, gv', liveL N.toNat (sentP A).toNat, 0, 0⟩) fp fv draws tv ths).ths.length : Int) = (i : Int) := by show (ths.length : Int) = _; rw [hpl]
            rw [el] at eo
            exact eo
          refine round_mk [.int .i64 ((i + 1 : Nat) : Int)] (t - (i + 1)) rfl rfl ⟨i + 1, .slice tva (ths.length + 1) tvc, ths ++ [th], rfl, by omega, rfl, by rw [List.length_append, hpl]; rfl, ?_, ?_, (hsc xf Uf).upd ug (by simp; exact fun h => hmg1 h.symm)⟩ (by omega)
          · intro t ht
            rcases List.mem_append.1 ht with h | h
            · exact hz t h
            · rw [List.mem_singleton.1 h, hth, hLn]
              exact ⟨_, _, _, _, rfl⟩
          · have P4 : Post x1 (mc0 m ⟨A, T, N, L, B, P, S⟩ mp mv lv ms (some ⟨gp, gv', liveL N.toNat (sentP A).toNat, 0, 0⟩) fp fv draws tv ths) xg (mc0 m ⟨A, T, N, L, B, P, S⟩ mp mv lv ms (some ⟨gp, gv', liveL N.toNat (sentP A).toNat, 0, 0⟩) fp fv draws (.slice tva (ths.length + 1) tvc) (ths ++ [th])) := by
              refine ⟨?_, ?_⟩
              · show Sep xg (Mc.obs (mc0 m ⟨A, T, N, L, B, P, S⟩ mp mv lv ms (some ⟨gp, gv', liveL N.toNat (sentP A).toNat, 0, 0⟩) fp fv draws (.slice tva (ths.length + 1) tvc) (ths ++ [th])))
                rw [eo]; exact S4
              · show To x1 (Mc.feet (mc0 m ⟨A, T, N, L, B, P, S⟩ mp mv lv ms (some ⟨gp, gv', liveL N.toNat (sentP A).toNat, 0, 0⟩) fp fv draws tv ths)) xg (feet (Mc.obs (mc0 m ⟨A, T, N, L, B, P, S⟩ mp mv lv ms (some ⟨gp, gv', liveL N.toNat (sentP A).toNat, 0, 0⟩) fp fv draws (.slice tva (ths.length + 1) tvc) (ths ++ [th]))))
                rw [eo]; exact T4
            exact J.post P4
    · have hi : i = t := by omega
      subst hi
      exact ⟨fun h => absurd hr h, fun _ => ⟨m, mp, mv, lv, fp, fv, _, tv, ths, rfl, J, by omega, hz, (fun h => (by cases h)), (fun _ => ⟨_, _, rfl⟩)⟩⟩
end Go.Proofs.Ytdomclcokkijjaa
