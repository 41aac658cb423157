/- What a script is written as: the walk. -/
import Derived.Test.YtejofmohpjffkaaDm
import Derived.Test.YtejofmohpjffkaaCp
namespace Go.Proofs.Ytejofmohpjffkaa
open Go.RowKit
attribute [local irreducible] Instr.loadAt Instr.storeAt Instr.fieldAt Instr.indexAt Instr.sliceAt Instr.buildSlice Instr.box Instr.alloc Builtin.append_ Builtin.len_ Builtin.min_ Builtin.max_ Calls Instr.build Instr.makeSlice binSem convert Instr.index Instr.range Instr.next
set_option maxRecDepth 10000 in
theorem code_cf (c : K.Cf) (hr : K.rightC c) (w : World) : Fn Try.prog 19 #[.agg (K.cf7 c)] w fun v w' => Sl w' 5 1 v (K.cfL c).length ((K.cfL c).map (.int .u8)) ∧ (∀ g, v.ownBlock = some g → w.heap.size ≤ g) ∧ Upd [] w w' := by
  refine fn_enter Try.func19 rfl rfl ?_
  refine bx fun w1 hb1 hu1 hs1 => ?_
  have hb1 : Blk w1 w.heap.size 23 (K.cf7 c) := hb1
  refine ldw hb1 (K.cf7_len _) ?_
  refine cl (K.check_c c _) ?_
  rintro _ w2 ⟨rfl, hu2⟩
  rw [show K.errC c = 0 from if_pos hr]
  refine ldw (hb1.upd hu2 (by simp)) (K.cf7_len _) ?_
  refine cl (K.of_c c _) ?_
  rintro _ w3 ⟨rfl, hu3⟩
  refine loop_rule [10] [11, 3] (fun vs w' m => ∃ (j : Nat) (v : Value), vs = [.int .i64 j, v] ∧ j ≤ 7 ∧ m = 7 - j ∧ Sl w' 5 1 v j (((K.cfL c).take j).map (.int .u8)) ∧ (∀ g, v.ownBlock = some g → w.heap.size ≤ g) ∧ Upd [] w w') rfl [.int .i64 0, .slice none 0 0] 7 rfl ⟨0, _, rfl, by omega, rfl, Sl.nil_ _ _ _, (fun g hg => by cases hg), (hu1.trans hu2).trans hu3⟩ ?_
  rintro _ w4 m ⟨j, v, rfl, hj, rfl, hs, ho, hU⟩
  refine cd (fun hlt => ?_) (fun hlt => ?_)
  · have hlt : j < 7 := by omega
    refine ixv j rfl hlt (K.cf7_get c j hlt) ?_
    refine cv ?_
    refine ar8 (K.cfL_at c hr j hlt) ?_
    refine bs #[.int .u8 ((K.cfL c).getD j 0)] (fun _ => by kernel_rfl) fun w5 hb5 hu5 hs5 => ?_
    refine apg (hs.upd hu5 (by simp)) hb5 rfl rfl (by decide) (by simp [maxLen]; omega) (by omega) fun v2 w6 hs6 hG => ?_
    refine ar64 (by omega) ?_
    refine round_mk [.int .i64 ((j + 1 : Nat) : Int), _] (7 - (j + 1)) rfl rfl ?_ (by omega)
    have z5 := hu5.size
    have zU := hU.size
    refine ⟨j + 1, _, rfl, by omega, rfl, ?_, ?_, (hU.trans hu5).step hG.up (fun x hx => .inr (ho x (by simpa using hx)))⟩
    · rw [K.cfL_take c j hlt, List.map_append]; exact hs6
    · intro g' hg'
      rcases hG.own g' hg' with h | h
      · exact ho _ h
      · omega
  · have hj : j = 7 := by omega
    subst hj
    have e : (K.cfL c).take 7 = K.cfL c ∧ (K.cfL c).length = 7 := by obtain ⟨A, T, N, L, B, P, S⟩ := c; exact ⟨rfl, rfl⟩
    rw [e.1] at hs
    rw [e.2]
    exact ⟨hs, ho, hU⟩
def codeC (x : C3) : List Int := codeL x.1 x.2.1.toNat x.2.2.toNat
def lineL (t : Nat) (l : List C3) : List Int := l.flatMap fun x => (t : Int) :: codeC x
def callsL (ls : List (List C3)) (i : Nat) : List Int := (List.range i).flatMap fun t => lineL t (ls.getD t [])
def writeL (c : K.Cf) (ls : List (List C3)) (ps ds : List Int) : List Int :=
  K.cfL c ++ [(tot ls : Int)] ++ callsL ls ls.length ++ [((ps.length % 256 : Nat) : Int), ((ps.length / 256 : Nat) : Int)] ++ ps ++ ds
theorem cfL_len (c : K.Cf) : (K.cfL c).length = 7 := by obtain ⟨A, T, N, L, B, P, S⟩ := c; rfl
theorem codeC_len (x : C3) : (codeC x).length = 9 := rfl
theorem lineL_len (t : Nat) (l : List C3) : (lineL t l).length = 10 * l.length := by
  induction l with
  | nil => rfl
  | cons x l ih =>
    show (((t : Int) :: codeC x) ++ lineL t l).length = _
    rw [List.length_append, ih, List.length_cons, List.length_cons, codeC_len]; omega
theorem lineL_snoc (t : Nat) (l : List C3) (x : C3) : lineL t (l ++ [x]) = lineL t l ++ [(t : Int)] ++ codeC x := by simp [lineL]
theorem callsL_succ (ls : List (List C3)) (i : Nat) : callsL ls (i + 1) = callsL ls i ++ lineL i (ls.getD i []) := by simp [callsL, List.range_succ]
theorem callsL_len (ls : List (List C3)) : ∀ i, i ≤ ls.length → (callsL ls i).length = 10 * tot (ls.take i)
  | 0, _ => by simp [callsL, tot]
  | i + 1, hi => by rw [callsL_succ, List.length_append, callsL_len ls i (by omega), lineL_len, tot_take ls i (by omega)]; omega
theorem mem3 {l : List C3} {j : Nat} (h : j < l.length) : l.getD j (0, 0, 0) ∈ l := by simp [List.getD, h]
theorem memL {l : List (List C3)} {j : Nat} (h : j < l.length) : l.getD j [] ∈ l := by simp [List.getD, h]
theorem take3 (l : List C3) (j : Nat) (h : j < l.length) : l.take (j + 1) = l.take j ++ [l.getD j (0, 0, 0)] := by
  rw [List.take_succ_eq_append_getElem h]; simp [List.getD, h]
/-- bytes that are being written -/
structure Wr (w w' : World) (v : Value) (L : List Int) : Prop where
  s : Sl w' 5 1 v L.length (L.map (.int .u8))
  f : ∀ g, v.ownBlock = some g → w.heap.size ≤ g
  up : Upd [] w w'
theorem Wr.upd {w w1 w2 : World} {v : Value} {L : List Int} (h : Wr w w1 v L) (hu : Upd [] w1 w2) : Wr w w2 v L := ⟨h.s.upd hu (by simp), h.f, h.up.trans hu⟩
theorem Wr.grow {w w1 w2 : World} {v v' : Value} {L M : List Int} {n : Nat} {xs : List Value} (h : Wr w w1 v L) (hG : Grow w1 w2 v v') (hn : n = L.length + M.length) (hx : xs = L.map (.int .u8) ++ M.map (.int .u8)) (hs : Sl w2 5 1 v' n xs) : Wr w w2 v' (L ++ M) := by
  subst hn; subst hx
  refine ⟨by rw [List.length_append, List.map_append]; exact hs, fun g hg => ?_, h.up.step hG.up (fun x hx => .inr (h.f x (by simpa using hx)))⟩
  rcases hG.own g hg with h1 | h1
  · exact h.f g h1
  · have := h.up.size; omega
theorem Wr.upd' {w w1 w2 : World} {v : Value} {L : List Int} {g T : Nat} {cs : Array Value} (h : Wr w w1 v L) (hb : Blk w1 g T cs) (hT : (5 : Nat) ≠ T) (hg : w.heap.size ≤ g) (hu : Upd [g] w1 w2) : Wr w w2 v L := ⟨h.s.farT hb hT hu, h.f, h.up.step hu (by simp; exact hg)⟩
set_option maxRecDepth 100000 in
theorem write_c {w : World} {c : K.Cf} {ls : List (List C3)} {ps ds : List Int} {v : Value} (h : ScrIn w v c ls ps ds) (ht : tot ls ≤ 100000) : Fn Try.prog 40 #[v] w fun r w' =>
    (¬ rightS c ls ps ds → r = .tuple #[.slice none 0 0, .int .i64 1]) ∧ (rightS c ls ps ds → ∃ bv, r = .tuple #[bv, .int .i64 0] ∧ Wr w w' bv (writeL c ls ps ds)) ∧ Upd [] w w' := by
  have hscr := h.scr
  obtain ⟨kv, pv, dv, vals, rfl, h2, h3, h4⟩ := h.scr.h
  obtain ⟨ka, kc, rfl, hk1, hk2⟩ := h2.out.form
  obtain ⟨pa, pc, rfl, hp1, hp2⟩ := h3.form
  obtain ⟨da, dc, rfl, -⟩ := h4.form
  simp only [maxLen] at hk2 hp2
  refine fn_enter Try.func40 rfl rfl ?_
  refine bx fun w1 hb1 hu1 hs1 => ?_
  have hb1 : Blk w1 w.heap.size TS (scV c (.slice ka ls.length kc) (.slice pa ps.length pc) (.slice da ds.length dc)) := hb1
  refine ldw hb1 rfl ?_
  refine cl (right_sc (hscr.upd0 hu1) ht) ?_
  rintro _ w2 ⟨⟨b, rfl, hb⟩, hu2⟩
  have hU2 := hu1.trans hu2
  by_cases hR : rightS c ls ps ds
  rotate_left
  · have : b = false := by cases b; rfl; exact absurd (hb.1 rfl) hR
    subst this
    exact ⟨fun _ => rfl, fun h => absurd h hR, hU2⟩
  have : b = true := hb.2 hR
  subst this
  have gb := hb1.upd hu2 (by simp)
  have hR' := hR
  obtain ⟨hc, hT, r3, r4, r5, r6, r7⟩ := hR'
  have hTb : 1 ≤ c.T ∧ c.T ≤ 6 := by
    obtain ⟨⟨h0, h1, -⟩, -⟩ := hc
    exact h1
  refine draw_mix 8 [(0, true), (1, true), (3, true), (2, false), (4, false), (5, true), (6, false), (7, false)] (fun w' => Upd [] w2 w') (by decide +kernel) (Upd.refl _ _).drew ?_
  refine q_fa ?_
  refine rq (.agg (K.cf7 c)) (fun w' hw' => ldcf (gb.upd hw' (by simp)) ⟨rfl, rfl⟩) ?_
  refine rq (.agg (scV c (.slice ka ls.length kc) (.slice pa ps.length pc) (.slice da ds.length dc))) (fun w' hw' => ldw (gb.upd hw' (by simp)) rfl ⟨rfl, rfl⟩) ?_
  refine cl (code_cf c hc _) ?_
  rintro v0 w3 ⟨hs3, hf3, hu3⟩
  have hW3 : Wr w w3 v0 (K.cfL c) := ⟨hs3, fun g hg => by have := hf3 g hg; have := hU2.drew.size; omega, hU2.drew.trans hu3⟩
  have hu23 : Upd [] w2 w3 := (Upd.refl [] w2).drew.trans hu3
  refine ⟨hu23, ?_⟩
  refine cl (calls_n (hscr.upd0 hW3.up) ht) ?_
  rintro _ w4 ⟨rfl, hu4⟩
  refine ⟨hu23.trans hu4, ?_⟩
  refine rq (.int .u8 (tot ls : Int)) (fun _ _ => cv (ar8 (by omega) ⟨rfl, rfl⟩)) ?_
  refine bs #[.int .u8 (tot ls : Int)] (fun _ => by kernel_rfl) fun w5 hb5 hu5 hs5 => ?_
  refine ⟨(hu23.trans hu4).trans hu5, ?_⟩
  have hW5 := (hW3.upd hu4).upd hu5
  have hcl := cfL_len c
  refine apg hW5.s hb5 rfl rfl (by decide) (by simp only [maxLen]; omega) (by omega) fun v6 w6 hs6 hG6 => ?_
  have hW6 := hW5.grow hG6 (M := [(tot ls : Int)]) rfl rfl hs6
  have hu26 : Upd [] w2 w6 := ((hu23.trans hu4).trans hu5).step hG6.up (fun g hg => .inr (by have := hf3 g (by simpa using hg); have := (Upd.refl [] w2).drew.size; omega))
  refine ⟨hu26, ?_⟩
  have gb6 := gb.upd hu26 (by simp)
  have hg0 : w.heap.size < w6.heap.size := gb6.lt
  generalize hg : w.heap.size = g at gb6
  have hpre : (K.cfL c ++ [(tot ls : Int)]).length = 8 := by rw [List.length_append, hcl]; rfl
  generalize hP : K.cfL c ++ [(tot ls : Int)] = P at *
  refine fa ?_
  refine ldb gb6 rfl ?_
  refine len_sl ?_
  have hc6 : CallsR w6 _ ls vals := h2.upd0 hW6.up
  have hp6 := h3.upd0 hW6.up
  refine loop_rule [1, 23, 24] [4, 25] (fun vs w' m => ∃ (i : Nat) (bv : Value), vs = [bv, .int .i64 i] ∧ i ≤ ls.length ∧ m = ls.length - i ∧ Wr w w' bv (P ++ callsL ls i) ∧ Blk w' g TS (scV c (.slice ka ls.length kc) (.slice pa ps.length pc) (.slice da ds.length dc))) rfl [v6, .int .i64 0] ls.length rfl
    ⟨0, _, rfl, by omega, rfl, by simpa [callsL] using hW6, gb6⟩ ?_
  rintro _ w7 m ⟨i, bv, rfl, hi, rfl, hW7, gb7⟩
  refine cd (fun hlt => ?_) (fun hlt => ?_)
  · have hlt : i < ls.length := by omega
    obtain ⟨kb, ko, kc', he', -⟩ := h2.out.some_ (by omega)
    cases he'
    obtain ⟨x, hx, hrx⟩ := h2.at_ i hlt
    obtain ⟨xa, xc, rfl, hx1, hx2⟩ := hrx.form
    simp only [maxLen] at hx2
    have htk := tot_take ls i hlt
    have htl := tot_le ls (i + 1)
    refine ix i rfl hlt ?_
    refine ld (by rw [(h2.upd0 hW7.up).out.one rfl i hlt]; exact hx) ?_
    refine len_sl ?_
    refine loop_rule [1, 5, 23, 24, 25, 30, 31] [4, 32] (fun vs w' m => ∃ (j : Nat) (bv : Value), vs = [bv, .int .i64 j] ∧ j ≤ (ls.getD i []).length ∧ m = (ls.getD i []).length - j ∧ Wr w w' bv (P ++ callsL ls i ++ lineL i ((ls.getD i []).take j)) ∧ Blk w' g TS (scV c (.slice (some ⟨kb, ko, none⟩) ls.length kc) (.slice pa ps.length pc) (.slice da ds.length dc))) rfl [bv, .int .i64 0] _ rfl
      ⟨0, _, rfl, by omega, rfl, by simpa [lineL] using hW7, gb7⟩ ?_
    rintro _ w8 m ⟨j, bv, rfl, hj, rfl, hW8, gb8⟩
    refine cd (fun hlj => ?_) (fun hlj => ?_)
    · have hlj : j < (ls.getD i []).length := by omega
      obtain ⟨xb, xo, xc', he', -⟩ := hrx.some_ (by omega)
      cases he'
      refine ix j rfl hlj ?_
      refine ld3 (hrx.upd0 hW8.up) rfl j hlj ?_
      have hry := r6 i hlt j hlj
      have hky := h.keys _ (memL hlt) _ (mem3 hlj)
      have htk3 := take3 (ls.getD i []) j hlj
      generalize (ls.getD i []).getD j (0, 0, 0) = y at *
      obtain ⟨o, k, v⟩ := y
      obtain ⟨k, rfl⟩ := Int.eq_ofNat_of_zero_le hky.1.1
      obtain ⟨v, rfl⟩ := Int.eq_ofNat_of_zero_le hky.2.1
      have hk32 : (k : Int) ≤ 4294967295 := hky.1.2
      have hv32 : (v : Int) ≤ 4294967295 := hky.2.2
      refine al (c3 0 0 0) (fun _ => by kernel_rfl) fun w9 hb9 hu9 hs9 => ?_
      refine stw hb9 rfl rfl rfl fun w10 hb10 hu10 hs10 => ?_
      have hb10 : Blk w10 w8.heap.size 43 (c3 o k v) := hb10
      have hz8 := hW8.up.size
      have hW10 := (hW8.upd hu9).upd' hb9 (by decide) hz8 hu10
      have gb10 := (gb8.upd hu9 (by simp)).upd hu10 (by have := gb8.lt; simp; omega)
      have hqg : g ≠ w8.heap.size := by have := gb8.lt; omega
      generalize w8.heap.size = q at *
      have hLl : (P ++ callsL ls i ++ lineL i ((ls.getD i []).take j)).length = 8 + 10 * tot (ls.take i) + 10 * j := by
        rw [List.length_append, List.length_append, hpre, callsL_len ls i hi, lineL_len, List.length_take, Nat.min_eq_left hj]
      obtain ⟨L, hL⟩ : ∃ L, L = P ++ callsL ls i ++ lineL i ((ls.getD i []).take j) := ⟨_, rfl⟩
      rw [← hL] at hW10 hLl
      refine draw_mix 8 [(0, true), (1, true), (2, true), (5, true), (3, false), (4, false), (6, false), (7, false)] (fun w' => Blk w' q 43 (c3 o k v)) (by decide +kernel) hb10.drew ?_
      refine rq (.int .u8 (i : Int)) (fun _ _ => cv (ar8 (by omega) ⟨rfl, rfl⟩)) ?_
      refine rq (.agg (c3 o k v)) (fun w' hw' => ldw hw' rfl ⟨rfl, rfl⟩) ?_
      have hW10 := hW10.upd (Upd.refl [] w10).drew
      have hb10 := hb10.drew
      have gb10 := gb10.drew
      generalize w10.drew = w10 at *
      refine Go.Proofs.Ytejofmohpjffkaa.bs #[.int .u8 (i : Int)] (fun _ => by kernel_rfl) fun w11 hb11 hu11 hs11 => ?_
      have hW11 := hW10.upd hu11
      have gb11 := gb10.upd hu11 (by simp)
      refine ⟨hb10.upd hu11 (by simp), ?_⟩
      refine apg hW11.s hb11 rfl rfl (by decide) (by simp only [maxLen]; omega) (by omega) fun v12 w12 hs12 hG12 => ?_
      have hb12 := hG12.blk (hb10.upd hu11 (by simp)) (hW11.s.blk_ne (hb10.upd hu11 (by simp)) (by decide))
      have gb12 := hG12.blk gb11 (hW11.s.blk_ne gb11 (by decide))
      have hW12 := hW11.grow hG12 (M := [(i : Int)]) rfl rfl hs12
      refine ⟨hb12, ?_⟩
      refine cl (code_c9 o k v (by omega) (by omega) w12) ?_
      rintro r w13 ⟨hr13, hf13, hu13⟩
      rw [if_pos hry] at hr13
      have hW13 := hW12.upd hu13
      have gb13 := gb12.upd hu13 (by simp)
      refine ⟨hb12.upd hu13 (by simp), ?_⟩
      have hl12 : (L ++ [(i : Int)]).length = L.length + 1 := by simp
      refine apx hW13.s hr13.rd (by intro x hx; simp at hx; obtain ⟨y, -, rfl⟩ := hx; rfl) (by simp only [maxLen]; omega) (by omega) fun v14 w14 hs14 hG14 => ?_
      have hb14 := hG14.blk (hb12.upd hu13 (by simp)) (hW13.s.blk_ne (hb12.upd hu13 (by simp)) (by decide))
      have gb14 := hG14.blk gb13 (hW13.s.blk_ne gb13 (by decide))
      have hW14 := hW13.grow hG14 (M := codeL o k v) rfl rfl hs14
      refine ⟨hb14, ?_⟩
      refine ar64 (by omega) ?_
      exact round_mk [v14, .int .i64 ((j + 1 : Nat) : Int)] ((ls.getD i []).length - (j + 1)) rfl rfl ⟨j + 1, _, rfl, by omega, rfl, by rw [htk3, lineL_snoc, ← List.append_assoc, ← List.append_assoc, ← hL]; exact hW14, gb14⟩ (by omega)
    · have hj : j = (ls.getD i []).length := by omega
      subst hj
      rw [List.take_length, List.append_assoc, ← callsL_succ] at hW8
      refine ar64 (by omega) ?_
      exact round_mk [bv, .int .i64 ((i + 1 : Nat) : Int)] (ls.length - (i + 1)) rfl rfl ⟨i + 1, _, rfl, by omega, rfl, hW8, gb8⟩ (by omega)
  have hi : i = ls.length := by omega
  subst hi
  have hl7 : (P ++ callsL ls ls.length).length = 8 + 10 * tot ls := by
    rw [List.length_append, hpre, callsL_len ls _ (Nat.le_refl _), List.take_length]
  generalize hQ : P ++ callsL ls ls.length = Q at *
  refine fa ?_
  refine ldb gb7 rfl ?_
  refine len_sl ?_
  refine cv ?_
  refine val ((ps.length % 256 : Nat) : Int) (by rw [IntKind.wrap_u8]; omega) ?_
  refine fa ?_
  refine ldb gb7 rfl ?_
  refine len_sl ?_
  refine sh_r (by decide) ?_
  refine val ((ps.length / 256 : Nat) : Int) (by
    have e : (2 : Int) ^ min (8 : Int).toNat IntKind.i64.bits = ((256 : Nat) : Int) := by decide
    rw [e, fdivN]) ?_
  refine cv ?_
  refine val ((ps.length / 256 : Nat) : Int) (by rw [IntKind.wrap_u8]; omega) ?_
  refine Go.Proofs.Ytejofmohpjffkaa.bs #[.int .u8 ((ps.length % 256 : Nat) : Int), .int .u8 ((ps.length / 256 : Nat) : Int)] (fun _ => by kernel_rfl) fun w8 hb8 hu8 hs8 => ?_
  have hW8 := hW7.upd hu8
  have gb8 := gb7.upd hu8 (by simp)
  refine apg hW8.s hb8 rfl rfl (by decide) (by simp only [maxLen]; omega) (by omega) fun v9 w9 hs9 hG9 => ?_
  have hW9 := hW8.grow hG9 (M := [((ps.length % 256 : Nat) : Int), ((ps.length / 256 : Nat) : Int)]) rfl rfl hs9
  have gb9 := hG9.blk gb8 (hW8.s.blk_ne gb8 (by decide))
  have hl9 : (Q ++ [((ps.length % 256 : Nat) : Int), ((ps.length / 256 : Nat) : Int)]).length = 10 + 10 * tot ls := by
    rw [List.length_append, hl7]; show 8 + 10 * tot ls + 2 = _; omega
  have hwr : writeL c ls ps ds = (Q ++ [((ps.length % 256 : Nat) : Int), ((ps.length / 256 : Nat) : Int)]) ++ ps ++ ds := by
    unfold writeL; rw [hP, hQ]
  generalize Q ++ [((ps.length % 256 : Nat) : Int), ((ps.length / 256 : Nat) : Int)] = R at *
  refine fa ?_
  refine ldb gb9 rfl ?_
  refine len_sl ?_
  refine loop_rule [1, 59, 60] [4, 61] (fun vs w' m => ∃ (i : Nat) (bv : Value), vs = [bv, .int .i64 i] ∧ i ≤ ps.length ∧ m = ps.length - i ∧ Wr w w' bv (R ++ ps.take i) ∧ Blk w' g TS (scV c (.slice ka ls.length kc) (.slice pa ps.length pc) (.slice da ds.length dc))) rfl [v9, .int .i64 0] ps.length rfl
    ⟨0, _, rfl, by omega, rfl, by simpa using hW9, gb9⟩ ?_
  rintro _ w10 m ⟨k, bv, rfl, hk, rfl, hW10, gb10⟩
  have hl10 : (R ++ ps.take k).length = 10 + 10 * tot ls + k := by
    rw [List.length_append, hl9, List.length_take, Nat.min_eq_left hk]
  refine cd (fun hlk => ?_) (fun hlk => ?_)
  · have hlk : k < ps.length := by omega
    obtain ⟨pb, po, pc', he', -⟩ := h3.some_ (by omega)
    cases he'
    have hpk := r7 k hlk
    refine ix k rfl hlk ?_
    refine ld ((h3.upd0 hW10.up).at_ rfl k hlk) ?_
    refine cv ?_
    refine ar8 (by omega) ?_
    refine Go.Proofs.Ytejofmohpjffkaa.bs #[.int .u8 (ps.getD k 0)] (fun _ => by kernel_rfl) fun w11 hb11 hu11 hs11 => ?_
    have hW11 := hW10.upd hu11
    have gb11 := gb10.upd hu11 (by simp)
    refine apg hW11.s hb11 rfl rfl (by decide) (by simp only [maxLen]; omega) (by omega) fun v12 w12 hs12 hG12 => ?_
    have hW12 := hW11.grow hG12 (M := [ps.getD k 0]) rfl rfl hs12
    have gb12 := hG12.blk gb11 (hW11.s.blk_ne gb11 (by decide))
    refine ar64 (by omega) ?_
    exact round_mk [v12, .int .i64 ((k + 1 : Nat) : Int)] (ps.length - (k + 1)) rfl rfl ⟨k + 1, _, rfl, by omega, rfl, by rw [getD_take ps k hlk, ← List.append_assoc]; exact hW12, gb12⟩ (by omega)
  have hk : k = ps.length := by omega
  subst hk
  rw [List.take_length] at hW10 hl10
  refine fa ?_
  refine ldb gb10 rfl ?_
  refine apx hW10.s (h4.upd0 hW10.up).rd one_ints (by simp only [maxLen]; omega) (by omega) fun v11 w11 hs11 hG11 => ?_
  have hW11 := hW10.grow hG11 (M := ds) rfl rfl hs11
  refine ⟨fun hn => absurd hR hn, fun _ => ⟨_, rfl, by rw [hwr]; exact hW11⟩, hW11.up⟩
end Go.Proofs.Ytejofmohpjffkaa
