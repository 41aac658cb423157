/- Contracts: a machine's steps of memory. -/
import Derived.Test.YtdomclcokkijjaaFc
namespace Go.Proofs.Ytdomclcokkijjaa
open Go.RowKit
attribute [local irreducible] Instr.loadAt Instr.storeAt Instr.fieldAt Instr.indexAt Instr.sliceAt Instr.buildSlice Instr.box Instr.alloc Builtin.append_ Builtin.len_ Builtin.min_ Builtin.max_ Calls Instr.build Instr.makeSlice binSem convert Instr.index Instr.range Instr.next
theorem tdiv_bd {a b : Int} (h0 : 0 ≤ a) (h1 : a ≤ 2000) (hb : 1 ≤ b) : 0 ≤ a.tdiv b ∧ a.tdiv b ≤ 2000 := by
  rw [Int.tdiv_eq_ediv_of_nonneg h0]
  exact ⟨Int.ediv_nonneg h0 (by omega), Int.le_trans (Int.ediv_le_self _ h0) h1⟩
def whereP (A T N L a : Int) : Int × Int × Int :=
  if a < 0 ∨ a ≥ sizeP A T N L then (5, 0, 0) else if a < 8 then (0, a, 0)
  else if a < linksP A T L then (1, (a - 8).tdiv (slotsP A L), (a - 8).tmod (slotsP A L))
  else if a < nodesP A T N L then (2, a - linksP A T L + 1, 0)
  else if a < treeP A T N L then (3, (a - nodesP A T N L).tdiv (widthP A L) + 1, (a - nodesP A T N L).tmod (widthP A L)) else (4, a - treeP A T N L, 0)
def tupW (x : Int × Int × Int) : Value := .tuple #[.int .i64 x.1, .int .i64 x.2.1, .int .i64 x.2.2]
set_option maxRecDepth 10000 in
theorem where_c {A T N L B P S : Int} (hr : rightC ⟨A, T, N, L, B, P, S⟩) (a : Int) (w : World) : Fn Try.prog 97 #[.agg (planC ⟨A, T, N, L, B, P, S⟩), .int .i64 a] w fun r w' => r = tupW (whereP A T N L a) ∧ Upd [] w w' := by
  obtain ⟨b1, b2, b3, b4, b5, b6, b7, b8, b9, b10, b11, b12⟩ := plan_bd hr
  refine fn_enter Try.func97 rfl rfl ?_
  refine bx fun w1 hb1 hu1 hs1 => ?_
  have hb1 : Blk w1 w.heap.size TP (planC ⟨A, T, N, L, B, P, S⟩) := hb1
  unfold whereP
  by_cases h0 : a < 0
  · refine cY h0 ?_
    rw [if_pos (.inl h0)]
    exact ⟨rfl, hu1⟩
  refine cN h0 ?_
  refine fa ?_
  refine ldb hb1 (v := .int .i64 (sizeP A T N L)) rfl ?_
  by_cases h1 : a ≥ sizeP A T N L
  · refine cY h1 ?_
    rw [if_pos (.inr h1)]
    exact ⟨rfl, hu1⟩
  refine cN h1 ?_
  rw [if_neg (by omega)]
  refine fa ?_
  refine ldb hb1 (v := .int .i64 8) rfl ?_
  by_cases h2 : a < 8
  · refine cY h2 ?_
    rw [if_pos h2]
    exact ⟨rfl, hu1⟩
  refine cN h2 ?_
  rw [if_neg h2]
  refine fa ?_
  refine ldb hb1 (v := .int .i64 (linksP A T L)) rfl ?_
  by_cases h3 : a < linksP A T L
  · refine cY h3 ?_
    rw [if_pos h3]
    have hd := tdiv_bd (a := a - 8) (b := slotsP A L) (by omega) (by omega) (by omega)
    refine draw_all (fun w' => w' = w1.drew) (by decide +kernel) rfl ?_
    refine q_fa ?_
    refine q_ld (v := .int .i64 (8)) (by rintro _ rfl; exact hb1.drew.cell 10) ?_
    refine q_ar64 (by omega) ?_
    refine q_fa ?_
    refine q_ld (v := .int .i64 (slotsP A L)) (by rintro _ rfl; exact hb1.drew.cell 7) ?_
    refine rq (.int .i64 ((a - 8).tdiv (slotsP A L))) (fun _ _ => qu (by omega) (ar64 (by omega) ⟨rfl, rfl⟩)) ?_
    refine q_fa ?_
    refine q_ld (v := .int .i64 (8)) (by rintro _ rfl; exact hb1.drew.cell 10) ?_
    refine q_ar64 (by omega) ?_
    refine q_fa ?_
    refine q_ld (v := .int .i64 (slotsP A L)) (by rintro _ rfl; exact hb1.drew.cell 7) ?_
    refine rq (.int .i64 ((a - 8).tmod (slotsP A L))) (fun _ _ => rm (by omega) (val _ rfl ⟨rfl, rfl⟩)) ?_
    rintro _ rfl
    exact ⟨rfl, hu1.drew⟩
  refine cN h3 ?_
  rw [if_neg h3]
  refine fa ?_
  refine ldb hb1 (v := .int .i64 (nodesP A T N L)) rfl ?_
  by_cases h4 : a < nodesP A T N L
  · refine cY h4 ?_
    rw [if_pos h4]
    refine draw_all (fun w' => w' = w1.drew) (by decide +kernel) rfl ?_
    refine q_fa ?_
    refine q_ld (v := .int .i64 (linksP A T L)) (by rintro _ rfl; exact hb1.drew.cell 11) ?_
    refine q_ar64 (by omega) ?_
    refine q_ar64 (by omega) ?_
    rintro _ rfl
    exact ⟨rfl, hu1.drew⟩
  refine cN h4 ?_
  rw [if_neg h4]
  refine fa ?_
  refine ldb hb1 (v := .int .i64 (treeP A T N L)) rfl ?_
  by_cases h5 : a < treeP A T N L
  · refine cY h5 ?_
    rw [if_pos h5]
    have hd := tdiv_bd (a := a - nodesP A T N L) (b := widthP A L) (by omega) (by omega) (by omega)
    refine draw_all (fun w' => w' = w1.drew) (by decide +kernel) rfl ?_
    refine q_fa ?_
    refine q_ld (v := .int .i64 (nodesP A T N L)) (by rintro _ rfl; exact hb1.drew.cell 12) ?_
    refine q_ar64 (by omega) ?_
    refine q_fa ?_
    refine q_ld (v := .int .i64 (widthP A L)) (by rintro _ rfl; exact hb1.drew.cell 8) ?_
    refine rq (.int .i64 ((a - nodesP A T N L).tdiv (widthP A L))) (fun _ _ => qu (by omega) (ar64 (by omega) ⟨rfl, rfl⟩)) ?_
    refine q_ar64 (by omega) ?_
    refine q_fa ?_
    refine q_ld (v := .int .i64 (nodesP A T N L)) (by rintro _ rfl; exact hb1.drew.cell 12) ?_
    refine q_ar64 (by omega) ?_
    refine q_fa ?_
    refine q_ld (v := .int .i64 (widthP A L)) (by rintro _ rfl; exact hb1.drew.cell 8) ?_
    refine rq (.int .i64 ((a - nodesP A T N L).tmod (widthP A L))) (fun _ _ => rm (by omega) (val _ rfl ⟨rfl, rfl⟩)) ?_
    rintro _ rfl
    exact ⟨rfl, hu1.drew⟩
  refine cN h5 ?_
  rw [if_neg h5]
  refine draw_all (fun w' => w' = w1.drew) (by decide +kernel) rfl ?_
  refine q_fa ?_
  refine q_ld (v := .int .i64 (treeP A T N L)) (by rintro _ rfl; exact hb1.drew.cell 13) ?_
  refine q_ar64 (by omega) ?_
  rintro _ rfl
  exact ⟨rfl, hu1.drew⟩
def gto (tags : List Int) (k n i : Int) : Int × Int := if i < 1 ∨ (tags.length : Int) < i then gf k n 5 i else if tags.getD (i - 1).toNat 0 = 0 then gf k n 4 i else (k, n)
set_option maxRecDepth 10000 in
theorem gtouch_c {w : World} {p : Nat} {v : Value} {tags : List Int} {k n : Int} (h : IsG w p v tags k n) (hl : tags.length ≤ 64) (i : Int) : Fn Try.prog 98 #[ptrV p, .int .i64 i] w fun _ w' =>
    IsG w' p v tags (gto tags k n i).1 (gto tags k n i).2 ∧ Upd [p] w w' := by
  obtain ⟨va, vc, rfl, -⟩ := h.s.form
  refine fn_enter Try.func98 rfl rfl ?_
  refine ptr_eq ?_
  by_cases h1 : i < 1
  · refine cY h1 ?_
    have e : gto tags k n i = gf k n 5 i := if_pos (.inl h1)
    rw [e]
    refine cl (fault_c h 5 i) ?_
    rintro _ w1 ⟨rfl, hg, hu⟩
    exact ⟨hg, hu⟩
  refine cN h1 ?_
  refine fa ?_
  refine ldb h.blk rfl ?_
  refine len_sl ?_
  refine cd (fun h2 => ?_) (fun h2 => ?_)
  · have e : gto tags k n i = gf k n 5 i := if_pos (.inr h2)
    rw [e]
    refine cl (fault_c h 5 i) ?_
    rintro _ w1 ⟨rfl, hg, hu⟩
    exact ⟨hg, hu⟩
  have hi : (i - 1).toNat < tags.length := by omega
  obtain ⟨vb, vo, vc', he, -⟩ := h.s.some_ (by omega)
  cases he
  have hcell := (h.s.cells rfl (i - 1).toNat (by omega)).1
  refine fa ?_
  refine ldb h.blk rfl ?_
  refine ar64 (by omega) ?_
  refine ix (i - 1).toNat (by omega) hi ?_
  refine ld (v := .int .i64 (tags.getD (i - 1).toNat 0)) (by rw [Nat.mul_one, hcell]; exact map_getD hi) ?_
  refine cd (fun h3 => ?_) (fun h3 => ?_)
  · have e : gto tags k n i = gf k n 4 i := by unfold gto; rw [if_neg (by omega), if_pos h3]
    rw [e]
    refine cl (fault_c h 4 i) ?_
    rintro _ w1 ⟨rfl, hg, hu⟩
    exact ⟨hg, hu⟩
  · have e : gto tags k n i = (k, n) := by unfold gto; rw [if_neg (by omega), if_neg h3]
    rw [e]
    exact ⟨h, Upd.refl _ _⟩
def Cf.where_ (c : Cf) (a : Int) : Int × Int × Int := whereP c.A c.T c.N c.L a
def tchG (c : Cf) (g : Gs) (a : Int) : Gs := if (c.where_ a).1 = 3 then { g with k := (gto g.tags g.k g.n (c.where_ a).2.1).1, n := (gto g.tags g.k g.n (c.where_ a).2.1).2 } else g
def tch (c : Cf) (gs : Option Gs) (a : Int) : Option Gs := gs.map fun g => tchG c g a
def tchs (c : Cf) (gs : Option Gs) (l : List Int) : Option Gs := l.foldl (tch c) gs
def gtags : Option Gs → List Int
  | none => []
  | some g => g.tags
theorem tchG_tags (c : Cf) (g : Gs) (a : Int) : (tchG c g a).tags = g.tags := by unfold tchG; split <;> rfl
theorem tch_tags (c : Cf) (gs : Option Gs) (a : Int) : gtags (tch c gs a) = gtags gs := by
  cases gs with
  | none => rfl
  | some g => exact tchG_tags c g a
theorem tchs_snoc (c : Cf) (gs : Option Gs) (l : List Int) (a : Int) : tchs c gs (l ++ [a]) = tch c (tchs c gs l) a := by simp [tchs, List.foldl_append]
theorem tchs_tags (c : Cf) (l : List Int) : ∀ gs, gtags (tchs c gs l) = gtags gs := by
  induction l with
  | nil => intro gs; rfl
  | cons a l ih => intro gs; show gtags (tchs c (tch c gs a) l) = _; rw [ih, tch_tags]
section
variable {w w' : World} {X : Mc}
theorem touchG_m {g : Gs} (h : Mach w X) (hg : X.gs = some g) (hl : g.tags.length ≤ 64) (i : Int) : Fn Try.prog 98 #[ptrV g.p, .int .i64 i] w fun _ w' => Post w X w' { X with gs := some { g with k := (gto g.tags g.k g.n i).1, n := (gto g.tags g.k g.n i).2 } } := by
  have hG := h.gh
  rw [hg] at hG
  exact (gtouch_c (show IsG w g.p g.v g.tags g.k g.n from hG) hl i).mono fun _ w' ⟨u, he, h1, h2⟩ => ⟨u, he, h.setGh hg rfl rfl h1 (h2.mono (by simp))⟩
theorem Mach.m_lt (h : Mach w X) : ∀ k ∈ X.feet, k < w.heap.size := Sep.lt h
set_option maxRecDepth 10000 in
theorem touch_m (h : Mach w X) (hr : rightC X.c) (ht : (gtags X.gs).length ≤ 64) {v : Value} {l : List Int} (hv : ∀ w', Upd X.feet w w' → RdK w' .i64 v l) (hl : l.length ≤ 100) :
    Fn Try.prog 73 #[ptrV X.m, v] w fun r w' => r = .bool true ∧ Post w X w' { X with acted := true, gs := tchs X.c X.gs l } := by
  obtain ⟨va, vc, rfl, -⟩ := (hv w (Upd.refl _ _)).form
  refine fn_enter Try.func73 rfl rfl ?_
  refine ptr_eq ?_
  refine fa ?_
  have hsz : 19 < (machC X.c (ptrV X.mp) (gvOf X.gs) (ptrV X.fp) X.tv X.acted X.bad).size := by cases X.c; show 19 < 21; omega
  refine st h.blk hsz rfl fun w1 hb1 hu1 hs1 => ?_
  have p1 : Post w X w1 { X with acted := true } := h.setM (b := X.bad) (by cases hc : X.c; rw [hc] at hb1; exact hb1) hu1
  refine len_sl ?_
  refine loop_rule [0, 15, 16] [17] (fun vs w' m => ∃ j : Nat, vs = [.int .i64 (j : Int)] ∧ j ≤ l.length ∧ m = l.length - j ∧ Post w X w' { X with acted := true, gs := tchs X.c X.gs (l.take j) }) rfl [.int .i64 0] l.length rfl ⟨0, rfl, by omega, rfl, p1⟩ ?_
  rintro _ w2 m ⟨j, rfl, hj, rfl, p2⟩
  refine cd (fun hlt => ?_) (fun hlt => ?_)
  · have hlt : j < l.length := by omega
    have hv2 := hv w2 p2.to.up
    obtain ⟨vb, vo, vc', he, -⟩ := hv2.some_ (by omega)
    cases he
    refine ix j rfl hlt ?_
    refine ld (hv2.at_ rfl j hlt) ?_
    have e : tchs X.c X.gs (l.take (j + 1)) = tch X.c (tchs X.c X.gs (l.take j)) (l.getD j 0) := by rw [getD_take l j hlt, tchs_snoc]
    have ht2 : (gtags (tchs X.c X.gs (l.take j))).length ≤ 64 := by rw [tchs_tags]; exact ht
    generalize l.getD j 0 = a at *
    generalize tchs X.c X.gs (l.take j) = gs at *
    refine fa ?_
    refine ldplan p2.ok.blk ?_
    refine cl (where_c (A := X.c.A) (T := X.c.T) (N := X.c.N) (L := X.c.L) (B := X.c.B) (P := X.c.P) (S := X.c.S) hr a w2) ?_
    rintro _ w3 ⟨rfl, hu3⟩
    have p3 := p2.upd0 hu3
    refine cd (fun hk => ?_) (fun hk => ?_)
    · replace hk : (X.c.where_ a).1 = 3 := hk
      refine fa ?_
      refine ldb p3.ok.blk (v := gvOf gs) (by cases X.c; rfl) ?_
      cases gs with
      | none =>
        refine ptr_ne0 ?_
        refine ar64 (by omega) ?_
        refine round_mk [.int .i64 ((j + 1 : Nat) : Int)] (l.length - (j + 1)) rfl rfl ⟨j + 1, rfl, by omega, rfl, ?_⟩ (by omega)
        rw [e]; exact p3
      | some g =>
        refine ptr_ne ?_
        refine fa ?_
        refine ldb p3.ok.blk (v := ptrV g.p) (by cases X.c; rfl) ?_
        refine cl (touchG_m p3.ok rfl ht2 _) ?_
        rintro _ w4 p4
        refine ar64 (by omega) ?_
        refine round_mk [.int .i64 ((j + 1 : Nat) : Int)] (l.length - (j + 1)) rfl rfl ⟨j + 1, rfl, by omega, rfl, ?_⟩ (by omega)
        rw [e]
        have e2 : tch X.c (some g) a = some { g with k := (gto g.tags g.k g.n (X.c.where_ a).2.1).1, n := (gto g.tags g.k g.n (X.c.where_ a).2.1).2 } := by
          show some (tchG X.c g a) = _
          unfold tchG
          rw [if_pos hk]
        rw [e2]
        exact p3.trans p4
    · replace hk : ¬ (X.c.where_ a).1 = 3 := hk
      refine ar64 (by omega) ?_
      refine round_mk [.int .i64 ((j + 1 : Nat) : Int)] (l.length - (j + 1)) rfl rfl ⟨j + 1, rfl, by omega, rfl, ?_⟩ (by omega)
      have e2 : tch X.c gs a = gs := by
        cases gs with
        | none => rfl
        | some g =>
          show some (tchG X.c g a) = _
          unfold tchG
          rw [if_neg hk]
      rw [e, e2]; exact p3
  · have hj : j = l.length := by omega
    subst hj
    rw [List.take_length] at p2
    exact ⟨rfl, p2⟩
theorem note_m (h : Mach w X) (e : Int) : Fn Try.prog 74 #[ptrV X.m, .int .i64 e] w fun _ w' => Post w X w' { X with bad := X.bad || e != 0 } := by
  have hsz : 20 < (machC X.c (ptrV X.mp) (gvOf X.gs) (ptrV X.fp) X.tv X.acted X.bad).size := by cases X.c; show 20 < 21; omega
  have hb := h.blk
  refine fn_enter Try.func74 rfl rfl ?_
  refine fa ?_
  refine ldb hb (v := .bool X.bad) (by cases X.c; rfl) ?_
  cases hbad : X.bad with
  | true =>
    refine fa ?_
    refine st hb hsz rfl fun w1 hb1 hu1 hs1 => ?_
    exact h.setM (a := X.acted) (by cases hc : X.c; rw [hc] at hb1; exact hb1) hu1
  | false =>
    refine fa ?_
    refine st hb hsz rfl fun w1 hb1 hu1 hs1 => ?_
    exact h.setM (a := X.acted) (by cases hc : X.c; rw [hc] at hb1; exact hb1) hu1
end
end Go.Proofs.Ytdomclcokkijjaa
