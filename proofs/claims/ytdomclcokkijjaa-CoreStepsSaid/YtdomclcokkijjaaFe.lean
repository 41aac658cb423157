/- Contracts: loads, stores and the other steps of a machine. -/
import Derived.Test.YtdomclcokkijjaaFd
namespace Go.Proofs.Ytdomclcokkijjaa
open Go.RowKit
attribute [local irreducible] Instr.loadAt Instr.storeAt Instr.fieldAt Instr.indexAt Instr.sliceAt Instr.buildSlice Instr.box Instr.alloc Builtin.append_ Builtin.len_ Builtin.min_ Builtin.max_ Calls Instr.build Instr.makeSlice binSem convert Instr.index Instr.range Instr.next
def ldS (s : MS) (a : Int) : MS := if okA s a then tick s (0, a, -1, false) else s
def ldV (s : MS) (a : Int) : Int := if okA s a then rd s a else 0
def casS (s : MS) (a o n : Int) : MS := if okA s a then tick (if rd s a = o then wr s a n else s) (2, a, -1, rd s a == o) else s
def casV (s : MS) (a o : Int) : Bool := decide (okA s a ∧ rd s a = o)
def addS (s : MS) (a d : Int) : MS := if okA s a then tick (wr s a (IntKind.u64.wrap (rd s a + d))) (3, a, -1, true) else s
def ok2 (s : MS) (a b : Int) : Prop := (okA s a ∧ okA s b) ∧ a ≠ b
instance (s : MS) (a b : Int) : Decidable (ok2 s a b) := inferInstanceAs (Decidable (_ ∧ _))
def both (s : MS) (a o b q : Int) : Prop := rd s a = o ∧ rd s b = q
instance (s : MS) (a o b q : Int) : Decidable (both s a o b q) := inferInstanceAs (Decidable (_ ∧ _))
def dcasS (s : MS) (a o n b q r : Int) : MS := if ok2 s a b then tick (if both s a o b q then wr (wr s a n) b r else s) (4, a, b, decide (both s a o b q)) else s
def dcssS (s : MS) (a o n b q : Int) : MS := if okA s a ∧ okA s b then tick (if both s a o b q then wr s a n else s) (5, a, b, decide (both s a o b q)) else s
section
variable {w w' : World} {X : Mc}
theorem Mach.mp_ (h : Mach w X) {K' : Value → World → Prop} {t : Nat} [One Try.prog t] (k : K' (ptrV X.mp) w) : RunP Try.prog (Instr.loadAt t (.pointer (some ⟨X.m, 0 + 15, none⟩))) K' w :=
  ldb h.blk (v := ptrV X.mp) (by cases X.c; rfl) k
theorem fresh_rd {g : Nat} {l : List Int} (h : Mach w X) (hb : Blk w g 3 (l.map (Value.int .i64)).toArray) (hg : g ∉ X.feet) (hl : l.length ≤ 100) : ∀ w', Upd X.feet w w' → RdK w' .i64 (.slice (some ⟨g, 0, none⟩) l.length l.length) l := fun w' hu => by
  have := Sl.lit (n := l.length) (hb.upd hu hg) (by simp) (by simp only [maxLen]; omega)
  exact RdK.of_sl (e := 3) (n := l.length) (by simpa using this)
theorem load_m (h : Mach w X) (hr : rightC X.c) (ht : (gtags X.gs).length ≤ 64) (hq : Roomy X.s) (a : Int) : Fn Try.prog 45 #[ptrV X.m, .int .i64 a] w fun r w' => r = .int .u64 (ldV X.s a) ∧
    ∃ lv, Post w X w' { X with acted := true, gs := tch X.c X.gs a, lv := lv, s := ldS X.s a, bad := X.bad || !decide (okA X.s a) } := by
  refine fn_enter Try.func45 rfl rfl ?_
  refine bs (([a]).map (Value.int .i64)).toArray (fun _ => by kernel_rfl) fun w1 hb1 hu1 hs1 => ?_
  have hgn : w.heap.size ∉ X.feet := fun hm => by have := h.m_lt _ hm; omega
  refine cl (touch_m (h.upd0 hu1) hr ht (fresh_rd (l := [a]) (h.upd0 hu1) hb1 hgn (by simp)) (by simp)) ?_
  rintro _ w2 ⟨rfl, p2⟩
  have q2 := (Post.of0 h hu1).trans p2
  refine fa ?_
  refine q2.ok.mp_ ?_
  refine cl (load_c q2.ok.mem hq a) ?_
  rintro _ w3 ⟨hy, hn⟩
  unfold ldV ldS
  by_cases ha : okA X.s a
  · obtain ⟨rfl, hp⟩ := hy ha
    obtain ⟨lv, p3⟩ := q2.ok.memPost hp
    have q3 := q2.trans p3
    refine cl (note_m (q3).ok _) ?_
    rintro _ w4 p4
    have q4 := (q3).trans p4
    refine ⟨by rw [if_pos ha]; rfl, lv, ?_⟩
    rw [if_pos ha, decide_eq_true ha]
    exact q4
  · obtain ⟨rfl, hp⟩ := hn ha
    obtain ⟨lv, p3⟩ := q2.ok.memPost hp
    have q3 := q2.trans p3
    refine cl (note_m (q3).ok _) ?_
    rintro _ w4 p4
    have q4 := (q3).trans p4
    refine ⟨by rw [if_neg ha]; rfl, lv, ?_⟩
    rw [if_neg ha, decide_eq_false ha]
    exact q4
theorem stM_def (s : MS) (a x : Int) : stM s a x = if okA s a then tick (wr s a x) (1, a, -1, true) else s := rfl
theorem store_mm (h : Mach w X) (hr : rightC X.c) (ht : (gtags X.gs).length ≤ 64) (hq : Roomy X.s) (a x : Int) : Fn Try.prog 77 #[ptrV X.m, .int .i64 a, .int .u64 x] w fun _ w' =>
    ∃ lv, Post w X w' { X with acted := true, gs := tch X.c X.gs a, lv := lv, s := stM X.s a x, bad := X.bad || !decide (okA X.s a) } := by
  refine fn_enter Try.func77 rfl rfl ?_
  refine bs (([a]).map (Value.int .i64)).toArray (fun _ => by kernel_rfl) fun w1 hb1 hu1 hs1 => ?_
  have hgn : w.heap.size ∉ X.feet := fun hm => by have := h.m_lt _ hm; omega
  refine cl (touch_m (h.upd0 hu1) hr ht (fresh_rd (l := [a]) (h.upd0 hu1) hb1 hgn (by simp)) (by simp)) ?_
  rintro _ w2 ⟨rfl, p2⟩
  have q2 := (Post.of0 h hu1).trans p2
  refine fa ?_
  refine q2.ok.mp_ ?_
  refine cl (store_c q2.ok.mem hq a x) ?_
  rintro _ w3 ⟨hy, hn⟩
  rw [stM_def]
  by_cases ha : okA X.s a
  · obtain ⟨rfl, hp⟩ := hy ha
    obtain ⟨lv, p3⟩ := q2.ok.memPost hp
    have q3 := q2.trans p3
    refine cl (note_m (q3).ok _) ?_
    rintro _ w4 p4
    have q4 := (q3).trans p4
    refine ⟨lv, ?_⟩
    rw [if_pos ha, decide_eq_true ha]
    exact q4
  · obtain ⟨rfl, hp⟩ := hn ha
    obtain ⟨lv, p3⟩ := q2.ok.memPost hp
    have q3 := q2.trans p3
    refine cl (note_m (q3).ok _) ?_
    rintro _ w4 p4
    have q4 := (q3).trans p4
    refine ⟨lv, ?_⟩
    rw [if_neg ha, decide_eq_false ha]
    exact q4
theorem cas_m (h : Mach w X) (hr : rightC X.c) (ht : (gtags X.gs).length ≤ 64) (hq : Roomy X.s) (a o n : Int) : Fn Try.prog 78 #[ptrV X.m, .int .i64 a, .int .u64 o, .int .u64 n] w fun r w' => r = .bool (casV X.s a o) ∧
    ∃ lv, Post w X w' { X with acted := true, gs := tch X.c X.gs a, lv := lv, s := casS X.s a o n, bad := X.bad || !decide (okA X.s a) } := by
  refine fn_enter Try.func78 rfl rfl ?_
  refine bs (([a]).map (Value.int .i64)).toArray (fun _ => by kernel_rfl) fun w1 hb1 hu1 hs1 => ?_
  have hgn : w.heap.size ∉ X.feet := fun hm => by have := h.m_lt _ hm; omega
  refine cl (touch_m (h.upd0 hu1) hr ht (fresh_rd (l := [a]) (h.upd0 hu1) hb1 hgn (by simp)) (by simp)) ?_
  rintro _ w2 ⟨rfl, p2⟩
  have q2 := (Post.of0 h hu1).trans p2
  refine fa ?_
  refine q2.ok.mp_ ?_
  refine cl (cas_c q2.ok.mem hq a o n) ?_
  rintro _ w3 ⟨hy, hn⟩
  unfold casV casS
  by_cases ha : okA X.s a
  · obtain ⟨rfl, hp⟩ := hy ha
    obtain ⟨lv, p3⟩ := q2.ok.memPost hp
    have q3 := q2.trans p3
    refine cl (note_m (q3).ok _) ?_
    rintro _ w4 p4
    have q4 := (q3).trans p4
    refine ⟨?_, lv, ?_⟩
    · have : (rd X.s a == o) = decide (okA X.s a ∧ rd X.s a = o) := by
        by_cases h1 : rd X.s a = o
        · rw [decide_eq_true ⟨ha, h1⟩]; simp [h1]
        · rw [decide_eq_false (fun hh => h1 hh.2)]; simp [h1]
      rw [← this]; rfl
    rw [if_pos ha, decide_eq_true ha]
    exact q4
  · obtain ⟨rfl, hp⟩ := hn ha
    obtain ⟨lv, p3⟩ := q2.ok.memPost hp
    have q3 := q2.trans p3
    refine cl (note_m (q3).ok _) ?_
    rintro _ w4 p4
    have q4 := (q3).trans p4
    refine ⟨by rw [decide_eq_false (fun hh => ha hh.1)]; rfl, lv, ?_⟩
    rw [if_neg ha, decide_eq_false ha]
    exact q4
theorem add_m (h : Mach w X) (hr : rightC X.c) (ht : (gtags X.gs).length ≤ 64) (hq : Roomy X.s) (a d : Int) : Fn Try.prog 79 #[ptrV X.m, .int .i64 a, .int .u64 d] w fun r w' => r = .int .u64 (ldV X.s a) ∧
    ∃ lv, Post w X w' { X with acted := true, gs := tch X.c X.gs a, lv := lv, s := addS X.s a d, bad := X.bad || !decide (okA X.s a) } := by
  refine fn_enter Try.func79 rfl rfl ?_
  refine bs (([a]).map (Value.int .i64)).toArray (fun _ => by kernel_rfl) fun w1 hb1 hu1 hs1 => ?_
  have hgn : w.heap.size ∉ X.feet := fun hm => by have := h.m_lt _ hm; omega
  refine cl (touch_m (h.upd0 hu1) hr ht (fresh_rd (l := [a]) (h.upd0 hu1) hb1 hgn (by simp)) (by simp)) ?_
  rintro _ w2 ⟨rfl, p2⟩
  have q2 := (Post.of0 h hu1).trans p2
  refine fa ?_
  refine q2.ok.mp_ ?_
  refine cl (add_c q2.ok.mem hq a d) ?_
  rintro _ w3 ⟨hy, hn⟩
  unfold ldV addS
  by_cases ha : okA X.s a
  · obtain ⟨rfl, hp⟩ := hy ha
    obtain ⟨lv, p3⟩ := q2.ok.memPost hp
    have q3 := q2.trans p3
    refine cl (note_m (q3).ok _) ?_
    rintro _ w4 p4
    have q4 := (q3).trans p4
    refine ⟨by rw [if_pos ha]; rfl, lv, ?_⟩
    rw [if_pos ha, decide_eq_true ha]
    exact q4
  · obtain ⟨rfl, hp⟩ := hn ha
    obtain ⟨lv, p3⟩ := q2.ok.memPost hp
    have q3 := q2.trans p3
    refine cl (note_m (q3).ok _) ?_
    rintro _ w4 p4
    have q4 := (q3).trans p4
    refine ⟨by rw [if_neg ha]; rfl, lv, ?_⟩
    rw [if_neg ha, decide_eq_false ha]
    exact q4
theorem dcas_m (h : Mach w X) (hr : rightC X.c) (ht : (gtags X.gs).length ≤ 64) (hq : Roomy X.s) (a o n b q r : Int) : Fn Try.prog 80 #[ptrV X.m, .int .i64 a, .int .u64 o, .int .u64 n, .int .i64 b, .int .u64 q, .int .u64 r] w fun x w' => x = .bool (decide (ok2 X.s a b ∧ both X.s a o b q)) ∧
    ∃ lv, Post w X w' { X with acted := true, gs := tchs X.c X.gs [a, b], lv := lv, s := dcasS X.s a o n b q r, bad := X.bad || !decide (ok2 X.s a b) } := by
  refine fn_enter Try.func80 rfl rfl ?_
  refine bs (([a, b]).map (Value.int .i64)).toArray (fun _ => by kernel_rfl) fun w1 hb1 hu1 hs1 => ?_
  have hgn : w.heap.size ∉ X.feet := fun hm => by have := h.m_lt _ hm; omega
  refine cl (touch_m (h.upd0 hu1) hr ht (fresh_rd (l := [a, b]) (h.upd0 hu1) hb1 hgn (by simp)) (by simp)) ?_
  rintro _ w2 ⟨rfl, p2⟩
  have q2 := (Post.of0 h hu1).trans p2
  refine fa ?_
  refine q2.ok.mp_ ?_
  refine cl (dcas_c q2.ok.mem hq a o n b q r) ?_
  rintro _ w3 ⟨hy, hn⟩
  unfold dcasS
  by_cases ha : ok2 X.s a b
  · obtain ⟨rfl, hp⟩ := hy ha
    obtain ⟨lv, p3⟩ := q2.ok.memPost hp
    have q3 := q2.trans p3
    refine cl (note_m (q3).ok _) ?_
    rintro _ w4 p4
    have q4 := (q3).trans p4
    refine ⟨?_, lv, ?_⟩
    · have : decide (both X.s a o b q) = decide (ok2 X.s a b ∧ both X.s a o b q) := by
        by_cases h1 : both X.s a o b q
        · rw [decide_eq_true h1, decide_eq_true ⟨ha, h1⟩]
        · rw [decide_eq_false h1, decide_eq_false (fun hh => h1 hh.2)]
      rw [← this]; rfl
    rw [if_pos ha, decide_eq_true ha]
    exact q4
  · obtain ⟨rfl, hp⟩ := hn ha
    obtain ⟨lv, p3⟩ := q2.ok.memPost hp
    have q3 := q2.trans p3
    refine cl (note_m (q3).ok _) ?_
    rintro _ w4 p4
    have q4 := (q3).trans p4
    refine ⟨by rw [decide_eq_false (fun hh => ha hh.1)]; rfl, lv, ?_⟩
    rw [if_neg ha, decide_eq_false ha]
    exact q4
theorem dcss_m (h : Mach w X) (hr : rightC X.c) (ht : (gtags X.gs).length ≤ 64) (hq : Roomy X.s) (a o n b q : Int) : Fn Try.prog 81 #[ptrV X.m, .int .i64 a, .int .u64 o, .int .u64 n, .int .i64 b, .int .u64 q] w fun x w' => x = .bool (decide ((okA X.s a ∧ okA X.s b) ∧ both X.s a o b q)) ∧
    ∃ lv, Post w X w' { X with acted := true, gs := tchs X.c X.gs [a, b], lv := lv, s := dcssS X.s a o n b q, bad := X.bad || !decide (okA X.s a ∧ okA X.s b) } := by
  refine fn_enter Try.func81 rfl rfl ?_
  refine bs (([a, b]).map (Value.int .i64)).toArray (fun _ => by kernel_rfl) fun w1 hb1 hu1 hs1 => ?_
  have hgn : w.heap.size ∉ X.feet := fun hm => by have := h.m_lt _ hm; omega
  refine cl (touch_m (h.upd0 hu1) hr ht (fresh_rd (l := [a, b]) (h.upd0 hu1) hb1 hgn (by simp)) (by simp)) ?_
  rintro _ w2 ⟨rfl, p2⟩
  have q2 := (Post.of0 h hu1).trans p2
  refine fa ?_
  refine q2.ok.mp_ ?_
  refine cl (dcss_c q2.ok.mem hq a o n b q) ?_
  rintro _ w3 ⟨hy, hn⟩
  unfold dcssS
  by_cases ha : okA X.s a ∧ okA X.s b
  · obtain ⟨rfl, hp⟩ := hy ha
    obtain ⟨lv, p3⟩ := q2.ok.memPost hp
    have q3 := q2.trans p3
    refine cl (note_m (q3).ok _) ?_
    rintro _ w4 p4
    have q4 := (q3).trans p4
    refine ⟨?_, lv, ?_⟩
    · have : decide (both X.s a o b q) = decide ((okA X.s a ∧ okA X.s b) ∧ both X.s a o b q) := by
        by_cases h1 : both X.s a o b q
        · rw [decide_eq_true h1, decide_eq_true ⟨ha, h1⟩]
        · rw [decide_eq_false h1, decide_eq_false (fun hh => h1 hh.2)]
      rw [← this]; rfl
    rw [if_pos ha, decide_eq_true ha]
    exact q4
  · obtain ⟨rfl, hp⟩ := hn ha
    obtain ⟨lv, p3⟩ := q2.ok.memPost hp
    have q3 := q2.trans p3
    refine cl (note_m (q3).ok _) ?_
    rintro _ w4 p4
    have q4 := (q3).trans p4
    refine ⟨by rw [decide_eq_false (fun hh => ha hh.1)]; rfl, lv, ?_⟩
    rw [if_neg ha, decide_eq_false ha]
    exact q4
/-! what a machine tells of itself -/
theorem mem_mm (h : Mach w X) : Fn Try.prog 34 #[ptrV X.m] w fun r w' => r = ptrV X.mp ∧ w' = w := by
  refine fn_enter Try.func34 rfl rfl ?_
  refine ptr_eq ?_
  refine fa ?_
  refine h.mp_ ?_
  exact ⟨rfl, rfl⟩
theorem ghost_mm (h : Mach w X) : Fn Try.prog 29 #[ptrV X.m] w fun r w' => r = gvOf X.gs ∧ w' = w := by
  refine fn_enter Try.func29 rfl rfl ?_
  refine ptr_eq ?_
  refine fa ?_
  refine ldb h.blk (v := gvOf X.gs) (by cases X.c; rfl) ?_
  exact ⟨rfl, rfl⟩
theorem plan_mm (h : Mach w X) : Fn Try.prog 37 #[ptrV X.m] w fun r w' => r = .agg (planC X.c) ∧ Upd [] w w' := by
  refine fn_enter Try.func37 rfl rfl ?_
  refine al z15 (fun _ => by kernel_rfl) fun w1 hb1 hu1 hs1 => ?_
  refine ptr_eq ?_
  have hb := h.blk.upd hu1 (by simp)
  refine fa ?_
  refine ldplan hb ?_
  refine stw hb1 rfl (planC_len X.c) (planC_one X.c) fun w2 hb2 hu2 hs2 => ?_
  refine rlw hb2 (planC_len X.c) ?_
  exact ⟨rfl, hu1.step hu2 (by simp)⟩
theorem thread_no (h : Mach w X) (i : Int) (hi : i < 0 ∨ (X.ths.length : Int) ≤ i) : Fn Try.prog 39 #[ptrV X.m, .int .i64 i] w fun r w' => r = .pointer none ∧ w' = w := by
  obtain ⟨ta, tc, hta, -⟩ := h.tvs.form
  refine fn_enter Try.func39 rfl rfl ?_
  refine ptr_eq ?_
  by_cases h1 : i < 0
  · refine cY h1 ?_
    exact ⟨rfl, rfl⟩
  refine cN h1 ?_
  refine fa ?_
  refine ldb h.blk (v := .slice ta X.ths.length tc) (by rw [← hta]; cases X.c; rfl) ?_
  refine len_sl ?_
  refine cY (p := i ≥ (X.ths.length : Int)) (by omega) ?_
  exact ⟨rfl, rfl⟩
theorem thread_mm (h : Mach w X) {i : Nat} {t : Th} (hi : X.ths[i]? = some t) (hl : X.ths.length ≤ 100) : Fn Try.prog 39 #[ptrV X.m, .int .i64 (i : Int)] w fun r w' => r = ptrV t.g ∧ w' = w := by
  have hlt := (List.getElem?_eq_some_iff.1 hi).1
  have htv := h.tvs
  have hb := h.blk
  obtain ⟨tb, to, tc, he, -⟩ := htv.some_ (by omega)
  rw [he] at htv hb
  have hb18 : (machC X.c (ptrV X.mp) (gvOf X.gs) (ptrV X.fp) (.slice (some ⟨tb, to, none⟩) X.ths.length tc) X.acted X.bad).toList[18]? = some (.slice (some ⟨tb, to, none⟩) X.ths.length tc) := by cases X.c; rfl
  refine fn_enter Try.func39 rfl rfl ?_
  refine ptr_eq ?_
  refine fa ?_
  refine ldb hb hb18 ?_
  refine len_sl ?_
  refine cN (p := (i : Int) ≥ (X.ths.length : Int)) (by omega) ?_
  refine fa ?_
  refine ldb hb hb18 ?_
  refine ix i rfl hlt ?_
  refine ld (v := ptrV t.g) (by rw [Nat.mul_one, (htv.cells rfl i (by omega)).1]; simp [ptrs, hi]) ?_
  exact ⟨rfl, rfl⟩
theorem watched_mm (h : Mach w X) : Fn Try.prog 70 #[ptrV X.m] w fun r w' => r = .bool X.gs.isSome ∧ w' = w := by
  have hb16 : (machC X.c (ptrV X.mp) (gvOf X.gs) (ptrV X.fp) X.tv X.acted X.bad).toList[16]? = some (gvOf X.gs) := by cases X.c; rfl
  refine fn_enter Try.func70 rfl rfl ?_
  refine ptr_ne ?_
  refine fa ?_
  refine ldb h.blk hb16 ?_
  cases X.gs with
  | none =>
    refine ptr_ne0 ?_
    exact ⟨rfl, rfl⟩
  | some g =>
    refine ptr_ne ?_
    exact ⟨rfl, rfl⟩
def faultG : Option Gs → Bool
  | none => false
  | some g => decide (¬ (g.k = 0 ∧ g.n = 0))
theorem fault_mm (h : Mach w X) : Fn Try.prog 31 #[ptrV X.m] w fun r w' => r = .bool (X.bad || faultG X.gs) ∧ Upd [] w w' := by
  have hb16 : (machC X.c (ptrV X.mp) (gvOf X.gs) (ptrV X.fp) X.tv X.acted X.bad).toList[16]? = some (gvOf X.gs) := by cases X.c; rfl
  have hb20 : (machC X.c (ptrV X.mp) (gvOf X.gs) (ptrV X.fp) X.tv X.acted X.bad).toList[20]? = some (.bool X.bad) := by cases X.c; rfl
  have hb := h.blk
  have hG := h.gh
  have hw := watched_mm h
  refine fn_enter Try.func31 rfl rfl ?_
  refine ptr_ne ?_
  refine fa ?_
  refine ldb hb hb20 ?_
  cases hbad : X.bad with
  | true => exact ⟨rfl, Upd.refl _ _⟩
  | false =>
    refine cl hw ?_
    rintro _ _ ⟨rfl, rfl⟩
    cases hgs : X.gs with
    | none => exact ⟨rfl, Upd.refl _ _⟩
    | some g =>
      rw [hgs] at hG hb16
      have hG : IsG _ g.p g.v g.tags g.k g.n := hG
      refine fa ?_
      refine ldb hb (by rw [hgs]; exact hb16) ?_
      refine cl (first_c hG) ?_
      rintro _ w2 ⟨rfl, hu2⟩
      refine bd #[.int .i64 0, .int .i64 0] (fun _ => by kernel_rfl) ?_
      refine fne (decide (¬ (g.k = 0 ∧ g.n = 0))) decide_eq_true_iff ?_
      exact ⟨rfl, hu2⟩
end
end Go.Proofs.Ytdomclcokkijjaa
