/- The reference's steps of memory. -/
import Derived.Test.YtdomclcokkijjaaFh
namespace Go.Proofs.Ytdomclcokkijjaa
open Go.RowKit
attribute [local irreducible] Instr.loadAt Instr.storeAt Instr.fieldAt Instr.indexAt Instr.sliceAt Instr.buildSlice Instr.box Instr.alloc Builtin.append_ Builtin.len_ Builtin.min_ Builtin.max_ Calls Instr.build Instr.makeSlice binSem convert Instr.index Instr.range Instr.next
structure Op7 where
  (K A B O N P Q : Int)
def o7 (o : Op7) : Array Value := #[.int .i64 o.K, .int .i64 o.A, .int .i64 o.B, .int .u64 o.O, .int .u64 o.N, .int .u64 o.P, .int .u64 o.Q]
def at_ (W : List Int) (a : Int) : Int := W.getD a.toNat 0
def set_ (W : List Int) (a x : Int) : List Int := W.set a.toNat x
def inW (n : Nat) (a : Int) : Prop := 0 ≤ a ∧ a < n
instance (n : Nat) (a : Int) : Decidable (inW n a) := inferInstanceAs (Decidable (_ ∧ _))
def rightO (o : Op7) (n : Nat) : Prop := (0 ≤ o.K ∧ o.K ≤ 5) ∧ inW n o.A ∧ (o.K < 4 ∨ (inW n o.B ∧ (o.K = 5 ∨ o.A ≠ o.B)))
instance (o : Op7) (n : Nat) : Decidable (rightO o n) := inferInstanceAs (Decidable (_ ∧ _))
/-- a step that may be: the words behind it, what it tells, whether something was written -/
def eff (o : Op7) (W : List Int) : List Int × Int × Bool :=
  if o.K = 0 then (W, at_ W o.A, false)
  else if o.K = 1 then (set_ W o.A o.N, 0, true)
  else if o.K = 2 then (if at_ W o.A = o.O then set_ W o.A o.N else W, 0, at_ W o.A == o.O)
  else if o.K = 3 then (set_ W o.A (IntKind.u64.wrap (at_ W o.A + o.N)), at_ W o.A, true)
  else if at_ W o.A = o.O ∧ at_ W o.B = o.P then (if o.K = 4 then set_ (set_ W o.A o.N) o.B o.Q else set_ W o.A o.N, 0, true)
  else (W, 0, false)
theorem eff_length (o : Op7) (W : List Int) : (eff o W).1.length = W.length := by
  unfold eff set_
  repeat' split
  all_goals simp
theorem right_law (o : Op7) (n : Nat) (w : World) : Fn Try.prog 50 #[.agg (o7 o), .int .i64 n] w fun r w' => r = .bool (decide (rightO o n)) ∧ Upd [] w w' := by
  obtain ⟨K, A, B, O, N, P, Q⟩ := o
  have hR : rightO ⟨K, A, B, O, N, P, Q⟩ n ↔ (0 ≤ K ∧ K ≤ 5) ∧ (0 ≤ A ∧ A < n) ∧ (K < 4 ∨ ((0 ≤ B ∧ B < n) ∧ (K = 5 ∨ A ≠ B))) := Iff.rfl
  have hb : ∀ b : Bool, (b = true ↔ rightO ⟨K, A, B, O, N, P, Q⟩ n) → b = decide (rightO ⟨K, A, B, O, N, P, Q⟩ n) := fun b hb => by rw [Bool.eq_iff_iff, hb]; simp
  refine fn_enter Try.func50 rfl rfl ?_
  refine bx fun w1 hb1 hu1 hs1 => ?_
  repeat (first | refine fa ?_ | refine ldb hb1 rfl ?_)
  refine cd (fun c1 => ⟨congrArg Value.bool (hb false (by dsimp only at *; simp [hR]; omega)), hu1⟩) (fun c1 => ?_)
  repeat (first | refine fa ?_ | refine ldb hb1 rfl ?_)
  refine cd (fun c2 => ⟨congrArg Value.bool (hb false (by dsimp only at *; simp [hR]; omega)), hu1⟩) (fun c2 => ?_)
  repeat (first | refine fa ?_ | refine ldb hb1 rfl ?_)
  refine cd (fun c3 => ⟨congrArg Value.bool (hb false (by dsimp only at *; simp [hR]; omega)), hu1⟩) (fun c3 => ?_)
  repeat (first | refine fa ?_ | refine ldb hb1 rfl ?_)
  refine cd (fun c4 => ⟨congrArg Value.bool (hb false (by dsimp only at *; simp [hR]; omega)), hu1⟩) (fun c4 => ?_)
  repeat (first | refine fa ?_ | refine ldb hb1 rfl ?_)
  refine cd (fun c5 => ⟨congrArg Value.bool (hb true (by dsimp only at *; simp [hR]; omega)), hu1⟩) (fun c5 => ?_)
  repeat (first | refine fa ?_ | refine ldb hb1 rfl ?_)
  refine cd (fun c6 => ?_) (fun c6 => ⟨congrArg Value.bool (hb false (by dsimp only at *; simp [hR]; omega)), hu1⟩)
  repeat (first | refine fa ?_ | refine ldb hb1 rfl ?_)
  refine cd (fun c7 => ?_) (fun c7 => ⟨congrArg Value.bool (hb false (by dsimp only at *; simp [hR]; omega)), hu1⟩)
  repeat (first | refine fa ?_ | refine ldb hb1 rfl ?_)
  refine cd (fun c8 => ⟨congrArg Value.bool (hb true (by dsimp only at *; simp [hR]; omega)), hu1⟩) (fun c8 => ?_)
  repeat (first | refine fa ?_ | refine ldb hb1 rfl ?_)
  refine ⟨congrArg Value.bool (hb _ ?_), hu1⟩
  dsimp only at *; simp [hR]; omega

theorem inW_ix {n : Nat} {a : Int} (h : inW n a) : a = (a.toNat : Int) ∧ a.toNat < n := by unfold inW at h; omega
def DoPost (w : World) (n : Nat) (W' : List Int) (u : Int) (d : Bool) (r : Value) (w' : World) : Prop :=
  ∃ rv, r = .tuple #[rv, .int .u64 u, .bool d] ∧ Sl w' 27 1 rv n (W'.map (Value.int .u64)) ∧ Upd [] w w' ∧ ∀ g, rv.ownBlock = some g → w.heap.size ≤ g
theorem Sl.put {w : World} {v : Value} {n j : Nat} {W : List Int} {x : Int} (h : Sl w 27 1 v n ((W.map (Value.int .u64)).set j (.int .u64 x))) : Sl w 27 1 v n ((W.set j x).map (Value.int .u64)) := by rw [List.map_set]; exact h
theorem doref_c {w : World} {v : Value} {W : List Int} (hs : Sl w 27 1 v W.length (W.map (Value.int .u64))) (o : Op7) (ho : rightO o W.length) (hn : W.length < 4294967296) :
    Fn Try.prog 51 #[v, .agg (o7 o)] w fun r w' => DoPost w W.length (eff o W).1 (eff o W).2.1 (eff o W).2.2 r w' := by
  obtain ⟨K, A, B, O, N, P, Q⟩ := o
  obtain ⟨hK, hA, hB⟩ := ho
  dsimp only at hK hA hB
  obtain ⟨e1, e2⟩ := inW_ix hA
  obtain ⟨gv, ov, cv, rfl, -⟩ := hs.some_ (by omega)
  refine fn_enter Try.func51 rfl rfl ?_
  refine bx fun w1 hb1 hu1 hs1 => ?_
  have hs1 := hs.upd hu1 (by simp)
  refine apr (W.map (Value.int .u64)) (Sl.nil_ w1 27 1) (by simp) (fun j u hu => ?_) (by simp only [List.mem_map]; rintro u ⟨x, -, rfl⟩; rfl) (by omega) (by simp [maxLen]; omega) (by omega) fun g off cap w2 hs2 hu2 hg => ?_
  · have hj : j < W.length := by
      rcases Nat.lt_or_ge j W.length with h | h
      · exact h
      · rw [List.getElem?_eq_none (by simpa using h)] at hu; cases hu
    rw [(hs1.cells rfl j (by omega)).1, hu]
  have hb2 := hb1.upd hu2 (by simp [Value.ownBlock])
  have hu02 : Upd [] w w2 := hu1.step hu2 (by simp [Value.ownBlock])
  rw [Nat.zero_add, List.nil_append] at hs2
  have hfr : w.heap.size ≤ g := by
    have := hu1.size
    rcases hg with h | rfl
    · cases h
    · omega
  have hgb : w.heap.size ≠ g := by
    rcases hg with h | rfl
    · cases h
    · have := hb1.lt; omega
  rw [Nat.zero_add]
  repeat (first | refine fa ?_ | refine ldb hb2 rfl ?_)
  refine ix A.toNat e1 e2 ?_
  refine ld (hs2.getD_ rfl A.toNat e2) ?_
  repeat (first | refine fa ?_ | refine ldb hb2 rfl ?_)
  have done : ∀ {w3 : World} {W' : List Int} {u : Int} {d : Bool}, Sl w3 27 1 (.slice (some ⟨g, off, none⟩) W.length cap) W.length (W'.map (Value.int .u64)) → Upd [] w w3 → DoPost w W.length W' u d (.tuple #[.slice (some ⟨g, off, none⟩) W.length cap, .int .u64 u, .bool d]) w3 :=
    fun h1 h2 => ⟨_, rfl, h1, h2, fun q hq => by simp only [Value.ownBlock, Option.some.injEq] at hq; omega⟩
  rcases (show K = 0 ∨ K = 1 ∨ K = 2 ∨ K = 3 ∨ K = 4 ∨ K = 5 by omega) with rfl | rfl | rfl | rfl | rfl | rfl
  · exact done hs2 hu02
  · repeat (first | refine fa ?_ | refine ldb hb2 rfl ?_)
    refine ix A.toNat e1 e2 ?_
    refine stS hs2 rfl e2 rfl fun w3 hs3 hu3 hz3 => ?_
    exact done (W' := W.set A.toNat N) hs3.put (hu02.step hu3 (by simpa using hfr))
  · repeat (first | refine fa ?_ | refine ldb hb2 rfl ?_)
    have hv : at_ W A = W.getD A.toNat 0 := rfl
    refine cd (fun he => ?_) (fun he => ?_)
    · repeat (first | refine fa ?_ | refine ldb hb2 rfl ?_)
      refine ix A.toNat e1 e2 ?_
      refine stS hs2 rfl e2 rfl fun w3 hs3 hu3 hz3 => ?_
      have hb3 := hb2.upd hu3 (by simpa using hgb)
      have hE : eff ⟨2, A, B, O, N, P, Q⟩ W = (W.set A.toNat N, 0, W.getD A.toNat 0 == O) := by simp only [eff, hv]; rw [if_pos he]; rfl
      rw [hE]
      refine draw_all (fun w' => w' = w3.drew) (by decide +kernel) rfl ?_
      refine q_fa ?_
      refine q_ld (v := .int .u64 O) (by rintro _ rfl; exact hb3.cell 3) ?_
      rintro _ rfl
      exact done (W' := W.set A.toNat N) hs3.put.drew (hu02.step hu3 (by simpa using hfr)).drew
    · have hE : eff ⟨2, A, B, O, N, P, Q⟩ W = (W, 0, W.getD A.toNat 0 == O) := by simp only [eff, hv]; rw [if_neg he]; rfl
      rw [hE]
      refine draw_all (fun w' => w' = w2.drew) (by decide +kernel) rfl ?_
      refine q_fa ?_
      refine q_ld (v := .int .u64 O) (by rintro _ rfl; exact hb2.cell 3) ?_
      rintro _ rfl
      exact done (W' := W) hs2.drew hu02.drew
  · repeat (first | refine fa ?_ | refine ldb hb2 rfl ?_)
    refine val _ rfl ?_
    refine ix A.toNat e1 e2 ?_
    refine stS hs2 rfl e2 rfl fun w3 hs3 hu3 hz3 => ?_
    exact done (W' := W.set A.toNat (IntKind.u64.wrap (W.getD A.toNat 0 + N))) hs3.put (hu02.step hu3 (by simpa using hfr))
  all_goals
    obtain ⟨f1, f2⟩ := inW_ix (show inW W.length B by rcases hB with h | h; omega; exact h.1)
    have hva : at_ W A = W.getD A.toNat 0 := rfl
    have hvb : at_ W B = W.getD B.toNat 0 := rfl
    refine draw_all (fun w' => w' = w2.drew) (by decide +kernel) rfl ?_
    refine q_fa ?_
    refine q_ld (v := .int .u64 O) (by rintro _ rfl; exact hb2.cell 3) ?_
    refine cd (fun he => ?_) (fun he => ?_)
  · refine q_fa ?_
    refine q_ld (v := .int .i64 B) (by rintro _ rfl; exact hb2.cell 2) ?_
    refine q_ix B.toNat f1 f2 ?_
    refine q_ld (v := .int .u64 (W.getD B.toNat 0)) (by rintro _ rfl; exact hs2.getD_ rfl B.toNat f2) ?_
    refine q_fa ?_
    refine q_ld (v := .int .u64 P) (by rintro _ rfl; exact hb2.cell 5) ?_
    rintro _ rfl
    refine cd (fun he2 => ?_) (fun he2 => ?_)
    · have hE : eff ⟨4, A, B, O, N, P, Q⟩ W = ((W.set A.toNat N).set B.toNat Q, 0, W.getD B.toNat 0 == P) := by
        have hc : at_ W A = O ∧ at_ W B = P := ⟨he, he2⟩
        have hb : (W.getD B.toNat 0 == P) = true := beq_iff_eq.2 he2
        rw [hb]
        simp [eff, hc, set_]
      rw [hE]
      have hb2' := hb2.drew
      repeat (first | refine fa ?_ | refine ldb hb2' rfl ?_)
      refine ix A.toNat e1 e2 ?_
      refine stS hs2.drew rfl e2 rfl fun w3 hs3 hu3 hz3 => ?_
      have hb3 := hb2'.upd hu3 (by simpa using hgb)
      repeat (first | refine fa ?_ | refine ldb hb3 rfl ?_)
      refine ix B.toNat f1 f2 ?_
      refine stS hs3 rfl f2 rfl fun w4 hs4 hu4 hz4 => ?_
      exact done (W' := (W.set A.toNat N).set B.toNat Q) (by rw [List.map_set, List.map_set]; exact hs4) ((hu02.drew.step hu3 (by simpa using hfr)).step hu4 (by simpa using hfr))
    · have hE : eff ⟨4, A, B, O, N, P, Q⟩ W = (W, 0, W.getD B.toNat 0 == P) := by
        have hc : ¬ (at_ W A = O ∧ at_ W B = P) := fun h => he2 h.2
        have hb : (W.getD B.toNat 0 == P) = false := beq_eq_false_iff_ne.2 he2
        rw [hb]
        simp [eff, hc]
      rw [hE]
      exact done (W' := W) hs2.drew hu02.drew
  · rintro _ rfl
    have hE : eff ⟨4, A, B, O, N, P, Q⟩ W = (W, 0, false) := by
      have hc : ¬ (at_ W A = O ∧ at_ W B = P) := fun h => he h.1
      simp [eff, hc]
    rw [hE]
    exact done (W' := W) hs2.drew hu02.drew
  · refine q_fa ?_
    refine q_ld (v := .int .i64 B) (by rintro _ rfl; exact hb2.cell 2) ?_
    refine q_ix B.toNat f1 f2 ?_
    refine q_ld (v := .int .u64 (W.getD B.toNat 0)) (by rintro _ rfl; exact hs2.getD_ rfl B.toNat f2) ?_
    refine q_fa ?_
    refine q_ld (v := .int .u64 P) (by rintro _ rfl; exact hb2.cell 5) ?_
    rintro _ rfl
    refine cd (fun he2 => ?_) (fun he2 => ?_)
    · have hE : eff ⟨5, A, B, O, N, P, Q⟩ W = (W.set A.toNat N, 0, W.getD B.toNat 0 == P) := by
        have hc : at_ W A = O ∧ at_ W B = P := ⟨he, he2⟩
        have hb : (W.getD B.toNat 0 == P) = true := beq_iff_eq.2 he2
        rw [hb]
        simp [eff, hc, set_]
      rw [hE]
      have hb2' := hb2.drew
      repeat (first | refine fa ?_ | refine ldb hb2' rfl ?_)
      refine ix A.toNat e1 e2 ?_
      refine stS hs2.drew rfl e2 rfl fun w3 hs3 hu3 hz3 => ?_
      have hb3 := hb2'.upd hu3 (by simpa using hgb)
      repeat (first | refine fa ?_ | refine ldb hb3 rfl ?_)
      exact done (W' := W.set A.toNat N) hs3.put (hu02.drew.step hu3 (by simpa using hfr))
    · have hE : eff ⟨5, A, B, O, N, P, Q⟩ W = (W, 0, W.getD B.toNat 0 == P) := by
        have hc : ¬ (at_ W A = O ∧ at_ W B = P) := fun h => he2 h.2
        have hb : (W.getD B.toNat 0 == P) = false := beq_eq_false_iff_ne.2 he2
        rw [hb]
        simp [eff, hc]
      rw [hE]
      exact done (W' := W) hs2.drew hu02.drew
  · rintro _ rfl
    have hE : eff ⟨5, A, B, O, N, P, Q⟩ W = (W, 0, false) := by
      have hc : ¬ (at_ W A = O ∧ at_ W B = P) := fun h => he h.1
      simp [eff, hc]
    rw [hE]
    exact done (W' := W) hs2.drew hu02.drew

def o7l (o : Op7) : List Value := [.int .i64 o.K, .int .i64 o.A, .int .i64 o.B, .int .u64 o.O, .int .u64 o.N, .int .u64 o.P, .int .u64 o.Q]
def opOf (l : List Int) : Op7 := ⟨l.getD 0 0, l.getD 1 0, l.getD 2 0, l.getD 3 0, l.getD 4 0, l.getD 5 0, l.getD 6 0⟩
abbrev opKs : List IntKind := [.i64, .i64, .i64, .u64, .u64, .u64, .u64]
theorem op_at {w : World} {b o : Nat} {l : List Int} (h : ∀ j, j < 7 → w.cell? ⟨b, o + j, none⟩ = some (.int (opKs.getD j .i64) (l.getD j 0))) : ∀ j v, (o7l (opOf l))[j]? = some v → w.cell? ⟨b, o + j, none⟩ = some v := by
  intro j v hv
  have hj : j < 7 := by
    rcases Nat.lt_or_ge j 7 with h | h
    · exact h
    · rw [List.getElem?_eq_none (by simpa [o7l] using h)] at hv; cases hv
  rw [h j hj]
  rcases (show j = 0 ∨ j = 1 ∨ j = 2 ∨ j = 3 ∨ j = 4 ∨ j = 5 ∨ j = 6 by omega) with rfl | rfl | rfl | rfl | rfl | rfl | rfl <;> exact hv

end Go.Proofs.Ytdomclcokkijjaa
