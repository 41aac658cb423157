/- Contracts of the calls' functions: what is right; digits. -/
import Derived.Test.YtejofmohpjffkaaV10
import Derived.Test.YtejofmohpjffkaaTy
import Derived.Test.YtejofmohpjffkaaArgs
namespace Go.Proofs.Ytejofmohpjffkaa
open Go.RowKit
attribute [local irreducible] Instr.loadAt Instr.storeAt Instr.fieldAt Instr.indexAt Instr.sliceAt Instr.buildSlice Instr.box Instr.alloc Builtin.append_ Builtin.len_ Builtin.min_ Builtin.max_ Calls Instr.build Instr.makeSlice binSem convert Instr.index Instr.range Instr.next

/-- a call or an answer: a kind, a key, a value -/
def c3 (o k v : Int) : Array Value := #[.int .i64 o, .int .u32 k, .int .u32 v]
def rightCall (o k v : Int) : Prop := o = 0 ∨ ((o = 1 ∨ o = 2) ∧ k = 0 ∧ v = 0)
def rightAns (o k v : Int) : Prop := o = 2 ∨ ((o = 0 ∨ o = 1 ∨ o = 3) ∧ k = 0 ∧ v = 0)
instance {o k v : Int} : Decidable (rightCall o k v) := by unfold rightCall; exact inferInstance
instance {o k v : Int} : Decidable (rightAns o k v) := by unfold rightAns; exact inferInstance
theorem bl {b : Bool} {p : Prop} [Decidable p] (h : b = true ↔ p) : retV [Value.bool b] = .bool (decide p) := by
  cases b with
  | true => rw [decide_eq_true (h.1 rfl)]; rfl
  | false => rw [decide_eq_false (fun hp => by have := h.2 hp; cases this)]; rfl

theorem right_c26 (o k v : Int) (w : World) : Fn Try.prog 26 #[.agg (c3 o k v)] w fun r w' => r = .bool (decide (rightCall o k v)) ∧ Upd [] w w' := by
  refine fn_enter Try.func26 rfl rfl ?_
  refine bx fun w1 hb1 hu1 hs1 => ?_
  repeat' (first | refine fa ?_ | refine ldb hb1 rfl ?_ | (refine cd (fun _ => ?_) (fun _ => ?_)) | exact ⟨bl (by simp [rightCall]; try omega), hu1⟩)

theorem right_c24 (o k v : Int) (w : World) : Fn Try.prog 24 #[.agg (c3 o k v)] w fun r w' => r = .bool (decide (rightCall o k v)) ∧ Upd [] w w' := by
  refine fn_enter Try.func24 rfl rfl ?_
  refine bx fun w1 hb1 hu1 hs1 => ?_
  repeat' (first | refine fa ?_ | refine ldb hb1 rfl ?_ | (refine cd (fun _ => ?_) (fun _ => ?_)) | exact ⟨bl (by simp [rightCall]; try omega), hu1⟩)

theorem right_c54 (o k v : Int) (w : World) : Fn Try.prog 54 #[.agg (c3 o k v)] w fun r w' => r = .bool (decide (rightAns o k v)) ∧ Upd [] w w' := by
  refine fn_enter Try.func54 rfl rfl ?_
  refine bx fun w1 hb1 hu1 hs1 => ?_
  repeat' (first | refine fa ?_ | refine ldb hb1 rfl ?_ | (refine cd (fun _ => ?_) (fun _ => ?_)) | exact ⟨bl (by simp [rightAns]; try omega), hu1⟩)

theorem may_c25 (o k v : Int) (w : World) : Fn Try.prog 25 #[.agg (c3 o k v)] w fun r w' => r = .bool (decide (rightAns o k v)) ∧ Upd [] w w' := by
  refine fn_enter Try.func25 rfl rfl ?_
  refine bx fun w1 hb1 hu1 hs1 => ?_
  repeat' (first | refine fa ?_ | refine ldb hb1 rfl ?_ | (refine cd (fun _ => ?_) (fun _ => ?_)) | exact ⟨bl (by simp [rightAns]; try omega), hu1⟩)

def fitsP (o k v p q r : Int) : Prop := rightCall o k v ∧ rightAns p q r ∧ (o = 0 ↔ (p = 0 ∨ p = 1))
instance {o k v p q r : Int} : Decidable (fitsP o k v p q r) := by unfold fitsP; exact inferInstance
theorem fits_c27 (o k v p q r : Int) (w : World) : Fn Try.prog 27 #[.agg (c3 o k v), .agg (c3 p q r)] w fun x w' => x = .bool (decide (fitsP o k v p q r)) ∧ Upd [] w w' := by
  refine fn_enter Try.func27 rfl rfl ?_
  refine bx fun w1 hb1 hu1 hs1 => ?_
  refine bx fun w2 hb2 hu2 hs2 => ?_
  have hb1 : Blk w2 w.heap.size 43 (c3 o k v) := hb1.upd hu2 (by simp)
  have hb2 : Blk w2 w1.heap.size 45 (c3 p q r) := hb2
  have hU := hu1.trans hu2
  refine ldw hb1 rfl ?_
  refine cl (right_c26 o k v _) ?_
  rintro _ w3 ⟨rfl, hu3⟩
  have hU3 := hU.trans hu3
  refine cd (fun h => ?_) (fun h => ?_)
  · exact ⟨bl (by simp [fitsP]; intro h1; exact absurd h1 h), hU3⟩
  · have h : rightCall o k v := by simpa using h
    refine ldw (hb2.upd hu3 (by simp)) rfl ?_
    refine cl (right_c54 p q r _) ?_
    rintro _ w4 ⟨rfl, hu4⟩
    have hU4 := hU3.trans hu4
    refine cd (fun h2 => ?_) (fun h2 => ?_)
    · exact ⟨bl (by simp [fitsP]; intro _ h1; exact absurd h1 h2), hU4⟩
    · have h2 : rightAns p q r := by simpa using h2
      have hb1 := (hb1.upd hu3 (by simp)).upd hu4 (by simp)
      have hb2 := (hb2.upd hu3 (by simp)).upd hu4 (by simp)
      refine fa ?_
      refine ldb hb1 rfl ?_
      refine fa ?_
      refine ldb hb2 rfl ?_
      refine cd (fun h3 => ?_) (fun h3 => ?_)
      · refine bq ?_
        exact ⟨bl (by simp [fitsP, h, h2]; omega), hU4⟩
      · refine fa ?_
        refine ldb hb2 rfl ?_
        refine bq ?_
        refine ⟨bl ?_, hU4⟩
        simp only [fitsP, h, h2, true_and]
        by_cases a : o = 0 <;> by_cases b : p = 1 <;> simp [a, b, h3]
        rw [beq_eq_false_iff_ne.2 a, beq_eq_false_iff_ne.2 b]

/-- a number's digits -/
def decB (n : Nat) : List Int := if h : n < 10 then [48 + (n : Int)] else decB (n / 10) ++ [48 + ((n % 10 : Nat) : Int)]
termination_by n
decreasing_by omega
theorem decB_small {n : Nat} (h : n < 10) : decB n = [48 + (n : Int)] := by rw [decB, dif_pos h]
theorem decB_big {n : Nat} (h : ¬ n < 10) : decB n = decB (n / 10) ++ [48 + ((n % 10 : Nat) : Int)] := by rw [decB, dif_neg h]
theorem decB_len : ∀ (k n : Nat), n < 10 ^ (k + 1) → (decB n).length ≤ k + 1
  | 0, n, h => by rw [decB_small (by simpa using h)]; simp
  | k + 1, n, h => by
    by_cases h10 : n < 10
    · rw [decB_small h10]; simp
    · rw [decB_big h10]
      have := decB_len k (n / 10) (by rw [Nat.pow_succ] at h; omega)
      simp; omega
theorem str_add (a b : List Int) : strOfNums a ++ strOfNums b = strOfNums (a ++ b) := by
  unfold strOfNums
  apply ByteArray.ext
  simp
end Go.Proofs.Ytejofmohpjffkaa
