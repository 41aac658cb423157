/- The laws of the calls: CallRight. -/
import Derived.Test.YtejofmohpjffkaaCg
namespace Go.Proofs.Ytejofmohpjffkaa
open Go.RowKit
attribute [local irreducible] Instr.loadAt Instr.storeAt Instr.fieldAt Instr.indexAt Instr.sliceAt Instr.buildSlice Instr.box Instr.alloc Builtin.append_ Builtin.len_ Builtin.min_ Builtin.max_ Calls Instr.build Instr.makeSlice binSem convert Instr.index Instr.range Instr.next

theorem read_lives : readR [48, 51, 32, 49] = none := by decide +kernel
theorem show_lives : (strOfNums (showL 0 5 7)).toList = [105, 110, 115, 101, 114, 116, 32, 53, 32, 55] := by
  have e : showL 0 5 7 = [105, 110, 115, 101, 114, 116, 32, 53, 32, 55] := by
    unfold showL
    rw [if_neg (by decide), if_neg (by decide), if_neg (by decide), decB_small (by decide), decB_small (by decide)]
    rfl
  rw [e, ByteArray.toList_eq]
  rfl
theorem lives_c (w : World) : Fn Try.prog 28 #[] w fun r w' => r = .bool true ∧ Upd [] w w' := by
  refine fn_enter Try.func28 rfl rfl ?_
  refine cl (read_c [48, 51, 32, 49] (by decide) w) ?_
  rintro _ w1 ⟨rfl, hu1⟩
  rw [read_lives]
  refine al z3 (fun _ => by kernel_rfl) fun w2 hb2 hu2 hs2 => ?_
  have z1 := hu1.size
  refine stw hb2 rfl rfl rfl fun w3 hb3 hu3 hs3 => ?_
  have hU3 := (hu1.trans hu2).step hu3 (by simp; omega)
  refine bd (c3 0 5 7) (fun _ => by kernel_rfl) ?_
  refine cl (show_c 0 5 7 (by decide) (by decide) w3) ?_
  rintro _ w4 ⟨rfl, hu4⟩
  refine cY (by rw [show_lives, ByteArray.toList_eq]) ?_
  exact ⟨rfl, hU3.trans hu4⟩
theorem eqb {w : World} {a b : Bool} {x y : Operand} (h : a = b) : RunP Try.prog (binSem .eql 4 x y (.bool a) (.bool b)) (fun v' w' => v' = .bool true ∧ w' = w) w := bq ⟨by simp [h], rfl⟩
def lawFits (o k v p q r : Int) : Bool := (decide (rightCall o k v) && decide (rightAns p q r)) && ((o == 0) == decide (p < 2))
set_option maxRecDepth 10000 in
theorem right_law (o k v p q r : Int) (w : World) : Fn Try.prog 6 #[.agg (c3 o k v), .agg (c3 p q r)] w fun x w' => x = .bool true ∧ Upd [] w w' := by
  refine fn_enter Try.func6 rfl rfl ?_
  refine bx fun w1 hb1 hu1 hs1 => ?_
  refine bx fun w2 hb2 hu2 hs2 => ?_
  have hb1 : Blk w2 w.heap.size 43 (c3 o k v) := hb1.upd hu2 (by simp)
  have hb2 : Blk w2 w1.heap.size 45 (c3 p q r) := hb2
  have hU := hu1.trans hu2
  refine ldw hb1 rfl ?_
  refine cl (right_c24 o k v _) ?_
  rintro _ w3 ⟨rfl, hu3⟩
  have hc : ∀ w', Upd [] w w' → True := fun _ _ => trivial
  clear hc
  have g1 := hb1.lt
  have hc : ∀ w', Upd [] w2 w' → Blk w' w.heap.size 43 (c3 o k v) := fun w' h => hb1.upd h (by simp)
  have ha : ∀ w', Upd [] w2 w' → Blk w' w1.heap.size 45 (c3 p q r) := fun w' h => hb2.upd h (by simp)
  refine cd (fun h1 => ?_) (fun h1 => ?_)
  · have h1 : rightCall o k v := by simpa using h1
    refine ldw (ha _ hu3) rfl ?_
    refine cl (may_c25 p q r _) ?_
    rintro _ w4 ⟨rfl, hu4⟩
    have hu24 := hu3.trans hu4
    refine cd (fun h2 => ?_) (fun h2 => ?_)
    · have h2 : rightAns p q r := by simpa using h2
      refine fa ?_
      refine ldb (hc _ hu24) rfl ?_
      refine fa ?_
      refine ldb (ha _ hu24) rfl ?_
      refine bq ?_
      have hfit : ((o == 0) == decide (p < 2)) = decide (fitsP o k v p q r) := by
        have hp : p = 0 ∨ p = 1 ∨ p = 2 ∨ p = 3 := by unfold rightAns at h2; omega
        have e : decide (fitsP o k v p q r) = decide (o = 0 ↔ (p = 0 ∨ p = 1)) := decide_eq_decide.2 ⟨fun h => h.2.2, fun h => ⟨h1, h2, h⟩⟩
        rw [e]
        clear e hc ha h2
        rcases hp with rfl | rfl | rfl | rfl <;> by_cases a : o = 0 <;> simp [a]
      refine draw_all (fun w' => Upd [] w2 w') (by decide +kernel) hu24.drew ?_
      refine rq (.agg (c3 o k v)) (fun w' hw' => ldw (hc w' hw') rfl ⟨rfl, rfl⟩) ?_
      refine q_cl (.bool (decide (rightCall o k v))) (fun w' hw' => (right_c26 o k v w').mono fun _ _ ⟨u, he, h1, h2⟩ => ⟨u, he, h1, hw'.trans h2⟩) ?_
      refine rq (.agg (c3 o k v)) (fun w' hw' => ldw (hc w' hw') rfl ⟨rfl, rfl⟩) ?_
      refine q_cl (.bool (decide (rightCall o k v))) (fun w' hw' => (right_c24 o k v w').mono fun _ _ ⟨u, he, h1, h2⟩ => ⟨u, he, h1, hw'.trans h2⟩) ?_
      refine rq (.bool true) (fun _ _ => eqb rfl) ?_
      refine rq (.agg (c3 o k v)) (fun w' hw' => ldw (hc w' hw') rfl ⟨rfl, rfl⟩) ?_
      refine rq (.agg (c3 p q r)) (fun w' hw' => ldw (ha w' hw') rfl ⟨rfl, rfl⟩) ?_
      refine q_cl (.bool (decide (fitsP o k v p q r))) (fun w' hw' => (fits_c27 o k v p q r w').mono fun _ _ ⟨u, he, h1, h2⟩ => ⟨u, he, h1, hw'.trans h2⟩) ?_
      refine rq (.bool true) (fun _ _ => eqb hfit.symm) ?_
      refine q_cl (.bool true) (fun w' hw' => (lives_c w').mono fun _ _ ⟨u, he, h1, h2⟩ => ⟨u, he, h1, hw'.trans h2⟩) ?_
      intro w9 hw9
      exact ⟨rfl, hU.trans hw9⟩
    · have hfit : false = decide (fitsP o k v p q r) := by
        rw [decide_eq_false (fun h : fitsP o k v p q r => h2 h.2.1)]
      refine draw_all (fun w' => Upd [] w2 w') (by decide +kernel) hu24.drew ?_
      refine rq (.agg (c3 o k v)) (fun w' hw' => ldw (hc w' hw') rfl ⟨rfl, rfl⟩) ?_
      refine q_cl (.bool (decide (rightCall o k v))) (fun w' hw' => (right_c26 o k v w').mono fun _ _ ⟨u, he, h1, h2⟩ => ⟨u, he, h1, hw'.trans h2⟩) ?_
      refine rq (.agg (c3 o k v)) (fun w' hw' => ldw (hc w' hw') rfl ⟨rfl, rfl⟩) ?_
      refine q_cl (.bool (decide (rightCall o k v))) (fun w' hw' => (right_c24 o k v w').mono fun _ _ ⟨u, he, h1, h2⟩ => ⟨u, he, h1, hw'.trans h2⟩) ?_
      refine rq (.bool true) (fun _ _ => eqb rfl) ?_
      refine rq (.agg (c3 o k v)) (fun w' hw' => ldw (hc w' hw') rfl ⟨rfl, rfl⟩) ?_
      refine rq (.agg (c3 p q r)) (fun w' hw' => ldw (ha w' hw') rfl ⟨rfl, rfl⟩) ?_
      refine q_cl (.bool (decide (fitsP o k v p q r))) (fun w' hw' => (fits_c27 o k v p q r w').mono fun _ _ ⟨u, he, h1, h2⟩ => ⟨u, he, h1, hw'.trans h2⟩) ?_
      refine rq (.bool true) (fun _ _ => eqb hfit.symm) ?_
      refine q_cl (.bool true) (fun w' hw' => (lives_c w').mono fun _ _ ⟨u, he, h1, h2⟩ => ⟨u, he, h1, hw'.trans h2⟩) ?_
      intro w9 hw9
      exact ⟨rfl, hU.trans hw9⟩
  · have hfit : false = decide (fitsP o k v p q r) := by
      rw [decide_eq_false (fun h : fitsP o k v p q r => h1 h.1)]
    refine draw_all (fun w' => Upd [] w2 w') (by decide +kernel) hu3.drew ?_
    refine rq (.agg (c3 o k v)) (fun w' hw' => ldw (hc w' hw') rfl ⟨rfl, rfl⟩) ?_
    refine q_cl (.bool (decide (rightCall o k v))) (fun w' hw' => (right_c26 o k v w').mono fun _ _ ⟨u, he, h1, h2⟩ => ⟨u, he, h1, hw'.trans h2⟩) ?_
    refine rq (.agg (c3 o k v)) (fun w' hw' => ldw (hc w' hw') rfl ⟨rfl, rfl⟩) ?_
    refine q_cl (.bool (decide (rightCall o k v))) (fun w' hw' => (right_c24 o k v w').mono fun _ _ ⟨u, he, h1, h2⟩ => ⟨u, he, h1, hw'.trans h2⟩) ?_
    refine rq (.bool true) (fun _ _ => eqb rfl) ?_
    refine rq (.agg (c3 o k v)) (fun w' hw' => ldw (hc w' hw') rfl ⟨rfl, rfl⟩) ?_
    refine rq (.agg (c3 p q r)) (fun w' hw' => ldw (ha w' hw') rfl ⟨rfl, rfl⟩) ?_
    refine q_cl (.bool (decide (fitsP o k v p q r))) (fun w' hw' => (fits_c27 o k v p q r w').mono fun _ _ ⟨u, he, h1, h2⟩ => ⟨u, he, h1, hw'.trans h2⟩) ?_
    refine rq (.bool true) (fun _ _ => eqb hfit.symm) ?_
    refine q_cl (.bool true) (fun w' hw' => (lives_c w').mono fun _ _ ⟨u, he, h1, h2⟩ => ⟨u, he, h1, hw'.trans h2⟩) ?_
    intro w9 hw9
    exact ⟨rfl, hU.trans hw9⟩

theorem c3_of {l : List Int} (h : Fits [.i64, .u32, .u32] l) : ∃ o k v : Int, l = [o, k, v] := by
  have h := h.1
  match l, h with
  | [a, b, c], _ => exact ⟨a, b, c, rfl⟩
theorem CallRight_walk (w : World) (l1 : List Int) (hl1 : Fits [.i64, .u32, .u32] l1) (l2 : List Int) (hl2 : Fits [.i64, .u32, .u32] l2) :
    Calls Try.prog 6 #[.agg (mkInts [.i64, .u32, .u32] l1).toArray, .agg (mkInts [.i64, .u32, .u32] l2).toArray] w fun e w' => e = .returned (.bool true) ∧ Below w.heap.size w w' := by
  obtain ⟨o, k, v, rfl⟩ := c3_of hl1
  obtain ⟨p, q, r, rfl⟩ := c3_of hl2
  exact (right_law o k v p q r w).mono fun _ _ ⟨_, he, hv, hu⟩ => ⟨by rw [he, hv], hu.below⟩
end Go.Proofs.Ytejofmohpjffkaa
