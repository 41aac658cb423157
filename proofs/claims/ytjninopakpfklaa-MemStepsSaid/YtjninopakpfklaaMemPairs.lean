/- The walks of the laws MemPairs and MemSizes. -/
import Derived.Test.YtjninopakpfklaaMemDo
import Derived.Test.YtjninopakpfklaaArgs
namespace Go.Proofs.Ytjninopakpfklaa
open Go.RowKit
attribute [local irreducible] Instr.loadAt Instr.storeAt Instr.fieldAt Instr.indexAt Instr.sliceAt Instr.buildSlice Instr.box Instr.alloc Builtin.append_ Builtin.len_ Calls Instr.build Instr.makeSlice binSem

theorem load_nil (a : Int) (w : World) : Fn Try.prog 68 #[.pointer none, .int .i64 a] w fun r w' => r = .tuple #[.int .u64 0, .int .i64 1] ∧ Upd [] w w' := by
  refine fn_enter Try.func68 rfl rfl ?_
  refine bs #[.int .i64 a] (fun _ => by kernel_rfl) fun w1 hb1 hu1 hs1 => ?_
  refine cl (right_nil _ _) ?_
  rintro _ _ ⟨rfl, rfl⟩
  exact ⟨rfl, hu1⟩
theorem store_nil (a x : Int) (w : World) : Fn Try.prog 42 #[.pointer none, .int .i64 a, .int .u64 x] w fun r w' => r = .int .i64 1 ∧ Upd [] w w' := by
  refine fn_enter Try.func42 rfl rfl ?_
  refine bs #[.int .i64 a] (fun _ => by kernel_rfl) fun w1 hb1 hu1 hs1 => ?_
  refine cl (right_nil _ _) ?_
  rintro _ _ ⟨rfl, rfl⟩
  exact ⟨rfl, hu1⟩
theorem cas_nil (a o n : Int) (w : World) : Fn Try.prog 69 #[.pointer none, .int .i64 a, .int .u64 o, .int .u64 n] w fun r w' => r = .tuple #[.bool false, .int .i64 1] ∧ Upd [] w w' := by
  refine fn_enter Try.func69 rfl rfl ?_
  refine bs #[.int .i64 a] (fun _ => by kernel_rfl) fun w1 hb1 hu1 hs1 => ?_
  refine cl (right_nil _ _) ?_
  rintro _ _ ⟨rfl, rfl⟩
  exact ⟨rfl, hu1⟩
theorem add_nil (a d : Int) (w : World) : Fn Try.prog 70 #[.pointer none, .int .i64 a, .int .u64 d] w fun r w' => r = .tuple #[.int .u64 0, .int .i64 1] ∧ Upd [] w w' := by
  refine fn_enter Try.func70 rfl rfl ?_
  refine bs #[.int .i64 a] (fun _ => by kernel_rfl) fun w1 hb1 hu1 hs1 => ?_
  refine cl (right_nil _ _) ?_
  rintro _ _ ⟨rfl, rfl⟩
  exact ⟨rfl, hu1⟩
theorem dcss_nil (a o n b q : Int) (w : World) : Fn Try.prog 65 #[.pointer none, .int .i64 a, .int .u64 o, .int .u64 n, .int .i64 b, .int .u64 q] w fun r w' => r = .tuple #[.bool false, .int .i64 1] ∧ Upd [] w w' := by
  refine fn_enter Try.func65 rfl rfl ?_
  refine bs #[.int .i64 a, .int .i64 b] (fun _ => by kernel_rfl) fun w1 hb1 hu1 hs1 => ?_
  refine cl (right_nil _ _) ?_
  rintro _ _ ⟨rfl, rfl⟩
  exact ⟨rfl, hu1⟩
theorem dcas_nil (a o n b q r : Int) (w : World) : Fn Try.prog 64 #[.pointer none, .int .i64 a, .int .u64 o, .int .u64 n, .int .i64 b, .int .u64 q, .int .u64 r] w fun r w' => r = .tuple #[.bool false, .int .i64 1] ∧ Upd [] w w' := by
  refine fn_enter Try.func64 rfl rfl ?_
  refine bs #[.int .i64 a, .int .i64 b] (fun _ => by kernel_rfl) fun w1 hb1 hu1 hs1 => ?_
  refine cl (right_nil _ _) ?_
  rintro _ _ ⟨rfl, rfl⟩
  exact ⟨rfl, hu1⟩
theorem do_nil (o : Op7) (w : World) : Fn Try.prog 43 #[.pointer none, .agg (o7 o)] w fun r w' => r = .tuple #[.int .u64 0, .bool false, .int .i64 1] ∧ Upd [] w w' := by
  obtain ⟨K, A, B, O, N, P, Q⟩ := o
  refine fn_enter Try.func43 rfl rfl ?_
  refine bx fun w1 hb1 hu1 hs1 => ?_
  refine fa ?_
  refine ldb hb1 rfl ?_
  refine cd (fun c0 => ?_) (fun c0 => ?_)
  · repeat (first | refine fa ?_ | refine ldb hb1 rfl ?_)
    refine cl (load_nil A _) ?_
    rintro _ w2 ⟨rfl, hu2⟩
    exact ⟨rfl, hu1.trans hu2⟩
  refine cd (fun c1 => ?_) (fun c1 => ?_)
  · repeat (first | refine fa ?_ | refine ldb hb1 rfl ?_)
    refine cl (store_nil A N _) ?_
    rintro _ w2 ⟨rfl, hu2⟩
    exact ⟨rfl, hu1.trans hu2⟩
  refine cd (fun c2 => ?_) (fun c2 => ?_)
  · repeat (first | refine fa ?_ | refine ldb hb1 rfl ?_)
    refine cl (cas_nil A O N _) ?_
    rintro _ w2 ⟨rfl, hu2⟩
    exact ⟨rfl, hu1.trans hu2⟩
  refine cd (fun c3 => ?_) (fun c3 => ?_)
  · repeat (first | refine fa ?_ | refine ldb hb1 rfl ?_)
    refine cl (add_nil A N _) ?_
    rintro _ w2 ⟨rfl, hu2⟩
    exact ⟨rfl, hu1.trans hu2⟩
  refine cd (fun c4 => ?_) (fun c4 => ?_)
  · repeat (first | refine fa ?_ | refine ldb hb1 rfl ?_)
    refine cl (dcas_nil A O N B P Q _) ?_
    rintro _ w2 ⟨rfl, hu2⟩
    exact ⟨rfl, hu1.trans hu2⟩
  · repeat (first | refine fa ?_ | refine ldb hb1 rfl ?_)
    refine cl (dcss_nil A O N B P _) ?_
    rintro _ w2 ⟨rfl, hu2⟩
    exact ⟨rfl, hu1.trans hu2⟩
theorem watch_nil (b : Bool) (w : World) : Fn Try.prog 49 #[.pointer none, .bool b] w fun _ w' => w' = w := by
  refine fn_enter Try.func49 rfl rfl ?_
  refine ptr_ne0 ?_
  rfl
theorem mlen_nil (w : World) : Fn Try.prog 48 #[.pointer none] w fun r w' => r = .int .i64 0 ∧ w' = w := by
  refine fn_enter Try.func48 rfl rfl ?_
  refine ptr_eq0 ?_
  exact ⟨rfl, rfl⟩
theorem steps_nil (w : World) : Fn Try.prog 53 #[.pointer none] w fun r w' => r = .int .i64 0 ∧ w' = w := by
  refine fn_enter Try.func53 rfl rfl ?_
  refine ptr_eq0 ?_
  exact ⟨rfl, rfl⟩
theorem log_nil (w : World) : Fn Try.prog 51 #[.pointer none] w fun r w' => r = .slice none 0 0 ∧ w' = w := by
  refine fn_enter Try.func51 rfl rfl ?_
  refine ptr_eq0 ?_
  exact ⟨rfl, rfl⟩
theorem words_nil (w : World) : Fn Try.prog 44 #[.pointer none] w fun r w' => r = .slice none 0 0 ∧ w' = w := by
  refine fn_enter Try.func44 rfl rfl ?_
  refine ptr_eq0 ?_
  exact ⟨rfl, rfl⟩

set_option maxRecDepth 100000 in
set_option maxHeartbeats 4000000 in
theorem MemSizes_fn (n : Int) (o : Op7) (w : World) : Fn Try.prog 12 #[.int .i64 n, .agg (o7 o)] w fun r w' => r = .bool true ∧ Upd [] w w' := by
  refine fn_enter Try.func12 rfl rfl ?_
  refine bx fun w1 hb1 hu1 hs1 => ?_
  by_cases h : 1 ≤ n ∧ n ≤ 4096
  · obtain ⟨m, rfl⟩ : ∃ m : Nat, n = m := ⟨n.toNat, by omega⟩
    refine cl (new_yes m w1 (by omega) (by omega)) ?_
    rintro _ w2 ⟨p, v, rfl, h2, hu2, hf2⟩
    refine cY (by omega) ?_
    refine cl (watch_nil true _) ?_
    rintro _ _ rfl
    rw [show decide ((m : Int) ≤ 4096) = true from decide_eq_true (by omega)]
    have hb2 := hb1.upd hu2 (by simp)
    refine ldw hb2 rfl ?_
    refine cl (do_nil o _) ?_
    rintro _ w3 ⟨rfl, hu3⟩
    refine ptr_ne ?_
    refine bq ?_
    refine cl (mlen_c (h2.upd hu3 (by simp))) ?_
    rintro _ _ ⟨rfl, rfl⟩
    refine cY (by simp [newMS]) ?_
    refine cl (mlen_nil _) ?_
    rintro _ _ ⟨rfl, rfl⟩
    refine cl (steps_nil _) ?_
    rintro _ _ ⟨rfl, rfl⟩
    refine cl (log_nil _) ?_
    rintro _ _ ⟨rfl, rfl⟩
    refine len_sl ?_
    refine cl (words_nil _) ?_
    rintro _ _ ⟨rfl, rfl⟩
    refine len_sl ?_
    refine cl (lives05 _) ?_
    rintro _ w4 ⟨rfl, hu4⟩
    exact ⟨rfl, ((hu1.trans hu2).trans hu3).trans hu4⟩
  · refine cl (new_no n w1 h) ?_
    rintro _ _ ⟨rfl, rfl⟩
    have tail : ∀ {w3 w4 : World}, Upd [] w w3 → Upd [] w3 w4 → Upd [] w w4 := fun h1 h2 => h1.trans h2
    refine cd (fun c1 => ?_) (fun c1 => ?_)
    all_goals
      refine cl (watch_nil true _) ?_
      rintro _ _ rfl
      refine ldw hb1 rfl ?_
      refine cl (do_nil o _) ?_
      rintro _ w3 ⟨rfl, hu3⟩
      refine ptr_ne0 ?_
      refine bq ?_
    · refine cY (by simp; omega) ?_
      refine cN (by omega) ?_
      refine cY (by omega) ?_
      refine cl (mlen_nil _) ?_
      rintro _ _ ⟨rfl, rfl⟩
      refine cl (steps_nil _) ?_
      rintro _ _ ⟨rfl, rfl⟩
      refine cl (log_nil _) ?_
      rintro _ _ ⟨rfl, rfl⟩
      refine len_sl ?_
      refine cl (words_nil _) ?_
      rintro _ _ ⟨rfl, rfl⟩
      refine len_sl ?_
      refine cl (lives05 _) ?_
      rintro _ w4 ⟨rfl, hu4⟩
      exact ⟨rfl, (hu1.trans hu3).trans hu4⟩
    · refine cl (mlen_nil _) ?_
      rintro _ _ ⟨rfl, rfl⟩
      refine cl (steps_nil _) ?_
      rintro _ _ ⟨rfl, rfl⟩
      refine cl (log_nil _) ?_
      rintro _ _ ⟨rfl, rfl⟩
      refine len_sl ?_
      refine cl (words_nil _) ?_
      rintro _ _ ⟨rfl, rfl⟩
      refine len_sl ?_
      refine cl (lives05 _) ?_
      rintro _ w4 ⟨rfl, hu4⟩
      exact ⟨rfl, (hu1.trans hu3).trans hu4⟩
theorem op7_of {l : List Int} (h : Fits [.i64, .i64, .i64, .u64, .u64, .u64, .u64] l) : ∃ o : Op7, l = [o.K, o.A, o.B, o.O, o.N, o.P, o.Q] := by
  have h := h.1
  match l, h with
  | [a, b, c, d, e, f, g], _ => exact ⟨⟨a, b, c, d, e, f, g⟩, rfl⟩
theorem MemSizes_walk (w : World) (n : Int) (wn : (Lit.int .i64 n).wf = true) (l : List Int) (hl : Fits [.i64, .i64, .i64, .u64, .u64, .u64, .u64] l) :
    Calls Try.prog 12 #[.int .i64 n, .agg (mkInts [.i64, .i64, .i64, .u64, .u64, .u64, .u64] l).toArray] w fun e w' => e = .returned (.bool true) ∧ Below w.heap.size w w' := by
  obtain ⟨o, rfl⟩ := op7_of hl
  exact (MemSizes_fn n o w).mono fun _ _ ⟨_, he, hv, hu⟩ => ⟨by rw [he, hv], hu.below⟩
end Go.Proofs.Ytjninopakpfklaa
