/- Histories: what may be, of both; sameness. -/
import Derived.Test.YtblngbagjieeiaaOg
namespace Go.Proofs.Ytblngbagjieeiaa
open Go.RowKit
attribute [local irreducible] Instr.loadAt Instr.storeAt Instr.fieldAt Instr.indexAt Instr.sliceAt Instr.buildSlice Instr.box Instr.alloc Builtin.append_ Builtin.len_ Builtin.min_ Builtin.max_ Calls Instr.build Instr.makeSlice binSem convert Instr.index Instr.range Instr.next
attribute [local irreducible] Builtin.unsafeSliceData_ Builtin.unsafeString_ Instr.lookup Instr.mapUpdate Instr.makeMap Builtin.delete_
theorem eq3_dec (a b : C3) : eqCells (c3V a).toList (c3V b).toList = decide (a = b) := by
  obtain ⟨a1, a2, a3⟩ := a
  obtain ⟨b1, b2, b3⟩ := b
  show (a1 == b1 && (a2 == b2 && a3 == b3)) = _
  by_cases h1 : a1 = b1 <;> by_cases h2 : a2 = b2 <;> by_cases h3 : a3 = b3 <;> simp [h1, h2, h3]
section
variable {K : Value → World → Prop} {w : World} {a b : C3} {T : Nat} {x y : Operand}
theorem aq3 [EqT Try.prog T [.i .i64, .i .u32, .i .u32]] (k : K (.bool (decide (a = b))) w) : RunP Try.prog (binSem .eql T x y (.agg (c3V a)) (.agg (c3V b))) K w := aq (ks := [.i .i64, .i .u32, .i .u32]) rfl rfl (by rw [eq3_dec]; exact k)
theorem anq3 [EqT Try.prog T [.i .i64, .i .u32, .i .u32]] (k : K (.bool (!decide (a = b))) w) : RunP Try.prog (binSem .neq T x y (.agg (c3V a)) (.agg (c3V b))) K w := anq (ks := [.i .i64, .i .u32, .i .u32]) rfl rfl (by rw [eq3_dec]; exact k)
end
set_option maxRecDepth 10000 in
theorem rmayH_c {w : World} {v : Value} {l : List EvD} (h : RdE w v l) (n : Nat) (hn : n < l.length) : Fn Try.prog 8 #[v, .int .i64 (n : Int)] w fun r w' => r = .int .i64 (mayE l n) ∧ Upd [] w w' := by
  obtain ⟨va, vc, rfl, hl1, hl2⟩ := h.form
  refine fn_enter Try.func8 rfl rfl ?_
  obtain ⟨b, o, c, hv, -⟩ := h.some_ (by omega)
  cases hv
  refine ix n rfl hn ?_
  refine lda (evL (l.getD n evZ)) rfl (h.ldE rfl n hn) ?_
  refine al (evV evZ) (fun _ => by kernel_rfl) fun w1 hb1 hu1 hs1 => ?_
  refine stw hb1 rfl rfl rfl fun w2 hb2 hu2 hs2 => ?_
  have hb2 : Blk w2 w.heap.size TEv (evV (l.getD n evZ)) := hb2
  have hU : Upd [] w w2 := hu1.step hu2 (by simp)
  have h2 := h.upd0 hU
  refine fa ?_
  refine ldb hb2 (v := .int .i64 (l.getD n evZ).th) rfl ?_
  refine cl (opn_c h2 n (by omega) _) ?_
  rintro _ _ ⟨rfl, rfl⟩
  have hsp := opn_spec l (l.getD n evZ).th n (by omega)
  unfold mayE evE
  generalize he : l.getD n evZ = e at *
  refine fa ?_
  refine ldb hb2 (v := .int .i64 e.th) rfl ?_
  by_cases q1 : thereP e.th
  rotate_left
  · have hr : ∀ a, resE (fOf (l.take n)) e.th a = 2 := fun a => by unfold resE; rw [if_pos q1]
    have hi : ∀ a, invE (fOf (l.take n)) e.th a = 2 := fun a => by unfold invE; rw [if_pos q1]
    have h22 : (if e.bk then resE (fOf (l.take n)) e.th e.a else invE (fOf (l.take n)) e.th e.c) = 2 := by rw [hr, hi]; split <;> rfl
    rw [h22]
    refine cd (fun q2 => ?_) (fun q2 => ?_)
    · exact ⟨rfl, hU⟩
    · refine fa ?_
      refine ldb hb2 (v := .int .i64 e.th) rfl ?_
      refine cY (by unfold thereP at q1; omega) ?_
      exact ⟨rfl, hU⟩
  have q1' := q1
  unfold thereP at q1'
  refine cN (by omega) ?_
  refine fa ?_
  refine ldb hb2 (v := .int .i64 e.th) rfl ?_
  refine cN (by omega) ?_
  refine fa ?_
  refine ldb hb2 (v := .bool e.bk) rfl ?_
  cases hbk : e.bk with
  | true =>
    rw [if_pos rfl]
    rcases hsp with ⟨hf, ho⟩ | ⟨k, hk, ho, hf, -, -⟩
    · have hr : resE (fOf (l.take n)) e.th e.a = 4 := by unfold resE; rw [if_neg (fun h => h q1), hf]
      rw [hr, ho]
      exact ⟨rfl, hU⟩
    · rw [ho]
      refine draw_all (fun w' => Upd [] _ w') (by decide +kernel) (Upd.refl _ _).drew ?_
      refine q_ix k rfl (by omega) ?_
      refine q_fa ?_
      refine rq (.agg (c3V (l.getD k evZ).c)) (fun w' hw' => lda _ rfl ((h2.upd0 hw').lc rfl k (by omega)) ⟨rfl, rfl⟩) ?_
      refine q_fa ?_
      refine rq (.agg (c3V e.a)) (fun w' hw' => lda _ rfl (ev_a (hb2.upd hw' (by simp))) ⟨rfl, rfl⟩) ?_
      refine q_cl (.bool (decide (fits3 (l.getD k evZ).c e.a))) (fun w' hw' => (rfits_c _ _ w').mono fun _ _ ⟨u, he, h1, h2⟩ => ⟨u, he, h1, hw'.trans h2⟩) ?_
      intro w' hw'
      by_cases q3 : fits3 (l.getD k evZ).c e.a
      · have hr : resE (fOf (l.take n)) e.th e.a = 0 := by unfold resE; rw [if_neg (fun h => h q1), hf]; exact if_pos q3
        rw [hr]
        refine cN (fun h => h q3) ?_
        exact ⟨rfl, hU.trans hw'⟩
      · have hr : resE (fOf (l.take n)) e.th e.a = 1 := by unfold resE; rw [if_neg (fun h => h q1), hf]; exact if_neg q3
        rw [hr]
        refine cY q3 ?_
        exact ⟨rfl, hU.trans hw'⟩
  | false =>
    rw [if_neg (by decide)]
    refine fa ?_
    refine lda (c3V e.c).toList rfl (ev_c hb2) ?_
    refine cl (rright_c e.c _) ?_
    rintro _ w3 ⟨rfl, hu3⟩
    have hU3 := hU.trans hu3
    by_cases q3 : rightC3 e.c
    rotate_left
    · have hr : invE (fOf (l.take n)) e.th e.c = 1 := by unfold invE; rw [if_neg (fun h => h q1), if_pos q3]
      rw [hr]
      refine cY q3 ?_
      exact ⟨rfl, hU3⟩
    refine cN (fun h => h q3) ?_
    rcases hsp with ⟨hf, ho⟩ | ⟨k, hk, ho, hf, -, -⟩
    · have hr : invE (fOf (l.take n)) e.th e.c = 0 := by unfold invE; rw [if_neg (fun h => h q1), if_neg (fun h => h q3), hf]; rfl
      rw [hr, ho]
      exact ⟨rfl, hU3⟩
    · have hr : invE (fOf (l.take n)) e.th e.c = 5 := by unfold invE; rw [if_neg (fun h => h q1), if_neg (fun h => h q3), hf]; rfl
      rw [hr, ho]
      exact ⟨rfl, hU3⟩
end Go.Proofs.Ytblngbagjieeiaa
