/- Histories: contract: the reference's operations. -/
import Derived.Test.YtblngbagjieeiaaOo
import Derived.Test.YtblngbagjieeiaaOk
namespace Go.Proofs.Ytblngbagjieeiaa
open Go.RowKit
attribute [local irreducible] Instr.loadAt Instr.storeAt Instr.fieldAt Instr.indexAt Instr.sliceAt Instr.buildSlice Instr.box Instr.alloc Builtin.append_ Builtin.len_ Builtin.min_ Builtin.max_ Calls Instr.build Instr.makeSlice binSem convert Instr.index Instr.range Instr.next
attribute [local irreducible] Builtin.unsafeSliceData_ Builtin.unsafeString_ Instr.lookup Instr.mapUpdate Instr.makeMap Builtin.delete_
theorem refOp_none {l : List EvD} {i : Nat} (h : ndK l (l.getD i evZ).th (i + 1) = none) : refOp l i = newOp i (l.getD i evZ) := by
  unfold refOp; rw [h]; rfl
theorem refOp_some {l : List EvD} {i k : Nat} (h : ndK l (l.getD i evZ).th (i + 1) = some k) : refOp l i = { newOp i (l.getD i evZ) with a := (l.getD k evZ).a, to := (k : Int) } := by
  unfold refOp; rw [h]; rfl
/-- what the inner loop knows at place k -/
def Look (l : List EvD) (i k : Nat) (o : OpD) : Prop := (k ≤ l.length ∧ fstK l (l.getD i evZ).th (l.length - k) k = ndK l (l.getD i evZ).th (i + 1) ∧ o = newOp i (l.getD i evZ)) ∨ (∃ k0 : Nat, ndK l (l.getD i evZ).th (i + 1) = some k0 ∧ k0 + 1 = k ∧ k ≤ l.length ∧ o = refOp l i)
set_option maxRecDepth 10000 in
theorem ropers_c {w : World} {v : Value} {l : List EvD} (h : RdE w v l) (hl : l.length ≤ 1000) : Fn Try.prog 20 #[v] w fun r w' => Sl w' TOp 9 r (refOps l l.length).length (opsC (refOps l l.length)) ∧ Upd [] w w' := by
  have hh := h
  obtain ⟨va, vc, rfl, hl1, hl2⟩ := h.form
  refine fn_enter Try.func20 rfl rfl ?_
  refine loop_rule [0] [3, 4] (fun vs w' mm => ∃ (i : Nat) (ov : Value), vs = [ov, .int .i64 (i : Int)] ∧ i ≤ l.length ∧ mm = l.length - i ∧ Sl w' TOp 9 ov (refOps l i).length (opsC (refOps l i)) ∧ (refOps l i).length ≤ i ∧ Upd [] w w' ∧ ∀ q, ov.ownBlock = some q → w.heap.size ≤ q) rfl [.slice none 0 0, .int .i64 0] l.length rfl
    ⟨0, _, rfl, by omega, rfl, Sl.nil_ _ _ _, by simp [refOps], Upd.refl _ _, by simp [Value.ownBlock]⟩ ?_
  rintro _ w3 mm ⟨i, ov, rfl, hi, rfl, hS, hn, hU, hF⟩
  refine len_sl ?_
  refine cd (fun hlt => ?_) (fun hlt => ?_)
  · have hlt : i < l.length := by omega
    have h3 := hh.upd0 hU
    obtain ⟨b, o, c, hv, -⟩ := h3.some_ (by omega)
    cases hv
    have hro : refOps l (i + 1) = refOps l i ++ if (l.getD i evZ).bk then [] else [refOp l i] := rfl
    refine ix i rfl hlt ?_
    refine fa ?_
    refine ld (v := .bool (l.getD i evZ).bk) (h3.cell rfl i 1 hlt (by omega)) ?_
    cases hbk : (l.getD i evZ).bk with
    | true =>
      rw [hbk, if_pos rfl, List.append_nil] at hro
      refine ar64 (by omega) ?_
      exact round_mk [ov, .int .i64 ((i + 1 : Nat) : Int)] (l.length - (i + 1)) rfl rfl ⟨i + 1, ov, rfl, by omega, rfl, by rw [hro]; exact hS, by rw [hro]; omega, hU, hF⟩ (by omega)
    | false =>
      rw [hbk, if_neg (by decide)] at hro
      refine draw_mix 13 [(0, true), (1, true), (2, true), (3, true), (4, true), (5, true), (6, true), (7, true), (8, true), (9, true), (10, true), (11, true), (12, false)] (fun wx => Upd [] w3 wx) (by decide +kernel) (Upd.refl _ _).drew ?_
      refine q_ix i rfl hlt ?_
      refine q_fa ?_
      refine q_ld (v := .int .i64 (l.getD i evZ).th) (fun wx hwx => (h3.upd0 hwx).cell0 rfl i hlt) ?_
      refine q_ix i rfl hlt ?_
      refine q_fa ?_
      refine rq (.agg (c3V (l.getD i evZ).c)) (fun wx hwx => lda _ rfl ((h3.upd0 hwx).lc rfl i hlt) ⟨rfl, rfl⟩) ?_
      refine rq (.agg (opV (newOp i (l.getD i evZ)))) (fun wx hwx => bd _ (fun _ => by kernel_rfl) ⟨rfl, rfl⟩) ?_
      refine al (opV opZ) (fun _ => by kernel_rfl) fun w4 hb4 hu4 hs4 => ?_
      have hu4 := (Upd.refl [] w3).drew.trans hu4
      refine ⟨hu4, ?_⟩
      refine stw hb4 rfl rfl rfl fun w5 hb5 hu5 hs5 => ?_
      have hgs : w3.drew.heap.size = w3.heap.size := rfl
      rw [hgs] at hb5 hu5 ⊢
      have hb5 : Blk w5 w3.heap.size TOp (opV (newOp i (l.getD i evZ))) := hb5
      have hU5 : Upd [] w3 w5 := hu4.step hu5 (by simp)
      have hS5 := hS.upd hU5 (by simp)
      have hne : ov.ownBlock ≠ some w3.heap.size := fun h => by have := hS.lt _ h; omega
      have hgw : w.heap.size ≤ w3.heap.size := hU.size
      have hU6 := hU.trans hU5
      generalize w3.heap.size = g at *
      refine ar64 (by omega) ?_
      have L0 : Look l i (i + 1) (newOp i (l.getD i evZ)) := .inl ⟨by omega, rfl, rfl⟩
      rw [show (i : Int) + 1 = ((i + 1 : Nat) : Int) by omega]
      refine loop_rule [0, 3, 4, 5] [6] (fun vs w' mm => ∃ (k : Nat) (o : OpD), vs = [.int .i64 (k : Int)] ∧ Look l i k o ∧ mm = l.length + 1 - k ∧ Blk w' g TOp (opV o) ∧ Sl w' TOp 9 ov (refOps l i).length (opsC (refOps l i)) ∧ Upd [] w w') rfl [.int .i64 ((i + 1 : Nat) : Int)] (l.length + 1 - (i + 1)) rfl ⟨i + 1, _, rfl, L0, rfl, hb5, hS5, hU6⟩ ?_
      clear hb5 hS5 hU6 L0 hb4 hu4 hs4 hu5 hs5 hgs hU5
      rintro _ w6 mm ⟨k, op, rfl, L, rfl, hb6, hS6, hU6⟩
      have h6 := hh.upd0 hU6
      have hkl : k ≤ l.length := by
        rcases L with ⟨h, -⟩ | ⟨k0, -, -, h, -⟩ <;> exact h
      refine len_sl ?_
      refine cd (fun hk1 => ?_) (fun hk1 => ?_)
      · have hk1 : k < l.length := by omega
        refine fa ?_
        refine ldb hb6 (v := .int .i64 op.to) rfl ?_
        rcases L with ⟨-, L1, rfl⟩ | ⟨k0, L1, L2, L3, rfl⟩
        · have hfk : fstK l (l.getD i evZ).th (l.length - k) k = if (l.getD k evZ).th = (l.getD i evZ).th then some k else fstK l (l.getD i evZ).th (l.length - (k + 1)) (k + 1) := by
            rw [show l.length - k = (l.length - (k + 1)) + 1 by omega]; rfl
          refine draw_all (fun w' => w' = w6.drew) (by decide +kernel) rfl ?_
          refine q_ix k rfl hk1 ?_
          refine q_fa ?_
          refine q_ld (v := .int .i64 (l.getD k evZ).th) (by rintro _ rfl; exact h6.cell0 rfl k hk1) ?_
          refine q_fa ?_
          refine rq (.int .i64 (l.getD i evZ).th) (by rintro _ rfl; exact ldb hb6.drew rfl ⟨rfl, rfl⟩) ?_
          rintro _ rfl
          by_cases q : (l.getD k evZ).th = (l.getD i evZ).th
          · refine cY q ?_
            rw [if_pos q] at hfk
            have hnd := L1.symm.trans hfk
            refine fa ?_
            refine st hb6.drew (by show 0 + 8 < 9; omega) rfl fun w7 hb7 hu7 hs7 => ?_
            have h7 := h6.upd0 (Upd.refl [] w6).drew
            have hU7 : Upd [] w w7 := hU6.drew.step hu7 (fun k hk => by rw [List.mem_singleton.1 hk]; exact .inr hgw)
            have h7' := hh.upd0 hU7
            refine ix k rfl hk1 ?_
            refine fa ?_
            refine lda (c3V (l.getD k evZ).a).toList rfl (h7'.la rfl k hk1) ?_
            refine fa ?_
            refine sto hb7 (by show 0 + 4 + 3 ≤ 9; omega) rfl rfl fun w8 hb8 hu8 hs8 => ?_
            have hb8 : Blk w8 g TOp (opV (refOp l i)) := by rw [refOp_some hnd]; exact hb8
            have hU8 : Upd [] w w8 := hU7.step hu8 (fun k hk => by rw [List.mem_singleton.1 hk]; exact .inr hgw)
            have hS8 := (hS6.drew.upd hu7 (fun q hq => by simp; intro e; subst e; exact hne hq)).upd hu8 (fun q hq => by simp; intro e; subst e; exact hne hq)
            refine ar64 (by omega) ?_
            exact round_mk [.int .i64 ((k + 1 : Nat) : Int)] (l.length + 1 - (k + 1)) rfl rfl ⟨k + 1, refOp l i, rfl, .inr ⟨k, hnd, rfl, by omega, rfl⟩, rfl, hb8, hS8, hU8⟩ (by omega)
          · refine cN q ?_
            rw [if_neg q] at hfk
            refine ar64 (by omega) ?_
            exact round_mk [.int .i64 ((k + 1 : Nat) : Int)] (l.length + 1 - (k + 1)) rfl rfl ⟨k + 1, _, rfl, .inl ⟨by omega, hfk.symm.trans L1, rfl⟩, rfl, hb6.drew, hS6.drew, hU6.drew⟩ (by omega)
        · have hto : (refOp l i).to = (k0 : Int) := by rw [refOp_some L1]
          refine cN (by rw [hto]; omega) ?_
          refine ldw hb6 rfl ?_
          refine bs (opV (refOp l i)) (fun _ => by kernel_rfl) fun w7 hb7 hu7 hs7 => ?_
          refine apg (hS6.upd hu7 (by simp)) hb7 rfl rfl (by decide) (by simp only [maxLen]; omega) (by omega) fun ov' w8 hs8 hG8 => ?_
          obtain ⟨n1, n2⟩ := hG8.from_ (hU6.trans hu7) hF
          refine ar64 (by omega) ?_
          exact round_mk [ov', .int .i64 ((i + 1 : Nat) : Int)] (l.length - (i + 1)) rfl rfl ⟨i + 1, ov', rfl, by omega, rfl, by rw [hro, List.length_append, opsC_app]; exact hs8, by rw [hro, List.length_append]; show _ + 1 ≤ _; omega, n1, n2⟩ (by omega)
      · rcases L with ⟨-, L1, rfl⟩ | ⟨k0, L1, L2, L3, rfl⟩
        · have hke : k = l.length := by omega
          subst hke
          rw [Nat.sub_self] at L1
          have hnd : ndK l (l.getD i evZ).th (i + 1) = none := L1.symm
          rw [← refOp_none hnd] at hb6
          refine ldw hb6 rfl ?_
          refine bs (opV (refOp l i)) (fun _ => by kernel_rfl) fun w7 hb7 hu7 hs7 => ?_
          refine apg (hS6.upd hu7 (by simp)) hb7 rfl rfl (by decide) (by simp only [maxLen]; omega) (by omega) fun ov' w8 hs8 hG8 => ?_
          obtain ⟨n1, n2⟩ := hG8.from_ (hU6.trans hu7) hF
          refine ar64 (by omega) ?_
          exact round_mk [ov', .int .i64 ((i + 1 : Nat) : Int)] (l.length - (i + 1)) rfl rfl ⟨i + 1, ov', rfl, by omega, rfl, by rw [hro, List.length_append, opsC_app]; exact hs8, by rw [hro, List.length_append]; show _ + 1 ≤ _; omega, n1, n2⟩ (by omega)
        · refine ldw hb6 rfl ?_
          refine bs (opV (refOp l i)) (fun _ => by kernel_rfl) fun w7 hb7 hu7 hs7 => ?_
          refine apg (hS6.upd hu7 (by simp)) hb7 rfl rfl (by decide) (by simp only [maxLen]; omega) (by omega) fun ov' w8 hs8 hG8 => ?_
          obtain ⟨n1, n2⟩ := hG8.from_ (hU6.trans hu7) hF
          refine ar64 (by omega) ?_
          exact round_mk [ov', .int .i64 ((i + 1 : Nat) : Int)] (l.length - (i + 1)) rfl rfl ⟨i + 1, ov', rfl, by omega, rfl, by rw [hro, List.length_append, opsC_app]; exact hs8, by rw [hro, List.length_append]; show _ + 1 ≤ _; omega, n1, n2⟩ (by omega)
  · have hie : i = l.length := by omega
    subst hie
    obtain ⟨oa, oc, rfl, -⟩ := hS.form
    exact ⟨hS, hU⟩
end Go.Proofs.Ytblngbagjieeiaa
