/- The walk of the law SchedAll. -/
import Derived.Test.YtjninopakpfklaaSe
namespace Go.Proofs.Ytjninopakpfklaa
open Go.RowKit
attribute [local irreducible] Instr.loadAt Instr.storeAt Instr.fieldAt Instr.indexAt Instr.sliceAt Instr.buildSlice Instr.box Instr.alloc Builtin.append_ Builtin.len_ Builtin.min_ Builtin.max_ Calls Instr.build Instr.makeSlice binSem convert Instr.index Instr.range Instr.next
set_option maxRecDepth 100000 in
theorem all_law {w : World} {v : Value} {l : List Int} (hv : RdK w .i64 v l) (k : Int) : Fn Try.prog 7 #[v, .int .i64 k] w fun r w' => r = .bool true ∧ Upd [] w w' := by
  refine fn_enter Try.func7 rfl rfl ?_
  by_cases hr : rightP l
  · obtain ⟨c, rfl, h6, h20⟩ := right_nat hr
    refine cl (Many_ok hv h6 h20) ?_
    rintro _ w ⟨rfl, rfl⟩
    refine cl (nth_c hv h6 h20 k) ?_
    rintro r w2 ⟨hn, hu2⟩
    by_cases hk : 0 ≤ k ∧ k < mn 0 c
    · rw [if_pos hk] at hn
      obtain ⟨x, rv, rfl, hrv, -, hx⟩ := hn
      refine cl (lawright_c (hv.upd0 hu2)) ?_
      rintro _ w2 ⟨rfl, rfl⟩
      refine cN (by simpa using hr) ?_
      refine cl (all_c (hv.upd0 hu2) h6 h20) ?_
      rintro ov w4 ⟨⟨vals, hO⟩, hu4⟩
      have hU4 := (hu2).trans hu4
      have hilen := inter_len c.sum c rfl
      obtain ⟨oa, oc, rfl, -⟩ := hO.sl.form
      refine len_sl ?_
      refine cd (fun hbig => ?_) (fun hbig => ?_)
      · have hbig : 400 < mn 0 c := by rw [List.length_take, hilen] at hbig; omega
        refine cY (by omega) ?_
        refine cl (lives35 w4) ?_
        rintro _ w5 ⟨rfl, hlive⟩
        exact ⟨rfl, (hU4).trans hlive⟩
      have hsmall : mn 0 c ≤ 400 := by rw [List.length_take, hilen] at hbig; omega
      have htk : (inter c.sum c).take 401 = inter c.sum c := List.take_of_length_le (by omega)
      rw [htk] at hO ⊢
      refine len_sl ?_
      refine cN (by rw [hilen]; simp) ?_
      refine cN (by omega) ?_
      refine cN (by omega) ?_
      obtain ⟨kn, rfl⟩ := Int.eq_ofNat_of_zero_le hk.1
      have hkl : kn < (inter c.sum c).length := by rw [hilen]; omega
      obtain ⟨y, hy, hys⟩ := hO.at_ kn hkl
      have hxe : (inter c.sum c).getD kn [] = x := by
        rw [Int.toNat_natCast] at hx
        simp [List.getD, hx]
      rw [hxe] at hys
      obtain ⟨ob, oo, oc2, he, -⟩ := hO.sl.some_ (by omega)
      cases he
      refine ix kn rfl hkl ?_
      refine ld (v := y) (by rw [Nat.mul_one, (hO.sl.cells rfl kn (by omega)).1]; exact hy) ?_
      refine cl (same_c (hrv.upd0 hu4) (RdK.of_sl hys)) ?_
      rintro _ w5 ⟨rfl, hu5⟩
      refine cY rfl ?_
      refine cl (lives35 w5) ?_
      rintro _ w6 ⟨rfl, hlive⟩
      exact ⟨rfl, (hU4.trans hu5).trans hlive⟩
    · rw [if_neg hk] at hn
      subst hn
      refine cl (lawright_c (hv.upd0 hu2)) ?_
      rintro _ w2 ⟨rfl, rfl⟩
      refine cN (by simpa using hr) ?_
      refine cl (all_c (hv.upd0 hu2) h6 h20) ?_
      rintro ov w4 ⟨⟨vals, hO⟩, hu4⟩
      have hU4 := (hu2).trans hu4
      have hilen := inter_len c.sum c rfl
      obtain ⟨oa, oc, rfl, -⟩ := hO.sl.form
      refine len_sl ?_
      refine cd (fun hbig => ?_) (fun hbig => ?_)
      · have hbig : 400 < mn 0 c := by rw [List.length_take, hilen] at hbig; omega
        refine cY (by omega) ?_
        refine cl (lives35 w4) ?_
        rintro _ w5 ⟨rfl, hlive⟩
        exact ⟨rfl, (hU4).trans hlive⟩
      have hsmall : mn 0 c ≤ 400 := by rw [List.length_take, hilen] at hbig; omega
      have htk : (inter c.sum c).take 401 = inter c.sum c := List.take_of_length_le (by omega)
      rw [htk] at hO ⊢
      refine len_sl ?_
      refine cN (by rw [hilen]; simp) ?_
      refine cd (fun h => ?_) (fun h => ?_)
      · refine len_sl ?_
        refine cl (lives35 w4) ?_
        rintro _ w5 ⟨rfl, hlive⟩
        exact ⟨rfl, (hU4).trans hlive⟩
      refine cY (by omega) ?_
      refine len_sl ?_
      refine cl (lives35 w4) ?_
      rintro _ w5 ⟨rfl, hlive⟩
      exact ⟨rfl, (hU4).trans hlive⟩
  · refine cl (Many_bad hv hr) ?_
    rintro _ w ⟨rfl, rfl⟩
    refine cl (nth_bad hv hr k) ?_
    rintro _ w ⟨rfl, rfl⟩
    refine cl (lawright_c hv) ?_
    rintro _ w ⟨rfl, rfl⟩
    refine cY hr ?_
    refine len_sl ?_
    refine cl (lives35 w) ?_
    rintro _ w1 ⟨rfl, hlive⟩
    exact ⟨rfl, (Upd.refl [] w).trans hlive⟩
theorem SchedAll_walk (w : World) (v : Value) (ls : List (List Int)) (h : SlRows w w.heap.size [.i64] v ls) (k : Int) (hk : (Lit.int .i64 k).wf = true) :
    Calls Try.prog 7 #[v, .int .i64 k] w fun e w' => e = .returned (.bool true) ∧ Below w.heap.size w w' :=
  (all_law (RdK.of_ints h.ints (Nat.le_refl _)) k).mono fun _ _ ⟨_, he, hv, hu⟩ => ⟨by rw [he, hv], hu.below⟩
end Go.Proofs.Ytjninopakpfklaa
