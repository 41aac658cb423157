/- The law CallParses: its walk, and the contracts of the reference's readers. -/
import Derived.Test.YtlhbgnoghjendaaDoorCw
namespace Go.Proofs.YtlhbgnoghjendaaDoor
open Go.RowKit
attribute [local irreducible] Instr.loadAt Instr.storeAt Instr.fieldAt Instr.indexAt Instr.sliceAt Instr.buildSlice Instr.box Instr.alloc Builtin.append_ Builtin.len_ Builtin.min_ Builtin.max_ Calls Instr.build Instr.makeSlice binSem convert Instr.index Instr.range Instr.next

def refOut (x : Option (Int × Int × Int)) : Value :=
  match x with
  | none => .tuple #[.agg (c3 0 0 0), .bool false]
  | some (o, k, v) => .tuple #[.agg (c3 o k v), .bool true]
theorem check_none {l : List UInt8} {o : Int} {shown : Nat → Nat → List Int} (h : twoR l = none) : checkR l o shown = none := by unfold checkR; rw [h]
theorem len_two {l : List Nat} (h : l.length = 2) : ∃ x y, l = [x, y] := by
  match l, h with
  | [x, y], _ => exact ⟨x, y, rfl⟩
set_option maxRecDepth 100000 in
theorem rparse_c (l : List UInt8) (hl : l.length < 4294967296) (w : World) : Fn Tryd.prog 41 #[.string (by8 l)] w fun r w' => r = refOut (rparseR l) ∧ Upd [] w w' := by
  refine fn_enter Tryd.func41 rfl rfl ?_
  refine al z3 (fun _ => by kernel_rfl) fun w1 hb1 hu1 hs1 => ?_
  refine cd (fun h => ?_) (fun h0 => ?_)
  · rw [by8_list, ByteArray.toList_eq] at h
    have h : l = s_del := h
    refine bd (c3 1 0 0) (fun _ => by kernel_rfl) ?_
    refine stw hb1 rfl rfl rfl fun w2 hb2 hu2 hs2 => ?_
    refine rlw hb2 rfl ?_
    refine ⟨?_, hu1.step hu2 (by simp)⟩
    subst h
    rfl
  have h0 : l ≠ s_del := by rw [by8_list, ByteArray.toList_eq] at h0; exact h0
  refine cd (fun h => ?_) (fun h1 => ?_)
  · rw [by8_list, ByteArray.toList_eq] at h
    have h : l = s_peek := h
    refine bd (c3 2 0 0) (fun _ => by kernel_rfl) ?_
    refine stw hb1 rfl rfl rfl fun w2 hb2 hu2 hs2 => ?_
    refine rlw hb2 rfl ?_
    refine ⟨?_, hu1.step hu2 (by simp)⟩
    subst h
    rfl
  have h1 : l ≠ s_peek := by rw [by8_list, ByteArray.toList_eq] at h1; exact h1
  unfold rparseR
  rw [if_neg h0, if_neg h1]
  refine cl (numbers_c l hl w1) ?_
  rintro v w2 ⟨hs2, hsm, hown, hu2⟩
  have hr2 := hb1.upd hu2 (by simp)
  have hU2 := hu1.trans hu2
  by_cases h2 : (numRows l).length = 2
  · obtain ⟨x, y, hxy⟩ := len_two h2
    rw [hxy] at hs2 hsm
    have hx44 := hsm x (by simp)
    have hy44 := hsm y (by simp)
    obtain ⟨g, o, cap, rfl, -⟩ := hs2.some_ (by simp)
    have hc : ∀ w', Upd [] w2 w' → w'.cell? ⟨g, o + 0 * 1, none⟩ = some (u64V x) ∧ w'.cell? ⟨g, o + 1 * 1, none⟩ = some (u64V y) := fun w' hw' =>
      ⟨(hs2.upd hw' (by simp)).get rfl 0 (by simp), (hs2.upd hw' (by simp)).get rfl 1 (by simp)⟩
    have hc0 := hc w2 (Upd.refl _ _)
    refine len_sl ?_
    refine ix 0 rfl (by simp) ?_
    refine ld (v := .int .u64 (x : Int)) hc0.1 ?_
    refine cd (fun hx => ?_) (fun hx => ?_)
    · have ht : twoR l = none := by unfold twoR; rw [hxy]; exact if_neg (fun hn => by have : x ≤ 4294967295 := hn.2.1; omega)
      refine bd (c3 0 0 0) (fun _ => by kernel_rfl) ?_
      refine stw hr2 rfl rfl rfl fun w8 hb8 hu8 hs8 => ?_
      refine rlw hb8 rfl ?_
      exact ⟨by rw [check_none ht]; rfl, hU2.step hu8 (by simp)⟩
    refine ix 1 rfl (by simp) ?_
    refine ld (v := .int .u64 (y : Int)) hc0.2 ?_
    refine cd (fun hy => ?_) (fun hy => ?_)
    · have ht : twoR l = none := by unfold twoR; rw [hxy]; exact if_neg (fun hn => by have : y ≤ 4294967295 := hn.2.2; omega)
      refine bd (c3 0 0 0) (fun _ => by kernel_rfl) ?_
      refine stw hr2 rfl rfl rfl fun w8 hb8 hu8 hs8 => ?_
      refine rlw hb8 rfl ?_
      exact ⟨by rw [check_none ht]; rfl, hU2.step hu8 (by simp)⟩
    have hx : x ≤ 4294967295 := by omega
    have hy : y ≤ 4294967295 := by omega
    have ht : twoR l = some (x, y) := by unfold twoR; rw [hxy]; exact if_pos ⟨rfl, hx, hy⟩
    refine draw_mix 10 [(0, true), (1, true), (2, true), (3, true), (4, true), (5, true), (6, true), (7, true), (8, true), (9, false)] (fun w' => Upd [] w2 w') (by decide +kernel) (Upd.refl _ _).drew ?_
    refine q_ix 0 rfl (by simp) ?_
    refine q_ld (v := .int .u64 (x : Int)) (fun w' hw' => (hc w' hw').1) ?_
    refine rq (.int .u32 (x : Int)) (fun _ _ => cv (ar32 (by omega) ⟨rfl, rfl⟩)) ?_
    refine q_ix 1 rfl (by simp) ?_
    refine q_ld (v := .int .u64 (y : Int)) (fun w' hw' => (hc w' hw').2) ?_
    refine rq (.int .u32 (y : Int)) (fun _ _ => cv (ar32 (by omega) ⟨rfl, rfl⟩)) ?_
    refine rq (.agg (c3 0 (x : Int) (y : Int))) (fun _ _ => bd _ (fun _ => by kernel_rfl) ⟨rfl, rfl⟩) ?_
    refine al z3 (fun _ => by kernel_rfl) fun w3 hb3 hu3 hs3 => ?_
    have hu3 : Upd [] w2 w3 := (Upd.refl [] w2).drew.trans hu3
    have hb3 : Blk w3 w2.heap.size _ z3 := hb3
    refine ⟨hu3, ?_⟩
    refine stw hb3 rfl rfl rfl fun w4 hb4 hu4 hs4 => ?_
    have hU4 := (hU2.trans hu3).step hu4 (by simp; have := hU2.size; omega)
    have z2 := hr2.lt
    have hr4 := (hr2.upd hu3 (by simp)).upd hu4 (by simp; omega)
    refine ldw hb4 rfl ?_
    refine cl (rshow_c 0 x y (by omega) (by omega) w4) ?_
    rintro _ w5 ⟨rfl, hu5⟩
    have hU5 := hU4.trans hu5
    have hr5 := hr4.upd hu5 (by simp)
    rw [str_by8]
    refine cd (fun hne => ?_) (fun hne => ?_)
    · rw [by8_list, by8_list] at hne
      have hck : checkR l 0 (showL 0) = none := by unfold checkR; rw [ht]; exact if_neg hne
      refine bd (c3 0 0 0) (fun _ => by kernel_rfl) ?_
      refine stw hr5 rfl rfl rfl fun w8 hb8 hu8 hs8 => ?_
      refine rlw hb8 rfl ?_
      exact ⟨by rw [hck]; rfl, hU5.step hu8 (by simp)⟩
    · rw [by8_list, by8_list] at hne
      have hck : checkR l 0 (showL 0) = some (0, (x : Int), (y : Int)) := by unfold checkR; rw [ht]; exact if_pos (by simpa using hne)
      refine ldw (hb4.upd hu5 (by simp)) rfl ?_
      refine stw hr5 rfl rfl rfl fun w6 hb6 hu6 hs6 => ?_
      refine rlw hb6 rfl ?_
      exact ⟨by rw [hck]; rfl, hU5.step hu6 (by simp)⟩
  · have ht : twoR l = none := by unfold twoR; exact if_neg (fun h => h2 h.1)
    obtain ⟨a, cap, rfl, -⟩ := hs2.form
    refine len_sl ?_
    refine cY (by omega) ?_
    refine bd (c3 0 0 0) (fun _ => by kernel_rfl) ?_
    refine stw hr2 rfl rfl rfl fun w8 hb8 hu8 hs8 => ?_
    refine rlw hb8 rfl ?_
    exact ⟨by rw [check_none ht]; rfl, hU2.step hu8 (by simp)⟩
end Go.Proofs.YtlhbgnoghjendaaDoor
