/- Contracts: strings.Builder. -/
import Derived.Test.YtlhbgnoghjendaaDoorCt
import Derived.Lib.Builder
import Derived.Lib.AppendStr
import Derived.Lib.UnsafeStr
import Derived.Laws.Externs
namespace Go.Proofs.YtlhbgnoghjendaaDoor
open Go.RowKit
attribute [local irreducible] Instr.loadAt Instr.storeAt Instr.fieldAt Instr.indexAt Instr.sliceAt Instr.buildSlice Instr.box Instr.alloc Builtin.append_ Builtin.len_ Builtin.min_ Builtin.max_ Calls Instr.build Instr.makeSlice binSem convert Instr.index Instr.range Instr.next
attribute [local irreducible] Builtin.unsafeSliceData_ Builtin.unsafeString_
open Lib (IsBuilder BuilderAt strCells byteCells)
abbrev TB : Nat := 86
abbrev TU8 : Nat := 5
abbrev pB (b : Nat) : Value := .pointer (some ⟨b, 0, none⟩)
section
variable {w w' : World} {B b : Nat} {bs : List Value}
theorem BuilderAt.blk {p : Value} (h : BuilderAt TB TU8 B b p bs w) : ∃ v, Blk w b TB #[p, v] ∧ w.ownsRow B TU8 1 v bs.length bs ∧ v.ownBlock ≠ some b ∧ B ≤ b := by
  obtain ⟨hB, v, h1, h2, h3⟩ := h
  exact ⟨v, h1, h2, h3, hB⟩
theorem noesc_c (a : Addr) (w : World) : (callFunc 86 #[.pointer (some a)]).run Tryd.prog w = .ok (.value (.pointer (some a))) w := by
  rw [run_callFunc_extern Tryd.func86 (by kernel_rfl) (by kernel_rfl) (by kernel_rfl) (e := Extern.AbiNoEscape.same) (by kernel_rfl), Lib.run_noEscape]; rfl
theorem copyCheck_c (h : IsBuilder TB TU8 B b bs w) : Fn Tryd.prog 71 #[pB b] w fun _ w' => BuilderAt TB TU8 B b (pB b) bs w' ∧ Below B w w' ∧ w'.heap.size = w.heap.size := by
  refine fn_enter Tryd.func71 rfl rfl ?_
  refine fa ?_
  rcases h with h | h
  · refine ld (v := .pointer none) h.cell0 ?_
    refine ptr_eq0 ?_
    refine rn (pB b) w (Lib.run_to_unsafe w ⟨b, 0, none⟩ Tryd.underlying84 Tryd.underlying139 (show Tryd.prog.info? TB = some Tryd.t86 by kernel_rfl) (by decide) h.shape (show (0 : Nat) < 2 by decide)) ?_
    refine ex (pB b) w (noesc_c _ w) ?_
    refine rn (pB b) w (Lib.run_from_unsafe w ⟨b, 0, none⟩ Tryd.underlying139 Tryd.underlying84 (show Tryd.prog.info? TB = some Tryd.t86 by kernel_rfl) h.shape (by kernel_rfl)) ?_
    refine fa ?_
    refine ⟨⟨_, run_store1 h.cell0 h.frozen0 rfl, ?_⟩⟩
    exact ⟨h.used _, (Below.refl B w).setCell (p := ⟨b, 0, none⟩) h.1 _, by simp [World.setCell]⟩
  · refine ld (v := pB b) h.cell0 ?_
    refine ptr_eq ?_
    refine fa ?_
    refine ld (v := pB b) h.cell0 ?_
    refine rn (.bool false) w (bin_of rfl (Lib.run_neq_ptr_same w ⟨b, 0, none⟩ Tryd.underlying84 (show Tryd.prog.info? TB = some Tryd.t86 by kernel_rfl))) ?_
    exact ⟨h, Below.refl _ _, rfl⟩
theorem write_c (h : IsBuilder TB TU8 B b bs w) (hB : B ≤ w.heap.size) (s : ByteArray) (hl : bs.length + s.size ≤ 140737488355328) : Fn Tryd.prog 45 #[pB b, .string s] w fun _ w' => BuilderAt TB TU8 B b (pB b) (bs ++ strCells s) w' ∧ Below B w w' ∧ w.heap.size ≤ w'.heap.size := by
  refine fn_enter Tryd.func45 rfl rfl ?_
  refine cl (copyCheck_c h) ?_
  rintro _ w1 ⟨h1, hb1, hz1⟩
  obtain ⟨v, hv, hown, hne, hBb⟩ := BuilderAt.blk h1
  refine fa ?_
  refine ldb hv (v := v) rfl ?_
  obtain ⟨v', w2, hrun, ho2, hg2, -⟩ := Lib.run_append_own_string (P := Tryd.prog) w1 B 31 9 31 TU8 Tryd.t5 Tryd.underlying31 Tryd.underlying9 (show Tryd.prog.info? TU8 = some Tryd.t5 by kernel_rfl) rfl rfl rfl v bs.length bs hown s (by simp only [maxLen]; omega) hl (by omega)
  refine rn v' w2 hrun ?_
  have hv2 : Blk w2 b TB #[pB b, v] := hv.grown hg2 hne.symm
  have hlen : (bs ++ strCells s).length = bs.length + s.size := by rw [List.length_append, Lib.strCells_length]
  rw [← hlen] at ho2
  refine fa ?_
  have hone : v'.oneCell' = true := by
    rcases ho2.2 with ⟨rfl, -⟩ | ⟨g, cap, cur, rfl, -⟩ <;> rfl
  refine ⟨⟨_, run_store1 (u := v) (by rw [hv2.cell]; rfl) (hv2.frozen 1) hone, ?_⟩⟩
  refine len_str ?_
  have hsz : w1.heap.size ≤ w2.heap.size := hg2.size
  refine ⟨BuilderAt.put hBb hv2 ho2 (by decide), ?_, by simp [World.setCell]; omega⟩
  refine Below.setCell (p := ⟨b, 1, none⟩) ?_ hBb _
  refine hb1.grown hg2 (by omega) (fun k hk => ?_)
  rcases hown.2 with ⟨rfl, -⟩ | ⟨g, cap, cur, rfl, hg, -⟩
  · simp [Value.ownBlock] at hk
  · have : g = k := by simpa [Value.ownBlock] using hk
    omega
theorem string_c {l : List UInt8} {p : Value} (h : BuilderAt TB TU8 B b p (byteCells l) w) (hl : l ≠ []) (h63 : l.length ≤ 140737488355328) : Fn Tryd.prog 50 #[pB b] w fun r w' => r = .string ⟨l.toArray⟩ ∧ Below B w w' := by
  obtain ⟨v, hv, hown, hne, hBb⟩ := BuilderAt.blk h
  have hl0 : 0 < l.length := List.length_pos_iff.2 hl
  rw [Lib.byteCells_length] at hown
  rcases hown.2 with ⟨-, h0⟩ | ⟨g, cap, cur, rfl, hg, hgb, hcap, hmax, hsz, htk⟩
  · omega
  refine fn_enter Tryd.func50 rfl rfl ?_
  refine draw_tail 10 (by decide +kernel) ?_
  refine q_fa ?_
  refine rq (.slice (some ⟨g, 0, none⟩) l.length cap) (by rintro _ rfl; exact ldb hv.drew rfl ⟨rfl, rfl⟩) ?_
  refine rq (.pointer (some ⟨g, 0, none⟩)) (fun w' _ => rn _ _ (Lib.run_unsafeSliceData_row w' _ _ _ _ _ (by omega)) ⟨rfl, rfl⟩) ?_
  refine q_fa ?_
  refine rq (.slice (some ⟨g, 0, none⟩) l.length cap) (by rintro _ rfl; exact ldb hv.drew rfl ⟨rfl, rfl⟩) ?_
  refine q_len ?_
  refine rn (.string ⟨l.toArray⟩) (w.drew.freeze ⟨g, 0, none⟩ l.length) (Lib.run_unsafeString_row w.drew _ _ _ TU8 (by kernel_rfl) (by kernel_rfl) g cap ?_ l hl hcap (by omega) ?_) ?_
  · have hd : w.drew.heap[g]? = some (.cells cur TU8 (0, 0)) := hgb
    simp [World.shape?, hd, hsz]
  · intro j x hx
    have hj : j < l.length := (List.getElem?_eq_some_iff.1 hx).1
    have h1 : (cur.toList.take (l.length * 1))[j]? = some (.int .u8 x.toNat) := by
      rw [htk]; simp [byteCells, hx]
    rw [List.getElem?_take, if_pos (by omega)] at h1
    rw [Addr.add_lit]
    have hd : w.drew.heap[g]? = some (.cells cur TU8 (0, 0)) := hgb
    rw [Lib.cell_of_heap hd]
    simpa using h1
  · exact ⟨rfl, Lib.below_freeze (Below.refl B w).drew hg _⟩
theorem string_0 {v : Value} (hv : Blk w b TB #[v, .slice none 0 0]) : Fn Tryd.prog 50 #[pB b] w fun r w' => r = .string .empty ∧ w' = w.drew := by
  refine fn_enter Tryd.func50 rfl rfl ?_
  refine draw_tail 10 (by decide +kernel) ?_
  refine q_fa ?_
  refine rq (.slice none 0 0) (by rintro _ rfl; exact ldb hv.drew rfl ⟨rfl, rfl⟩) ?_
  refine rq (.pointer none) (fun w' _ => rn _ _ (Lib.run_unsafeSliceData_nil w' _ _ _ _) ⟨rfl, rfl⟩) ?_
  refine q_fa ?_
  refine rq (.slice none 0 0) (by rintro _ rfl; exact ldb hv.drew rfl ⟨rfl, rfl⟩) ?_
  refine q_len ?_
  refine rn (.string .empty) w.drew (Lib.run_unsafeString_none w.drew _ _ _ _) ?_
  exact ⟨rfl, rfl⟩
end
end Go.Proofs.YtlhbgnoghjendaaDoor
