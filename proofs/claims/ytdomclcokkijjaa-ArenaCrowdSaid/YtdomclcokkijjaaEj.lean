/- A machine that lives. -/
import Derived.Test.YtdomclcokkijjaaEi
namespace Go.Proofs.Ytdomclcokkijjaa
open Go.RowKit
attribute [local irreducible] Instr.loadAt Instr.storeAt Instr.fieldAt Instr.indexAt Instr.sliceAt Instr.buildSlice Instr.box Instr.alloc Builtin.append_ Builtin.len_ Builtin.min_ Builtin.max_ Calls Instr.build Instr.makeSlice binSem convert Instr.index Instr.range Instr.next
theorem mem_c {w w0 : World} {m mp fp l : Nat} {c : Cf} {v lv fv gv tv : Value} {s : MS} {draws : List Int} {gs : Option (Nat × Value × List Int × Int × Int)} {ptrs : List Nat} (h : MkI w0 w m c mp v lv s fp fv draws gv gs tv ptrs l) : Fn Try.prog 34 #[ptrV m] w fun r w' => r = ptrV mp ∧ w' = w := by
  obtain ⟨A, T, N, L, B, P, S⟩ := c
  refine fn_enter Try.func34 rfl rfl ?_
  refine ptr_eq ?_
  refine fa ?_
  refine ldb h.blk rfl ?_
  exact ⟨rfl, rfl⟩
theorem live_W : (layS 0 1 2 1 (newMS (sizeP 0 1 2 1).toNat)).W = [2, 0, 1, 0, 0, 0, 0, 0, 0, 0, 2, 0, 0, 0, 0, 0, 0, 0, 0, 0] := by decide
set_option maxRecDepth 10000 in
theorem lives16 (w : World) : Fn Try.prog 15 #[] w fun r w' => r = .bool true ∧ Upd [] w w' := by
  refine fn_enter Try.func15 rfl rfl ?_
  refine bd (cf7 ⟨0, 1, 2, 1, 1, 1, 1⟩) (fun _ => by kernel_rfl) ?_
  refine cl (core_new (draws := []) true (RdK.nil_ w .u8) (by decide)) ?_
  rintro r w1 ⟨-, hy⟩
  obtain ⟨m, mp, mv, lv, fp, fv, gv, gs, tv, ptrs, rfl, I, -⟩ := hy (by decide)
  refine cl (mem_c I) ?_
  rintro _ _ ⟨rfl, rfl⟩
  refine cl (words_c I.parts.mem (by rw [live_W]; decide)) ?_
  rintro r w2 ⟨hs, hu2, -⟩
  rw [live_W] at hs
  obtain ⟨b, o, c, rfl, -⟩ := hs.some_ (by decide)
  have hc : ∀ i, i < 20 → w2.cell? ⟨b, o + i * 1, none⟩ = (([2, 0, 1, 0, 0, 0, 0, 0, 0, 0, 2, 0, 0, 0, 0, 0, 0, 0, 0, 0] : List Int).map (Value.int .u64))[i]? := fun i hi => by
    rw [Nat.mul_one]; exact (hs.cells rfl i (by simpa using hi)).1
  refine len_sl ?_
  refine ix 0 rfl (by decide) ?_
  refine ld (hc 0 (by decide)) ?_
  refine ix 10 rfl (by decide) ?_
  refine ld (hc 10 (by decide)) ?_
  refine ix 11 rfl (by decide) ?_
  refine ld (hc 11 (by decide)) ?_
  exact ⟨rfl, I.up.trans hu2⟩
end Go.Proofs.Ytdomclcokkijjaa
