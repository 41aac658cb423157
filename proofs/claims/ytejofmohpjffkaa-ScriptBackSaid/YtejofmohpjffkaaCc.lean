/- Contracts of the calls' functions: strings that are cut. -/
import Derived.Test.YtejofmohpjffkaaCb
import Derived.Laws.Externs
namespace Go.Proofs.Ytejofmohpjffkaa
open Go.RowKit
attribute [local irreducible] Instr.loadAt Instr.storeAt Instr.fieldAt Instr.indexAt Instr.sliceAt Instr.buildSlice Instr.box Instr.alloc Builtin.append_ Builtin.len_ Builtin.min_ Builtin.max_ Calls Instr.build Instr.makeSlice binSem convert Instr.index Instr.range Instr.next

/-- cut at the first blank -/
def cutAt : List UInt8 → Option (List UInt8 × List UInt8)
  | [] => none
  | x :: l => if x = 32 then some ([], l) else (cutAt l).map fun p => (x :: p.1, p.2)
theorem cutAt_none : ∀ (l : List UInt8), cutAt l = none → Lib.indexByte l 32 = -1
  | [], _ => rfl
  | x :: l, h => by
    unfold cutAt at h
    split at h
    · cases h
    · rename_i hx
      have h1 := cutAt_none l (by simpa using h)
      simp [Lib.indexByte, hx, h1]
theorem cutAt_some : ∀ (l a b : List UInt8), cutAt l = some (a, b) → Lib.indexByte l 32 = (a.length : Int) ∧ l = a ++ 32 :: b
  | [], _, _, h => by cases h
  | x :: l, a, b, h => by
    unfold cutAt at h
    split at h
    · rename_i hx
      cases h
      simp [Lib.indexByte, hx]
    · rename_i hx
      cases hc : cutAt l with
      | none => rw [hc] at h; cases h
      | some p =>
        obtain ⟨a', b'⟩ := p
        rw [hc] at h
        cases h
        obtain ⟨h1, h2⟩ := cutAt_some l a' b' hc
        have h3 : ¬ Lib.indexByte l 32 = -1 := by rw [h1]; omega
        refine ⟨?_, by rw [h2]; rfl⟩
        simp [Lib.indexByte, hx, h3, h1]
def by8 (l : List UInt8) : ByteArray := ⟨l.toArray⟩
theorem by8_data (s : ByteArray) : by8 s.data.toList = s := by simp [by8]
theorem by8_size (l : List UInt8) : (by8 l).size = l.length := by simp [by8, ByteArray.size]
theorem by8_list (l : List UInt8) : (by8 l).toList = l := by rw [ByteArray.toList_eq]; rfl
theorem indexbyte_c (l : List UInt8) (c : Int) (w : World) : Fn Try.prog 71 #[.string (by8 l), .int .u8 c] w fun r w' => r = .int .i64 (Lib.indexByte l c.toNat.toUInt8) ∧ w' = w := by
  refine fn_enter Try.func71 rfl rfl ?_
  refine ex (.int .i64 (Lib.indexByte l c.toNat.toUInt8)) w (by show (callFunc 75 #[.string (by8 l), .int .u8 c]).run Try.prog w = _; rw [run_callFunc_extern Try.func75 (by kernel_rfl) (by kernel_rfl) (by kernel_rfl) (e := Extern.BytealgIndexByte.indexByte) (by kernel_rfl), Lib.run_indexByteString]; rfl) ?_
  exact ⟨rfl, rfl⟩
theorem index_c (l : List UInt8) (w : World) : Fn Try.prog 70 #[.string (by8 l), .string ⟨#[32]⟩] w fun r w' => r = .int .i64 (Lib.indexByte l 32) ∧ w' = w := by
  refine fn_enter Try.func70 rfl rfl ?_
  refine len_str ?_
  refine cd (fun h => ?_) (fun h => ?_)
  · refine ⟨?_, rfl⟩
    rw [by8_list, ByteArray.toList_eq] at h
    have h : [32] = l := h
    rw [← h]
    rfl
  · refine ixs 0 rfl (by decide) ?_
    refine cl (indexbyte_c l 32 w) ?_
    rintro _ _ ⟨rfl, rfl⟩
    exact ⟨rfl, rfl⟩
def cutV (l : List UInt8) : Array Value :=
  match cutAt l with
  | none => #[.string (by8 l), .string (by8 []), .bool false]
  | some (a, b) => #[.string (by8 a), .string (by8 b), .bool true]
theorem ext_l (a b : List UInt8) : (by8 (a ++ 32 :: b)).extract 0 a.length = by8 a := by
  apply ByteArray.ext; simp [by8]
theorem ext_r (a b : List UInt8) : (by8 (a ++ 32 :: b)).extract (a.length + 1) (by8 (a ++ 32 :: b)).size = by8 b := by
  rw [by8_size]; apply ByteArray.ext; apply Array.ext'; simp [by8]; exact List.take_of_length_le (by omega)
theorem cut0_c (l : List UInt8) (hl : l.length ≤ 9223372036854775806) (w : World) : Fn Try.prog 69 #[.string (by8 l), .string ⟨#[32]⟩] w fun r w' => r = .tuple (cutV l) ∧ Upd [] w w' := by
  refine fn_enter Try.func69 rfl rfl ?_
  refine cl (index_c l w) ?_
  rintro _ w ⟨rfl, rfl⟩
  cases hc : cutAt l with
  | none =>
    rw [cutAt_none l hc]
    refine ⟨?_, Upd.refl _ _⟩
    unfold cutV; rw [hc]; rfl
  | some p =>
    obtain ⟨a, b⟩ := p
    obtain ⟨h1, h2⟩ := cutAt_some l a b hc
    rw [h1]
    refine draw_all (fun w' => Upd [] w w') (by decide +kernel) (Upd.refl _ _).drew ?_
    refine rq (.string (by8 a)) (fun _ _ => s_hi a.length rfl (by rw [by8_size, h2]; simp) ⟨by rw [h2, ext_l], rfl⟩) ?_
    refine q_lens ?_
    have hal : a.length + 1 ≤ l.length := by rw [h2]; simp
    refine q_ar64 (by show -9223372036854775808 ≤ (a.length : Int) + (1 : Int) ∧ (a.length : Int) + (1 : Int) ≤ 9223372036854775807; omega) ?_
    refine rq (.string (by8 b)) (fun _ _ => s_lo (a.length + 1) rfl (by rw [by8_size]; exact hal) ⟨by rw [h2, ext_r], rfl⟩) ?_
    intro w' hw'
    refine ⟨?_, hw'⟩
    unfold cutV; rw [hc]; rfl
theorem cut_c (l : List UInt8) (hl : l.length ≤ 9223372036854775806) (w : World) : Fn Try.prog 66 #[.string (by8 l), .string ⟨#[32]⟩] w fun r w' => r = .tuple (cutV l) ∧ Upd [] w w' := by
  refine fn_enter Try.func66 rfl rfl ?_
  refine cl (cut0_c l hl w) ?_
  rintro _ w1 ⟨rfl, hu⟩
  unfold cutV
  cases hc : cutAt l with
  | none => exact ⟨rfl, hu⟩
  | some p => exact ⟨rfl, hu⟩
end Go.Proofs.Ytejofmohpjffkaa
