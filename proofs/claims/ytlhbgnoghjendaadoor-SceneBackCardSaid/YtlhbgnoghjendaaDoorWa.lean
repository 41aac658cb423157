/- Strings that are cut at one byte: Index, Cut, Count, Split, Contains, HasPrefix. -/
import Derived.Test.YtlhbgnoghjendaaDoorCx
import Derived.Test.YtlhbgnoghjendaaDoorV16
namespace Go.Proofs.YtlhbgnoghjendaaDoor
open Go.RowKit
attribute [local irreducible] Instr.loadAt Instr.storeAt Instr.fieldAt Instr.indexAt Instr.sliceAt Instr.buildSlice Instr.box Instr.alloc Builtin.append_ Builtin.len_ Builtin.min_ Builtin.max_ Calls Instr.build Instr.makeSlice binSem convert Instr.index Instr.range Instr.next
/-- cut at the first c -/
def cutC (c : UInt8) : List UInt8 → Option (List UInt8 × List UInt8)
  | [] => none
  | x :: l => if x = c then some ([], l) else (cutC c l).map fun p => (x :: p.1, p.2)
theorem cutC_none (c : UInt8) : ∀ (l : List UInt8), cutC c l = none → Lib.indexByte l c = -1 ∧ c ∉ l
  | [], _ => ⟨rfl, by simp⟩
  | x :: l, h => by
    unfold cutC at h
    split at h
    · cases h
    · rename_i hx
      obtain ⟨h1, h2⟩ := cutC_none c l (by simpa using h)
      exact ⟨by simp [Lib.indexByte, hx, h1], by simp [h2, Ne.symm hx]⟩
theorem cutC_some (c : UInt8) : ∀ (l a b : List UInt8), cutC c l = some (a, b) → Lib.indexByte l c = (a.length : Int) ∧ l = a ++ c :: b ∧ c ∉ a
  | [], _, _, h => by cases h
  | x :: l, a, b, h => by
    unfold cutC at h
    split at h
    · rename_i hx
      cases h
      simp [Lib.indexByte, hx]
    · rename_i hx
      cases hc : cutC c l with
      | none => rw [hc] at h; cases h
      | some p =>
        obtain ⟨a', b'⟩ := p
        rw [hc] at h
        cases h
        obtain ⟨h1, h2, h4⟩ := cutC_some c l a' b' hc
        have h3 : ¬ Lib.indexByte l c = -1 := by rw [h1]; omega
        refine ⟨?_, by rw [h2]; rfl, by simp [h4, Ne.symm hx]⟩
        simp [Lib.indexByte, hx, h3, h1]
theorem cutC_app (c : UInt8) : ∀ (a b : List UInt8), c ∉ a → cutC c (a ++ c :: b) = some (a, b)
  | [], b, _ => by simp [cutC]
  | x :: a, b, h => by
    have h1 : x ≠ c := fun e => h (by simp [e])
    have h2 : c ∉ a := fun e => h (by simp [e])
    simp [cutC, h1, cutC_app c a b h2]
theorem cutC_no (c : UInt8) : ∀ (l : List UInt8), c ∉ l → cutC c l = none
  | [], _ => rfl
  | x :: l, h => by
    have h1 : x ≠ c := fun e => h (by simp [e])
    have h2 : c ∉ l := fun e => h (by simp [e])
    simp [cutC, h1, cutC_no c l h2]
/-- the parts between the c's -/
def partsC (c : UInt8) : List UInt8 → List (List UInt8)
  | [] => [[]]
  | x :: l => if x = c then [] :: partsC c l else (x :: (partsC c l).headD []) :: (partsC c l).tail
theorem partsC_ne (c : UInt8) (l : List UInt8) : partsC c l ≠ [] := by
  cases l with
  | nil => simp [partsC]
  | cons x l => unfold partsC; split <;> simp
theorem partsC_none (c : UInt8) : ∀ (l : List UInt8), c ∉ l → partsC c l = [l]
  | [], _ => rfl
  | x :: l, h => by
    have h1 : x ≠ c := fun e => h (by simp [e])
    have h2 : c ∉ l := fun e => h (by simp [e])
    simp [partsC, h1, partsC_none c l h2]
theorem partsC_app (c : UInt8) : ∀ (a b : List UInt8), c ∉ a → partsC c (a ++ c :: b) = a :: partsC c b
  | [], b, _ => by simp [partsC]
  | x :: a, b, h => by
    have h1 : x ≠ c := fun e => h (by simp [e])
    have h2 : c ∉ a := fun e => h (by simp [e])
    simp [partsC, h1, partsC_app c a b h2]
theorem partsC_len (c : UInt8) : ∀ (l : List UInt8), (partsC c l).length = l.count c + 1
  | [] => rfl
  | x :: l => by
    have ih := partsC_len c l
    unfold partsC
    split
    · rename_i h; subst h; simp [ih]
    · rename_i h
      rw [List.count_cons_of_ne (by simpa using h)]
      simp; omega
theorem partsC_mem (c : UInt8) : ∀ (l p : List UInt8), p ∈ partsC c l → c ∉ p
  | [], p, h => by simp [partsC] at h; simp [h]
  | x :: l, p, h => by
    unfold partsC at h
    split at h
    · rcases List.mem_cons.1 h with rfl | h
      · simp
      · exact partsC_mem c l p h
    · rename_i hx
      rcases List.mem_cons.1 h with rfl | h
      · have : (partsC c l).headD [] ∈ partsC c l := by
          cases hp : partsC c l with
          | nil => exact absurd hp (partsC_ne c l)
          | cons q r => simp
        have := partsC_mem c l _ this
        intro hm
        rcases List.mem_cons.1 hm with rfl | hm
        · exact hx rfl
        · exact this hm
      · exact partsC_mem c l p (List.mem_of_mem_tail h)
theorem index_g (l : List UInt8) (c : UInt8) (w : World) : Fn Tryd.prog 90 #[.string (by8 l), .string (by8 [c])] w fun r w' => r = .int .i64 (Lib.indexByte l c) ∧ w' = w := by
  refine fn_enter Tryd.func90 rfl rfl ?_
  refine len_str ?_
  refine cd (fun h => ?_) (fun h => ?_)
  · refine ⟨?_, rfl⟩
    rw [by8_list, by8_list] at h
    rw [← h]
    simp [Lib.indexByte, retV]
  · refine ixs 0 rfl (by rw [by8_size]; simp) ?_
    refine cl (indexbyte_c l _ w) ?_
    rintro _ _ ⟨rfl, rfl⟩
    refine ⟨?_, rfl⟩
    simp [retV, by8]
    rfl
theorem sindex_g (l : List UInt8) (c : UInt8) (w : World) : Fn Tryd.prog 75 #[.string (by8 l), .string (by8 [c])] w fun r w' => r = .int .i64 (Lib.indexByte l c) ∧ w' = w := by
  refine fn_enter Tryd.func75 rfl rfl ?_
  refine cl (index_g l c w) ?_
  rintro _ _ ⟨rfl, rfl⟩
  exact ⟨rfl, rfl⟩
def cutG (c : UInt8) (l : List UInt8) : Array Value :=
  match cutC c l with
  | none => #[.string (by8 l), .string (by8 []), .bool false]
  | some (a, b) => #[.string (by8 a), .string (by8 b), .bool true]
theorem ext_lC (a b : List UInt8) (c : UInt8) : (by8 (a ++ c :: b)).extract 0 a.length = by8 a := by
  apply ByteArray.ext; simp [by8]
theorem ext_rC (a b : List UInt8) (c : UInt8) : (by8 (a ++ c :: b)).extract (a.length + 1) (by8 (a ++ c :: b)).size = by8 b := by
  rw [by8_size]; apply ByteArray.ext; apply Array.ext'; simp [by8]; exact List.take_of_length_le (by omega)
theorem cut0_g (l : List UInt8) (c : UInt8) (hl : l.length ≤ 9223372036854775806) (w : World) : Fn Tryd.prog 93 #[.string (by8 l), .string (by8 [c])] w fun r w' => r = .tuple (cutG c l) ∧ Upd [] w w' := by
  refine fn_enter Tryd.func93 rfl rfl ?_
  refine cl (index_g l c w) ?_
  rintro _ w ⟨rfl, rfl⟩
  cases hc : cutC c l with
  | none =>
    rw [(cutC_none c l hc).1]
    refine ⟨?_, Upd.refl _ _⟩
    unfold cutG; rw [hc]; rfl
  | some p =>
    obtain ⟨a, b⟩ := p
    obtain ⟨h1, h2, -⟩ := cutC_some c l a b hc
    rw [h1]
    refine draw_all (fun w' => Upd [] w w') (by decide +kernel) (Upd.refl _ _).drew ?_
    refine rq (.string (by8 a)) (fun _ _ => s_hi a.length rfl (by rw [by8_size, h2]; simp) ⟨by rw [h2, ext_lC], rfl⟩) ?_
    refine q_lens ?_
    have hal : a.length + 1 ≤ l.length := by rw [h2]; simp
    refine q_ar64 (by show -9223372036854775808 ≤ (a.length : Int) + (1 : Int) ∧ (a.length : Int) + (1 : Int) ≤ 9223372036854775807; omega) ?_
    refine rq (.string (by8 b)) (fun _ _ => s_lo (a.length + 1) rfl (by rw [by8_size]; exact hal) ⟨by rw [h2, ext_rC], rfl⟩) ?_
    intro w' hw'
    refine ⟨?_, hw'⟩
    unfold cutG; rw [hc]; rfl
theorem cut_g (l : List UInt8) (c : UInt8) (hl : l.length ≤ 9223372036854775806) (w : World) : Fn Tryd.prog 80 #[.string (by8 l), .string (by8 [c])] w fun r w' => r = .tuple (cutG c l) ∧ Upd [] w w' := by
  refine fn_enter Tryd.func80 rfl rfl ?_
  refine cl (cut0_g l c hl w) ?_
  rintro _ w1 ⟨rfl, hu⟩
  unfold cutG
  cases hc : cutC c l with
  | none => exact ⟨rfl, hu⟩
  | some p => exact ⟨rfl, hu⟩
theorem count_g (l : List UInt8) (c : UInt8) (w : World) : Fn Tryd.prog 74 #[.string (by8 l), .string (by8 [c])] w fun r w' => r = .int .i64 (l.count c : Nat) ∧ w' = w := by
  refine fn_enter Tryd.func74 rfl rfl ?_
  refine len_str ?_
  refine len_str ?_
  refine ixs 0 rfl (by rw [by8_size]; simp) ?_
  refine ex (.int .i64 (l.count c : Nat)) w (by
    have e : (((by8 [c])[0]'(by rw [by8_size]; simp)).toNat : Int).toNat.toUInt8 = c := by simp [by8]; rfl
    show (callFunc 89 #[.string (by8 l), .int .u8 (((by8 [c])[0]'(by rw [by8_size]; simp)).toNat : Int)]).run Tryd.prog w = _
    rw [run_callFunc_extern Tryd.func89 (by kernel_rfl) (by kernel_rfl) (by kernel_rfl) (e := Extern.BytealgCount.count) (by kernel_rfl), Lib.run_countString, e]; rfl) ?_
  exact ⟨rfl, rfl⟩
theorem contains_g (l : List UInt8) (c : UInt8) (w : World) : Fn Tryd.prog 96 #[.string (by8 l), .string (by8 [c])] w fun r w' => r = .bool (decide (c ∈ l)) ∧ w' = w := by
  refine fn_enter Tryd.func96 rfl rfl ?_
  refine cl (sindex_g l c w) ?_
  rintro _ _ ⟨rfl, rfl⟩
  refine ⟨?_, rfl⟩
  refine congrArg Value.bool ?_
  cases hc : cutC c l with
  | none =>
    obtain ⟨h1, h2⟩ := cutC_none c l hc
    rw [h1, decide_eq_false h2]; rfl
  | some p =>
    obtain ⟨a, b⟩ := p
    obtain ⟨h1, h2, -⟩ := cutC_some c l a b hc
    have h3 : c ∈ l := by rw [h2]; simp
    rw [h1, decide_eq_true h3]
    exact decide_eq_true (by omega)
theorem sibyte_g (l : List UInt8) (c : Int) (w : World) : Fn Tryd.prog 62 #[.string (by8 l), .int .u8 c] w fun r w' => r = .int .i64 (Lib.indexByte l c.toNat.toUInt8) ∧ w' = w := by
  refine fn_enter Tryd.func62 rfl rfl ?_
  refine cl (indexbyte_c l c w) ?_
  rintro _ _ ⟨rfl, rfl⟩
  exact ⟨rfl, rfl⟩
theorem hasp0_g (l p : List UInt8) (w : World) : Fn Tryd.prog 94 #[.string (by8 l), .string (by8 p)] w fun r w' => r = .bool (decide (l.take p.length = p)) ∧ w' = w := by
  refine fn_enter Tryd.func94 rfl rfl ?_
  refine len_str ?_
  refine len_str ?_
  have h1 := by8_size l
  have h2 := by8_size p
  by_cases h : (by8 l).size ≥ (by8 p).size
  · refine cY (show ((by8 l).size : Int) ≥ ((by8 p).size : Int) by omega) ?_
    refine len_str ?_
    refine s_hi p.length (by omega) (by omega) ?_
    refine ⟨?_, rfl⟩
    refine congrArg Value.bool ?_
    rw [ext_take, by8_list, by8_list]
    show (List.take p.length l == p) = _
    by_cases hq : List.take p.length l = p <;> simp [hq]
  · refine cN (show ¬ ((by8 l).size : Int) ≥ ((by8 p).size : Int) by omega) ?_
    refine ⟨?_, rfl⟩
    have : ¬ l.take p.length = p := fun hh => by
      have := congrArg List.length hh
      rw [List.length_take] at this
      omega
    rw [decide_eq_false this]; rfl
theorem hasp_g (l p : List UInt8) (w : World) : Fn Tryd.prog 81 #[.string (by8 l), .string (by8 p)] w fun r w' => r = .bool (decide (l.take p.length = p)) ∧ w' = w := by
  refine fn_enter Tryd.func81 rfl rfl ?_
  refine cl (hasp0_g l p w) ?_
  rintro _ _ ⟨rfl, rfl⟩
  exact ⟨rfl, rfl⟩
/-! ### Split -/
def strB (L : List (List UInt8)) : List Value := L.map fun l => Value.string (by8 l)
/-- what Split has made so far: i parts, the others are empty -/
def cellsSp (L : List (List UInt8)) (i : Nat) : List Value := strB (L.take i) ++ List.replicate (L.length - i) (Value.string (by8 []))
theorem cellsSp_set (L : List (List UInt8)) (i : Nat) (hi : i < L.length) : (cellsSp L i).set i (.string (by8 (L.getD i []))) = cellsSp L (i + 1) := by
  have h1 : (strB (L.take i)).length = i := by simp [strB]; omega
  unfold cellsSp
  rw [List.set_append_right _ _ (by omega), h1, Nat.sub_self, show L.length - i = (L.length - (i + 1)) + 1 by omega, List.replicate_succ, List.set_cons_zero, show L.take (i + 1) = L.take i ++ [L.getD i []] by rw [List.take_add_one]; simp [List.getD, hi]]
  simp only [strB, List.map_append, List.map_cons, List.map_nil, List.append_assoc, List.cons_append, List.nil_append]
set_option maxRecDepth 10000 in
theorem gensplit_g (l : List UInt8) (c : UInt8) (hl : l.length ≤ 1000000) (w : World) : Fn Tryd.prog 52 #[.string (by8 l), .string (by8 [c]), .int .i64 0, .int .i64 (-1)] w fun r w' => Sl w' 9 1 r (partsC c l).length (strB (partsC c l)) ∧ Upd [] w w' := by
  have hcl : l.count c ≤ l.length := List.count_le_length
  have hpl := partsC_len c l
  refine fn_enter Tryd.func52 rfl rfl ?_
  refine cN (by rw [by8_list]; exact fun h => by simp at h) ?_
  refine cl (count_g l c w) ?_
  rintro _ w ⟨rfl, rfl⟩
  refine ar64 (by omega) ?_
  refine len_str ?_
  have hsz := by8_size l
  refine ar64 (by omega) ?_
  refine mn2 ?_
  refine val ((partsC c l).length : Int) (by split <;> omega) ?_
  refine mks (partsC c l).length rfl rfl (by omega) (by omega) fun w1 hb1 hu1 hs1 => ?_
  refine ar64 (by omega) ?_
  have hS1 : Sl w1 9 1 (.slice (some ⟨w.heap.size, 0, none⟩) (partsC c l).length (partsC c l).length) (partsC c l).length (cellsSp (partsC c l) 0) := by
    have := Sl.lit (n := (partsC c l).length) hb1 (by rw [made_row1]; simp) (by simp only [maxLen]; omega)
    rw [made_row1, show Value.string ByteArray.empty = Value.string (by8 []) from rfl] at this
    simpa [cellsSp, strB] using this
  have hz : w.heap.size < w1.heap.size := by omega
  generalize hg : w.heap.size = g at *
  refine loop_rule [1, 2, 3, 9] [0, 10] (fun vs w' m => ∃ (i : Nat) (rest : List UInt8), vs = [.string (by8 rest), .int .i64 i] ∧ i < (partsC c l).length ∧ m = (partsC c l).length - i ∧ partsC c rest = (partsC c l).drop i ∧ rest.length ≤ l.length ∧ Sl w' 9 1 (.slice (some ⟨g, 0, none⟩) (partsC c l).length (partsC c l).length) (partsC c l).length (cellsSp (partsC c l) i) ∧ Upd [] w w') rfl [.string (by8 l), .int .i64 0] (partsC c l).length rfl
    ⟨0, l, rfl, by omega, rfl, rfl, Nat.le_refl _, hS1, hu1⟩ ?_
  rintro _ w2 m ⟨i, rest, rfl, hi, rfl, hrest, hrl, hS2, hU2⟩
  have hdl : (partsC c rest).length = (partsC c l).length - i := by rw [hrest, List.length_drop]
  have hgd : (partsC c l).getD i [] = (partsC c rest).headD [] := by
    rw [hrest]; simp [List.getD, List.head?_drop]
  refine cd (fun hlt => ?_) (fun hlt => ?_)
  · refine cl (sindex_g rest c w2) ?_
    rintro _ w2 ⟨rfl, rfl⟩
    cases hc : cutC c rest with
    | none =>
      have h2 := partsC_none c rest (cutC_none c rest hc).2
      rw [h2] at hdl
      simp at hdl
      omega
    | some p =>
      obtain ⟨a, b⟩ := p
      obtain ⟨h1, h2, h3⟩ := cutC_some c rest a b hc
      have hal : a.length + 1 + b.length = rest.length := by rw [h2, List.length_append, List.length_cons]; omega
      have hpa : partsC c rest = a :: partsC c b := by rw [h2, partsC_app c a b h3]
      rw [h1]
      refine ar64 (by omega) ?_
      refine s_hi a.length (by omega) (by rw [by8_size]; omega) ?_
      rw [h2, ext_lC]
      refine ix i rfl hi ?_
      refine stS hS2 rfl hi rfl fun w3 hS3 hu3 hs3 => ?_
      have hai : (partsC c l).getD i [] = a := by rw [hgd, hpa]; rfl
      have hS3 : Sl w3 9 1 (.slice (some ⟨g, 0, none⟩) (partsC c l).length (partsC c l).length) (partsC c l).length (cellsSp (partsC c l) (i + 1)) := by
        rw [← cellsSp_set _ _ hi, hai]; exact hS3
      refine len_str ?_
      refine ar64 (by show -9223372036854775808 ≤ (a.length : Int) + (1 : Int) ∧ (a.length : Int) + (1 : Int) ≤ 9223372036854775807; omega) ?_
      refine s_lo (a.length + 1) rfl (by rw [by8_size]; simp) ?_
      rw [ext_rC]
      refine ar64 (by omega) ?_
      have hbp : partsC c b = (partsC c l).drop (i + 1) := by
        have : partsC c b = (partsC c rest).drop 1 := by rw [hpa]; rfl
        rw [this, hrest, List.drop_drop, Nat.add_comm]
      have hbl := partsC_ne c b
      have hi2 : i + 1 < (partsC c l).length := by
        rcases Nat.lt_or_ge (i + 1) (partsC c l).length with h | h
        · exact h
        · rw [List.drop_of_length_le h] at hbp; exact absurd hbp hbl
      exact round_mk [.string (by8 b), .int .i64 ((i + 1 : Nat) : Int)] ((partsC c l).length - (i + 1)) rfl rfl ⟨i + 1, b, rfl, hi2, rfl, hbp, by omega, hS3, hU2.step hu3 (by simp; omega)⟩ (by omega)
  · have hlast : i + 1 = (partsC c l).length := by omega
    have h1 : (partsC c rest).length = 1 := by omega
    have hno : partsC c rest = [rest] := by
      cases hc : cutC c rest with
      | none => exact partsC_none c rest (cutC_none c rest hc).2
      | some p =>
        obtain ⟨a, b⟩ := p
        obtain ⟨-, h2, h3⟩ := cutC_some c rest a b hc
        have := partsC_ne c b
        rw [h2, partsC_app c a b h3] at h1
        simp at h1
        exact absurd h1 this
    have hai : (partsC c l).getD i [] = rest := by rw [hgd, hno]; rfl
    refine ix i rfl hi ?_
    refine stS hS2 rfl hi rfl fun w3 hS3 hu3 hs3 => ?_
    have hS3 : Sl w3 9 1 (.slice (some ⟨g, 0, none⟩) (partsC c l).length (partsC c l).length) (partsC c l).length (cellsSp (partsC c l) (i + 1)) := by
      rw [← cellsSp_set _ _ hi, hai]; exact hS3
    refine ar64 (by omega) ?_
    refine sl_hi (i + 1) (by omega) (by omega) ?_
    have hfull : cellsSp (partsC c l) (i + 1) = strB (partsC c l) := by
      unfold cellsSp
      rw [hlast, List.take_length, Nat.sub_self]; simp
    rw [hfull] at hS3
    rw [hlast]
    exact ⟨hS3, hU2.step hu3 (by simp; omega)⟩
theorem split_g (l : List UInt8) (c : UInt8) (hl : l.length ≤ 1000000) (w : World) : Fn Tryd.prog 22 #[.string (by8 l), .string (by8 [c])] w fun r w' => Sl w' 9 1 r (partsC c l).length (strB (partsC c l)) ∧ Upd [] w w' := by
  refine fn_enter Tryd.func22 rfl rfl ?_
  refine cl (gensplit_g l c hl w) ?_
  rintro r w1 ⟨hs, hu⟩
  exact ⟨hs, hu⟩
end Go.Proofs.YtlhbgnoghjendaaDoor
