/- Contracts: strings that are cut, numbers, pairs and answers that are read (by names). -/
import Derived.Test.YtlhbgnoghjendaaDoorCt
import Derived.Laws.Externs
namespace Go.Proofs.YtlhbgnoghjendaaDoor
open Go.RowKit
attribute [local irreducible] Instr.loadAt Instr.storeAt Instr.fieldAt Instr.indexAt Instr.sliceAt Instr.buildSlice Instr.box Instr.alloc Builtin.append_ Builtin.len_ Builtin.min_ Builtin.max_ Calls Instr.build Instr.makeSlice binSem convert Instr.index Instr.range Instr.next

/-- cut at the first blank -/
def cutAt : List UInt8 → Option (List UInt8 × List UInt8)
  | [] => none
  | x :: l => if x = 32 then some ([], l) else (cutAt l).map fun p => (x :: p.1, p.2)
theorem cutAt_none : ∀ (l : List UInt8), cutAt l = none → Lib.indexByte l 32 = -1
  | [], _ => rfl
  | x :: l, h => by
    unfold cutAt at h
    split at h
    · cases h
    · rename_i hx
      have h1 := cutAt_none l (by simpa using h)
      simp [Lib.indexByte, hx, h1]
theorem cutAt_some : ∀ (l a b : List UInt8), cutAt l = some (a, b) → Lib.indexByte l 32 = (a.length : Int) ∧ l = a ++ 32 :: b
  | [], _, _, h => by cases h
  | x :: l, a, b, h => by
    unfold cutAt at h
    split at h
    · rename_i hx
      cases h
      simp [Lib.indexByte, hx]
    · rename_i hx
      cases hc : cutAt l with
      | none => rw [hc] at h; cases h
      | some p =>
        obtain ⟨a', b'⟩ := p
        rw [hc] at h
        cases h
        obtain ⟨h1, h2⟩ := cutAt_some l a' b' hc
        have h3 : ¬ Lib.indexByte l 32 = -1 := by rw [h1]; omega
        refine ⟨?_, by rw [h2]; rfl⟩
        simp [Lib.indexByte, hx, h3, h1]
def by8 (l : List UInt8) : ByteArray := ⟨l.toArray⟩
theorem by8_data (s : ByteArray) : by8 s.data.toList = s := by simp [by8]
theorem by8_size (l : List UInt8) : (by8 l).size = l.length := by simp [by8, ByteArray.size]
theorem by8_list (l : List UInt8) : (by8 l).toList = l := by rw [ByteArray.toList_eq]; rfl
theorem indexbyte_c (l : List UInt8) (c : Int) (w : World) : Fn Tryd.prog 84 #[.string (by8 l), .int .u8 c] w fun r w' => r = .int .i64 (Lib.indexByte l c.toNat.toUInt8) ∧ w' = w := by
  refine fn_enter Tryd.func84 rfl rfl ?_
  refine ex (.int .i64 (Lib.indexByte l c.toNat.toUInt8)) w (by show (callFunc 97 #[.string (by8 l), .int .u8 c]).run Tryd.prog w = _; rw [run_callFunc_extern Tryd.func97 (by kernel_rfl) (by kernel_rfl) (by kernel_rfl) (e := Extern.BytealgIndexByte.indexByte) (by kernel_rfl), Lib.run_indexByteString]; rfl) ?_
  exact ⟨rfl, rfl⟩
theorem index_c (l : List UInt8) (w : World) : Fn Tryd.prog 90 #[.string (by8 l), .string ⟨#[32]⟩] w fun r w' => r = .int .i64 (Lib.indexByte l 32) ∧ w' = w := by
  refine fn_enter Tryd.func90 rfl rfl ?_
  refine len_str ?_
  refine cd (fun h => ?_) (fun h => ?_)
  · refine ⟨?_, rfl⟩
    rw [by8_list, ByteArray.toList_eq] at h
    have h : [32] = l := h
    rw [← h]
    rfl
  · refine ixs 0 rfl (by decide) ?_
    refine cl (indexbyte_c l 32 w) ?_
    rintro _ _ ⟨rfl, rfl⟩
    exact ⟨rfl, rfl⟩
def cutV (l : List UInt8) : Array Value :=
  match cutAt l with
  | none => #[.string (by8 l), .string (by8 []), .bool false]
  | some (a, b) => #[.string (by8 a), .string (by8 b), .bool true]
theorem ext_l (a b : List UInt8) : (by8 (a ++ 32 :: b)).extract 0 a.length = by8 a := by
  apply ByteArray.ext; simp [by8]
theorem ext_r (a b : List UInt8) : (by8 (a ++ 32 :: b)).extract (a.length + 1) (by8 (a ++ 32 :: b)).size = by8 b := by
  rw [by8_size]; apply ByteArray.ext; apply Array.ext'; simp [by8]; exact List.take_of_length_le (by omega)
theorem cut0_c (l : List UInt8) (hl : l.length ≤ 9223372036854775806) (w : World) : Fn Tryd.prog 93 #[.string (by8 l), .string ⟨#[32]⟩] w fun r w' => r = .tuple (cutV l) ∧ Upd [] w w' := by
  refine fn_enter Tryd.func93 rfl rfl ?_
  refine cl (index_c l w) ?_
  rintro _ w ⟨rfl, rfl⟩
  cases hc : cutAt l with
  | none =>
    rw [cutAt_none l hc]
    refine ⟨?_, Upd.refl _ _⟩
    unfold cutV; rw [hc]; rfl
  | some p =>
    obtain ⟨a, b⟩ := p
    obtain ⟨h1, h2⟩ := cutAt_some l a b hc
    rw [h1]
    refine draw_all (fun w' => Upd [] w w') (by decide +kernel) (Upd.refl _ _).drew ?_
    refine rq (.string (by8 a)) (fun _ _ => s_hi a.length rfl (by rw [by8_size, h2]; simp) ⟨by rw [h2, ext_l], rfl⟩) ?_
    refine q_lens ?_
    have hal : a.length + 1 ≤ l.length := by rw [h2]; simp
    refine q_ar64 (by show -9223372036854775808 ≤ (a.length : Int) + (1 : Int) ∧ (a.length : Int) + (1 : Int) ≤ 9223372036854775807; omega) ?_
    refine rq (.string (by8 b)) (fun _ _ => s_lo (a.length + 1) rfl (by rw [by8_size]; exact hal) ⟨by rw [h2, ext_r], rfl⟩) ?_
    intro w' hw'
    refine ⟨?_, hw'⟩
    unfold cutV; rw [hc]; rfl
theorem cut_c (l : List UInt8) (hl : l.length ≤ 9223372036854775806) (w : World) : Fn Tryd.prog 80 #[.string (by8 l), .string ⟨#[32]⟩] w fun r w' => r = .tuple (cutV l) ∧ Upd [] w w' := by
  refine fn_enter Tryd.func80 rfl rfl ?_
  refine cl (cut0_c l hl w) ?_
  rintro _ w1 ⟨rfl, hu⟩
  unfold cutV
  cases hc : cutAt l with
  | none => exact ⟨rfl, hu⟩
  | some p => exact ⟨rfl, hu⟩

def isD (c : UInt8) : Bool := decide (48 ≤ c.toNat) && decide (c.toNat ≤ 57)
theorem isD_iff (c : UInt8) : isD c = true ↔ 48 ≤ c.toNat ∧ c.toNat ≤ 57 := by simp [isD]
def valL (l : List UInt8) : Nat := l.foldl (fun n c => 10 * n + (c.toNat - 48)) 0
theorem valL_snoc (l : List UInt8) (c : UInt8) : valL (l ++ [c]) = 10 * valL l + (c.toNat - 48) := by simp [valL]
theorem valL_lt (l : List UInt8) (h : l.all isD = true) : valL l < 10 ^ l.length := by
  have key : ∀ (l : List UInt8) (n k : Nat), l.all isD = true → n < 10 ^ k → l.foldl (fun n c => 10 * n + (c.toNat - 48)) n < 10 ^ (k + l.length) := by
    intro l
    induction l with
    | nil => intro n k _ h; simpa using h
    | cons c l ih =>
      intro n k h hn
      simp only [List.all_cons, Bool.and_eq_true] at h
      have := (isD_iff c).1 h.1
      have h2 := ih (10 * n + (c.toNat - 48)) (k + 1) h.2 (by rw [Nat.pow_succ]; omega)
      simp only [List.foldl_cons, List.length_cons]
      rw [show k + (l.length + 1) = k + 1 + l.length by omega]
      exact h2
  have := key l 0 0 h (by simp)
  rw [Nat.zero_add] at this
  exact this
def badN (l : List UInt8) : Prop := l = [] ∨ 10 < l.length ∨ (1 < l.length ∧ l.getD 0 0 = 48) ∨ l.all isD = false
instance {l : List UInt8} : Decidable (badN l) := by unfold badN; exact inferInstance
def numV (l : List UInt8) : Array Value := if badN l then #[.int .u32 0, .bool false] else #[.int .u32 ((valL l % 4294967296 : Nat) : Int), .bool (decide (valL l ≤ 4294967295))]
theorem numV_bad {l : List UInt8} (h : badN l) : numV l = #[.int .u32 0, .bool false] := if_pos h
theorem by8_at (l : List UInt8) (j : Nat) (h : j < (by8 l).size) : (by8 l)[j] = l.getD j 0 := by
  have h2 : j < l.length := by rwa [by8_size] at h
  show l.toArray[j] = _
  simp [List.getD, h2]
set_option maxRecDepth 10000 in
theorem number_c (l : List UInt8) (w : World) : Fn Tryd.prog 91 #[.string (by8 l)] w fun r w' => r = .tuple (numV l) ∧ Upd [] w w' := by
  refine fn_enter Tryd.func91 rfl rfl ?_
  refine cd (fun h => ?_) (fun h => ?_)
  · rw [by8_list, ByteArray.toList_eq] at h
    have h : l = [] := h
    exact ⟨by rw [numV_bad (.inl h)]; rfl, Upd.refl _ _⟩
  have hne : l ≠ [] := by rw [by8_list, ByteArray.toList_eq] at h; exact h
  refine len_str ?_
  refine cd (fun h => ?_) (fun h => ?_)
  · rw [by8_size] at h
    exact ⟨by rw [numV_bad (.inr (.inl (by omega)))]; rfl, Upd.refl _ _⟩
  rw [by8_size] at h
  have hlen : l.length ≤ 10 := by omega
  refine len_str ?_
  have hb : ¬ 1 < l.length → ¬ (1 < l.length ∧ l.getD 0 0 = 48) := fun h1 h2 => h1 h2.1
  refine cd (fun h1 => ?_) (fun h1 => ?_)
  · rw [by8_size] at h1
    refine ixs 0 rfl (by rw [by8_size]; omega) ?_
    rw [by8_at]
    refine cd (fun h48 => ?_) (fun h48 => ?_)
    · exact ⟨by rw [numV_bad (.inr (.inr (.inl ⟨by omega, UInt8.toNat_inj.1 (by rw [show (48 : UInt8).toNat = 48 from rfl]; omega)⟩)))]; rfl, Upd.refl _ _⟩
    · have hz : ¬ (1 < l.length ∧ l.getD 0 0 = 48) := fun h => h48 (by rw [h.2]; rfl)
      clear hb
      refine rg fun w1 hi1 hu1 hs1 => ?_
      refine loop_rule [25] [4] (fun vs w' m => ∃ p : Nat, vs = [.int .u64 (valL (l.take p) : Int)] ∧ p ≤ l.length ∧ m = l.length - p ∧ (l.take p).all isD = true ∧ Itr w' w.heap.size (by8 l) p ∧ Upd [] w w') rfl [.int .u64 0] l.length rfl ⟨0, rfl, by omega, by omega, rfl, hi1, hu1⟩ ?_
      rintro _ w2 m ⟨p, rfl, hp, rfl, hall, hI, hU⟩
      have hlt10 : valL (l.take p) < 10 ^ 10 := Nat.lt_of_lt_of_le (valL_lt _ hall) (Nat.pow_le_pow_right (by omega) (by simp; omega))
      by_cases hend : p < l.length
      · refine nx1 hI (by rw [by8_size]; exact hend) fun w3 hI3 hu3 hs3 => ?_
        have hU3 := hU.step hu3 (by simp)
        have hpb : p < (by8 l).size := by rw [by8_size]; exact hend
        have hnat : ∀ c : UInt8, l.getD p 0 = c → True := fun _ _ => trivial
        by_cases hasc : (l.getD p 0).toNat < 128
        · have hdec : Utf8.decode (by8 l) p = ((l.getD p 0).toNat, 1) := by
            have := decode_ascii (by8 l) p hpb (by rw [by8_at]; exact hasc)
            rw [by8_at] at this
            exact this
          rw [hdec] at hI3 ⊢
          have htake : l.take (p + 1) = l.take p ++ [l.getD p 0] := by rw [List.take_add_one]; simp [List.getD, hend]
          have nope : ¬ (48 ≤ (l.getD p 0).toNat ∧ (l.getD p 0).toNat ≤ 57) → badN l := fun hn => .inr (.inr (.inr (by
            rw [List.all_eq_false]
            exact ⟨l.getD p 0, by simp [List.getD, hend], by rw [isD_iff]; exact hn⟩)))
          refine cd (fun h48 => ?_) (fun h48 => ?_)
          · exact ⟨by rw [numV_bad (nope (by omega))]; rfl, hU3⟩
          refine cd (fun h57 => ?_) (fun h57 => ?_)
          · exact ⟨by rw [numV_bad (nope (by omega))]; rfl, hU3⟩
          refine arU (by omega) ?_
          refine val (((l.getD p 0).toNat - 48 : Nat) : Int) (by rw [show IntKind.i32.wrap (((l.getD p 0).toNat : Int) - 48) = ((l.getD p 0).toNat : Int) - 48 from by rw [IntKind.wrap_i32]; omega]; omega) ?_
          refine cv ?_
          refine arU (by omega) ?_
          refine arU (by omega) ?_
          refine round_mk [.int .u64 (valL (l.take (p + 1)) : Int)] (l.length - (p + 1)) rfl (by rw [htake, valL_snoc]; rfl) ?_ (by omega)
          refine ⟨p + 1, rfl, by omega, rfl, ?_, hI3, hU3⟩
          rw [htake, List.all_append, hall]
          simp only [List.all_cons, List.all_nil, Bool.and_true, Bool.true_and]
          rw [isD_iff]; omega
        · have hhigh := (decode_high (by8 l) p hpb (by rw [by8_at]; omega)).1
          refine cd (fun h48 => by omega) (fun h48 => ?_)
          refine cd (fun h57 => ?_) (fun h57 => by omega)
          refine ⟨?_, hU3⟩
          rw [numV_bad (.inr (.inr (.inr (by
            rw [List.all_eq_false]
            exact ⟨l.getD p 0, by simp [List.getD, hend], by rw [isD_iff]; omega⟩))))]
          rfl
      · refine nx0 hI (by rw [by8_size]; exact hend) ?_
        have hp : p = l.length := by omega
        subst hp
        rw [List.take_length] at hall hlt10 ⊢
        refine cv ?_
        refine val ((valL l % 4294967296 : Nat) : Int) (by rw [IntKind.wrap_u32]; omega) ?_
        refine ⟨?_, hU⟩
        unfold numV
        rw [if_neg (fun hb => by rcases hb with h | h | h | h <;> first | exact hne h | exact hz h | omega | (rw [hall] at h; cases h))]
        have e : decide ((valL l : Int) ≤ 4294967295) = decide (valL l ≤ 4294967295) := by apply decide_eq_decide.2; omega
        show Value.tuple #[_, .bool (decide ((valL l : Int) ≤ 4294967295))] = _
        rw [e]
  · rw [by8_size] at h1
    have hz := hb (by omega)
    clear hb
    refine rg fun w1 hi1 hu1 hs1 => ?_
    refine loop_rule [25] [4] (fun vs w' m => ∃ p : Nat, vs = [.int .u64 (valL (l.take p) : Int)] ∧ p ≤ l.length ∧ m = l.length - p ∧ (l.take p).all isD = true ∧ Itr w' w.heap.size (by8 l) p ∧ Upd [] w w') rfl [.int .u64 0] l.length rfl ⟨0, rfl, by omega, by omega, rfl, hi1, hu1⟩ ?_
    rintro _ w2 m ⟨p, rfl, hp, rfl, hall, hI, hU⟩
    have hlt10 : valL (l.take p) < 10 ^ 10 := Nat.lt_of_lt_of_le (valL_lt _ hall) (Nat.pow_le_pow_right (by omega) (by simp; omega))
    by_cases hend : p < l.length
    · refine nx1 hI (by rw [by8_size]; exact hend) fun w3 hI3 hu3 hs3 => ?_
      have hU3 := hU.step hu3 (by simp)
      have hpb : p < (by8 l).size := by rw [by8_size]; exact hend
      have hnat : ∀ c : UInt8, l.getD p 0 = c → True := fun _ _ => trivial
      by_cases hasc : (l.getD p 0).toNat < 128
      · have hdec : Utf8.decode (by8 l) p = ((l.getD p 0).toNat, 1) := by
          have := decode_ascii (by8 l) p hpb (by rw [by8_at]; exact hasc)
          rw [by8_at] at this
          exact this
        rw [hdec] at hI3 ⊢
        have htake : l.take (p + 1) = l.take p ++ [l.getD p 0] := by rw [List.take_add_one]; simp [List.getD, hend]
        have nope : ¬ (48 ≤ (l.getD p 0).toNat ∧ (l.getD p 0).toNat ≤ 57) → badN l := fun hn => .inr (.inr (.inr (by
          rw [List.all_eq_false]
          exact ⟨l.getD p 0, by simp [List.getD, hend], by rw [isD_iff]; exact hn⟩)))
        refine cd (fun h48 => ?_) (fun h48 => ?_)
        · exact ⟨by rw [numV_bad (nope (by omega))]; rfl, hU3⟩
        refine cd (fun h57 => ?_) (fun h57 => ?_)
        · exact ⟨by rw [numV_bad (nope (by omega))]; rfl, hU3⟩
        refine arU (by omega) ?_
        refine val (((l.getD p 0).toNat - 48 : Nat) : Int) (by rw [show IntKind.i32.wrap (((l.getD p 0).toNat : Int) - 48) = ((l.getD p 0).toNat : Int) - 48 from by rw [IntKind.wrap_i32]; omega]; omega) ?_
        refine cv ?_
        refine arU (by omega) ?_
        refine arU (by omega) ?_
        refine round_mk [.int .u64 (valL (l.take (p + 1)) : Int)] (l.length - (p + 1)) rfl (by rw [htake, valL_snoc]; rfl) ?_ (by omega)
        refine ⟨p + 1, rfl, by omega, rfl, ?_, hI3, hU3⟩
        rw [htake, List.all_append, hall]
        simp only [List.all_cons, List.all_nil, Bool.and_true, Bool.true_and]
        rw [isD_iff]; omega
      · have hhigh := (decode_high (by8 l) p hpb (by rw [by8_at]; omega)).1
        refine cd (fun h48 => by omega) (fun h48 => ?_)
        refine cd (fun h57 => ?_) (fun h57 => by omega)
        refine ⟨?_, hU3⟩
        rw [numV_bad (.inr (.inr (.inr (by
          rw [List.all_eq_false]
          exact ⟨l.getD p 0, by simp [List.getD, hend], by rw [isD_iff]; omega⟩))))]
        rfl
    · refine nx0 hI (by rw [by8_size]; exact hend) ?_
      have hp : p = l.length := by omega
      subst hp
      rw [List.take_length] at hall hlt10 ⊢
      refine cv ?_
      refine val ((valL l % 4294967296 : Nat) : Int) (by rw [IntKind.wrap_u32]; omega) ?_
      refine ⟨?_, hU⟩
      unfold numV
      rw [if_neg (fun hb => by rcases hb with h | h | h | h <;> first | exact hne h | exact hz h | omega | (rw [hall] at h; cases h))]
      have e : decide ((valL l : Int) ≤ 4294967295) = decide (valL l ≤ 4294967295) := by apply decide_eq_decide.2; omega
      show Value.tuple #[_, .bool (decide ((valL l : Int) ≤ 4294967295))] = _
      rw [e]

def okN (l : List UInt8) : Prop := ¬ badN l ∧ valL l ≤ 4294967295
instance {l : List UInt8} : Decidable (okN l) := by unfold okN; exact inferInstance
theorem numV_form (l : List UInt8) : ∃ x : Int, numV l = #[.int .u32 x, .bool (decide (okN l))] ∧ (okN l → x = (valL l : Int)) := by
  by_cases hb : badN l
  · exact ⟨0, by rw [numV_bad hb, decide_eq_false (fun h : okN l => h.1 hb)], fun h => absurd hb h.1⟩
  · refine ⟨((valL l % 4294967296 : Nat) : Int), ?_, fun h => by have := h.2; omega⟩
    unfold numV
    rw [if_neg hb]
    have : decide (valL l ≤ 4294967295) = decide (okN l) := decide_eq_decide.2 ⟨fun h => ⟨hb, h⟩, fun h => h.2⟩
    rw [this]
def pairOf (l : List UInt8) : Option (Nat × Nat) :=
  match cutAt l with
  | none => none
  | some (a, b) => if okN a ∧ okN b then some (valL a, valL b) else none
def pairV (l : List UInt8) : Array Value :=
  match pairOf l with
  | none => #[.int .u32 0, .int .u32 0, .bool false]
  | some (k, v) => #[.int .u32 (k : Int), .int .u32 (v : Int), .bool true]
set_option maxRecDepth 10000 in
theorem pair_c (l : List UInt8) (hl : l.length ≤ 9223372036854775806) (w : World) : Fn Tryd.prog 76 #[.string (by8 l)] w fun r w' => r = .tuple (pairV l) ∧ Upd [] w w' := by
  refine fn_enter Tryd.func76 rfl rfl ?_
  refine cl (cut_c l hl w) ?_
  rintro _ w1 ⟨rfl, hu1⟩
  unfold cutV pairV pairOf
  cases hc : cutAt l with
  | none =>
    refine cl (number_c l w1) ?_
    rintro _ w2 ⟨rfl, hu2⟩
    obtain ⟨x, e1, -⟩ := numV_form l
    rw [e1]
    refine cl (number_c [] w2) ?_
    rintro _ w3 ⟨rfl, hu3⟩
    obtain ⟨y, e2, -⟩ := numV_form []
    rw [e2]
    exact ⟨rfl, (hu1.trans hu2).trans hu3⟩
  | some p =>
    obtain ⟨a, b⟩ := p
    refine cl (number_c a w1) ?_
    rintro _ w2 ⟨rfl, hu2⟩
    obtain ⟨x, e1, hx⟩ := numV_form a
    rw [e1]
    refine cl (number_c b w2) ?_
    rintro _ w3 ⟨rfl, hu3⟩
    obtain ⟨y, e2, hy⟩ := numV_form b
    rw [e2]
    have hU := (hu1.trans hu2).trans hu3
    dsimp only
    refine cd (fun h1 => ?_) (fun h1 => ?_)
    · exact ⟨by rw [if_neg (fun h => h1 h.1)]; rfl, hU⟩
    have h1 : okN a := by simpa using h1
    refine cd (fun h2 => ?_) (fun h2 => ?_)
    · exact ⟨by rw [if_neg (fun h => h2 h.2)]; rfl, hU⟩
    have h2 : okN b := by simpa using h2
    refine ⟨?_, hU⟩
    rw [if_pos ⟨h1, h2⟩, hx h1, hy h2]
    rfl

def z3 : Array Value := #[.int .i64 0, .int .u32 0, .int .u32 0]
def s_done : List UInt8 := [100, 111, 110, 101]
def s_full : List UInt8 := [102, 117, 108, 108]
def s_empty : List UInt8 := [101, 109, 112, 116, 121]
/-- an answer that is read -/
def readR (l : List UInt8) : Option (Int × Int × Int) :=
  if l = s_done then some (0, 0, 0) else if l = s_full then some (1, 0, 0) else if l = s_empty then some (3, 0, 0)
  else (pairOf l).map fun p => (2, (p.1 : Int), (p.2 : Int))
def outR (x : Option (Int × Int × Int)) : Value :=
  match x with
  | none => .tuple #[.agg (c3 0 0 0), .int .i64 8]
  | some (o, k, v) => .tuple #[.agg (c3 o k v), .int .i64 0]
theorem eqs (l : List UInt8) (a : List UInt8) : ((by8 l).toList == (ByteArray.mk a.toArray).toList) = decide (l = a) := by
  rw [by8_list, ByteArray.toList_eq]
  show (l == a) = _
  by_cases h : l = a <;> simp [h]
set_option maxRecDepth 10000 in
theorem read_c (l : List UInt8) (hl : l.length ≤ 9223372036854775806) (w : World) : Fn Tryd.prog 53 #[.string (by8 l)] w fun r w' => r = outR (readR l) ∧ Upd [] w w' := by
  refine fn_enter Tryd.func53 rfl rfl ?_
  refine al z3 (fun _ => by kernel_rfl) fun w1 hb1 hu1 hs1 => ?_
  refine cd (fun h => ?_) (fun h0 => ?_)
  · rw [by8_list, ByteArray.toList_eq] at h
    have h : l = s_done := h
    refine bd (c3 0 0 0) (fun _ => by kernel_rfl) ?_
    refine stw hb1 rfl rfl rfl fun w2 hb2 hu2 hs2 => ?_
    refine rlw hb2 rfl ?_
    refine ⟨?_, hu1.step hu2 (by simp)⟩
    subst h
    rfl
  have h0 : l ≠ s_done := by rw [by8_list, ByteArray.toList_eq] at h0; exact h0
  refine cd (fun h => ?_) (fun h1 => ?_)
  · rw [by8_list, ByteArray.toList_eq] at h
    have h : l = s_full := h
    refine bd (c3 1 0 0) (fun _ => by kernel_rfl) ?_
    refine stw hb1 rfl rfl rfl fun w2 hb2 hu2 hs2 => ?_
    refine rlw hb2 rfl ?_
    refine ⟨?_, hu1.step hu2 (by simp)⟩
    subst h
    rfl
  have h1 : l ≠ s_full := by rw [by8_list, ByteArray.toList_eq] at h1; exact h1
  refine cd (fun h => ?_) (fun h2 => ?_)
  · rw [by8_list, ByteArray.toList_eq] at h
    have h : l = s_empty := h
    refine bd (c3 3 0 0) (fun _ => by kernel_rfl) ?_
    refine stw hb1 rfl rfl rfl fun w2 hb2 hu2 hs2 => ?_
    refine rlw hb2 rfl ?_
    refine ⟨?_, hu1.step hu2 (by simp)⟩
    subst h
    rfl
  have h2 : l ≠ s_empty := by rw [by8_list, ByteArray.toList_eq] at h2; exact h2
  refine cl (pair_c l hl w1) ?_
  rintro _ w2 ⟨rfl, hu2⟩
  have hr2 := hb1.upd hu2 (by simp)
  have hU2 := hu1.trans hu2
  unfold readR
  rw [if_neg h0, if_neg h1, if_neg h2]
  unfold pairV
  cases hp : pairOf l with
  | none =>
    refine bd (c3 0 0 0) (fun _ => by kernel_rfl) ?_
    refine stw hr2 rfl rfl rfl fun w3 hb3 hu3 hs3 => ?_
    refine rlw hb3 rfl ?_
    exact ⟨rfl, hU2.step hu3 (by simp)⟩
  | some p =>
    obtain ⟨a, b⟩ := p
    refine bd (c3 2 (a : Int) (b : Int)) (fun _ => by kernel_rfl) ?_
    refine stw hr2 rfl rfl rfl fun w3 hb3 hu3 hs3 => ?_
    refine rlw hb3 rfl ?_
    exact ⟨rfl, hU2.step hu3 (by simp)⟩

end Go.Proofs.YtlhbgnoghjendaaDoor
