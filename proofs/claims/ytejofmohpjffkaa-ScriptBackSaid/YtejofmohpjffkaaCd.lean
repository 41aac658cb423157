/- Contracts of the calls' functions: numbers read. -/
import Derived.Test.YtejofmohpjffkaaCc
namespace Go.Proofs.Ytejofmohpjffkaa
open Go.RowKit
attribute [local irreducible] Instr.loadAt Instr.storeAt Instr.fieldAt Instr.indexAt Instr.sliceAt Instr.buildSlice Instr.box Instr.alloc Builtin.append_ Builtin.len_ Builtin.min_ Builtin.max_ Calls Instr.build Instr.makeSlice binSem convert Instr.index Instr.range Instr.next

def isD (c : UInt8) : Bool := decide (48 ≤ c.toNat) && decide (c.toNat ≤ 57)
theorem isD_iff (c : UInt8) : isD c = true ↔ 48 ≤ c.toNat ∧ c.toNat ≤ 57 := by simp [isD]
def valL (l : List UInt8) : Nat := l.foldl (fun n c => 10 * n + (c.toNat - 48)) 0
theorem valL_snoc (l : List UInt8) (c : UInt8) : valL (l ++ [c]) = 10 * valL l + (c.toNat - 48) := by simp [valL]
theorem valL_lt (l : List UInt8) (h : l.all isD = true) : valL l < 10 ^ l.length := by
  have key : ∀ (l : List UInt8) (n k : Nat), l.all isD = true → n < 10 ^ k → l.foldl (fun n c => 10 * n + (c.toNat - 48)) n < 10 ^ (k + l.length) := by
    intro l
    induction l with
    | nil => intro n k _ h; simpa using h
    | cons c l ih =>
      intro n k h hn
      simp only [List.all_cons, Bool.and_eq_true] at h
      have := (isD_iff c).1 h.1
      have h2 := ih (10 * n + (c.toNat - 48)) (k + 1) h.2 (by rw [Nat.pow_succ]; omega)
      simp only [List.foldl_cons, List.length_cons]
      rw [show k + (l.length + 1) = k + 1 + l.length by omega]
      exact h2
  have := key l 0 0 h (by simp)
  rw [Nat.zero_add] at this
  exact this
def badN (l : List UInt8) : Prop := l = [] ∨ 10 < l.length ∨ (1 < l.length ∧ l.getD 0 0 = 48) ∨ l.all isD = false
instance {l : List UInt8} : Decidable (badN l) := by unfold badN; exact inferInstance
def numV (l : List UInt8) : Array Value := if badN l then #[.int .u32 0, .bool false] else #[.int .u32 ((valL l % 4294967296 : Nat) : Int), .bool (decide (valL l ≤ 4294967295))]
theorem numV_bad {l : List UInt8} (h : badN l) : numV l = #[.int .u32 0, .bool false] := if_pos h
theorem by8_at (l : List UInt8) (j : Nat) (h : j < (by8 l).size) : (by8 l)[j] = l.getD j 0 := by
  have h2 : j < l.length := by rwa [by8_size] at h
  show l.toArray[j] = _
  simp [List.getD, h2]
set_option maxRecDepth 10000 in
theorem number_c (l : List UInt8) (w : World) : Fn Try.prog 67 #[.string (by8 l)] w fun r w' => r = .tuple (numV l) ∧ Upd [] w w' := by
  refine fn_enter Try.func67 rfl rfl ?_
  refine cd (fun h => ?_) (fun h => ?_)
  · rw [by8_list, ByteArray.toList_eq] at h
    have h : l = [] := h
    exact ⟨by rw [numV_bad (.inl h)]; rfl, Upd.refl _ _⟩
  have hne : l ≠ [] := by rw [by8_list, ByteArray.toList_eq] at h; exact h
  refine len_str ?_
  refine cd (fun h => ?_) (fun h => ?_)
  · rw [by8_size] at h
    exact ⟨by rw [numV_bad (.inr (.inl (by omega)))]; rfl, Upd.refl _ _⟩
  rw [by8_size] at h
  have hlen : l.length ≤ 10 := by omega
  refine len_str ?_
  have hb : ¬ 1 < l.length → ¬ (1 < l.length ∧ l.getD 0 0 = 48) := fun h1 h2 => h1 h2.1
  refine cd (fun h1 => ?_) (fun h1 => ?_)
  · rw [by8_size] at h1
    refine ixs 0 rfl (by rw [by8_size]; omega) ?_
    rw [by8_at]
    refine cd (fun h48 => ?_) (fun h48 => ?_)
    · exact ⟨by rw [numV_bad (.inr (.inr (.inl ⟨by omega, UInt8.toNat_inj.1 (by rw [show (48 : UInt8).toNat = 48 from rfl]; omega)⟩)))]; rfl, Upd.refl _ _⟩
    · have hz : ¬ (1 < l.length ∧ l.getD 0 0 = 48) := fun h => h48 (by rw [h.2]; rfl)
      clear hb
      refine rg fun w1 hi1 hu1 hs1 => ?_
      refine loop_rule [25] [4] (fun vs w' m => ∃ p : Nat, vs = [.int .u64 (valL (l.take p) : Int)] ∧ p ≤ l.length ∧ m = l.length - p ∧ (l.take p).all isD = true ∧ Itr w' w.heap.size (by8 l) p ∧ Upd [] w w') rfl [.int .u64 0] l.length rfl ⟨0, rfl, by omega, by omega, rfl, hi1, hu1⟩ ?_
      rintro _ w2 m ⟨p, rfl, hp, rfl, hall, hI, hU⟩
      have hlt10 : valL (l.take p) < 10 ^ 10 := Nat.lt_of_lt_of_le (valL_lt _ hall) (Nat.pow_le_pow_right (by omega) (by simp; omega))
      by_cases hend : p < l.length
      · refine nx1 hI (by rw [by8_size]; exact hend) fun w3 hI3 hu3 hs3 => ?_
        have hU3 := hU.step hu3 (by simp)
        have hpb : p < (by8 l).size := by rw [by8_size]; exact hend
        have hnat : ∀ c : UInt8, l.getD p 0 = c → True := fun _ _ => trivial
        by_cases hasc : (l.getD p 0).toNat < 128
        · have hdec : Utf8.decode (by8 l) p = ((l.getD p 0).toNat, 1) := by
            have := decode_ascii (by8 l) p hpb (by rw [by8_at]; exact hasc)
            rw [by8_at] at this
            exact this
          rw [hdec] at hI3 ⊢
          have htake : l.take (p + 1) = l.take p ++ [l.getD p 0] := by rw [List.take_add_one]; simp [List.getD, hend]
          have nope : ¬ (48 ≤ (l.getD p 0).toNat ∧ (l.getD p 0).toNat ≤ 57) → badN l := fun hn => .inr (.inr (.inr (by
            rw [List.all_eq_false]
            exact ⟨l.getD p 0, by simp [List.getD, hend], by rw [isD_iff]; exact hn⟩)))
          refine cd (fun h48 => ?_) (fun h48 => ?_)
          · exact ⟨by rw [numV_bad (nope (by omega))]; rfl, hU3⟩
          refine cd (fun h57 => ?_) (fun h57 => ?_)
          · exact ⟨by rw [numV_bad (nope (by omega))]; rfl, hU3⟩
          refine arU (by omega) ?_
          refine val (((l.getD p 0).toNat - 48 : Nat) : Int) (by rw [show IntKind.i32.wrap (((l.getD p 0).toNat : Int) - 48) = ((l.getD p 0).toNat : Int) - 48 from by rw [IntKind.wrap_i32]; omega]; omega) ?_
          refine cv ?_
          refine arU (by omega) ?_
          refine arU (by omega) ?_
          refine round_mk [.int .u64 (valL (l.take (p + 1)) : Int)] (l.length - (p + 1)) rfl (by rw [htake, valL_snoc]; rfl) ?_ (by omega)
          refine ⟨p + 1, rfl, by omega, rfl, ?_, hI3, hU3⟩
          rw [htake, List.all_append, hall]
          simp only [List.all_cons, List.all_nil, Bool.and_true, Bool.true_and]
          rw [isD_iff]; omega
        · have hhigh := (decode_high (by8 l) p hpb (by rw [by8_at]; omega)).1
          refine cd (fun h48 => by omega) (fun h48 => ?_)
          refine cd (fun h57 => ?_) (fun h57 => by omega)
          refine ⟨?_, hU3⟩
          rw [numV_bad (.inr (.inr (.inr (by
            rw [List.all_eq_false]
            exact ⟨l.getD p 0, by simp [List.getD, hend], by rw [isD_iff]; omega⟩))))]
          rfl
      · refine nx0 hI (by rw [by8_size]; exact hend) ?_
        have hp : p = l.length := by omega
        subst hp
        rw [List.take_length] at hall hlt10 ⊢
        refine cv ?_
        refine val ((valL l % 4294967296 : Nat) : Int) (by rw [IntKind.wrap_u32]; omega) ?_
        refine ⟨?_, hU⟩
        unfold numV
        rw [if_neg (fun hb => by rcases hb with h | h | h | h <;> first | exact hne h | exact hz h | omega | (rw [hall] at h; cases h))]
        have e : decide ((valL l : Int) ≤ 4294967295) = decide (valL l ≤ 4294967295) := by apply decide_eq_decide.2; omega
        show Value.tuple #[_, .bool (decide ((valL l : Int) ≤ 4294967295))] = _
        rw [e]
  · rw [by8_size] at h1
    have hz := hb (by omega)
    clear hb
    refine rg fun w1 hi1 hu1 hs1 => ?_
    refine loop_rule [25] [4] (fun vs w' m => ∃ p : Nat, vs = [.int .u64 (valL (l.take p) : Int)] ∧ p ≤ l.length ∧ m = l.length - p ∧ (l.take p).all isD = true ∧ Itr w' w.heap.size (by8 l) p ∧ Upd [] w w') rfl [.int .u64 0] l.length rfl ⟨0, rfl, by omega, by omega, rfl, hi1, hu1⟩ ?_
    rintro _ w2 m ⟨p, rfl, hp, rfl, hall, hI, hU⟩
    have hlt10 : valL (l.take p) < 10 ^ 10 := Nat.lt_of_lt_of_le (valL_lt _ hall) (Nat.pow_le_pow_right (by omega) (by simp; omega))
    by_cases hend : p < l.length
    · refine nx1 hI (by rw [by8_size]; exact hend) fun w3 hI3 hu3 hs3 => ?_
      have hU3 := hU.step hu3 (by simp)
      have hpb : p < (by8 l).size := by rw [by8_size]; exact hend
      have hnat : ∀ c : UInt8, l.getD p 0 = c → True := fun _ _ => trivial
      by_cases hasc : (l.getD p 0).toNat < 128
      · have hdec : Utf8.decode (by8 l) p = ((l.getD p 0).toNat, 1) := by
          have := decode_ascii (by8 l) p hpb (by rw [by8_at]; exact hasc)
          rw [by8_at] at this
          exact this
        rw [hdec] at hI3 ⊢
        have htake : l.take (p + 1) = l.take p ++ [l.getD p 0] := by rw [List.take_add_one]; simp [List.getD, hend]
        have nope : ¬ (48 ≤ (l.getD p 0).toNat ∧ (l.getD p 0).toNat ≤ 57) → badN l := fun hn => .inr (.inr (.inr (by
          rw [List.all_eq_false]
          exact ⟨l.getD p 0, by simp [List.getD, hend], by rw [isD_iff]; exact hn⟩)))
        refine cd (fun h48 => ?_) (fun h48 => ?_)
        · exact ⟨by rw [numV_bad (nope (by omega))]; rfl, hU3⟩
        refine cd (fun h57 => ?_) (fun h57 => ?_)
        · exact ⟨by rw [numV_bad (nope (by omega))]; rfl, hU3⟩
        refine arU (by omega) ?_
        refine val (((l.getD p 0).toNat - 48 : Nat) : Int) (by rw [show IntKind.i32.wrap (((l.getD p 0).toNat : Int) - 48) = ((l.getD p 0).toNat : Int) - 48 from by rw [IntKind.wrap_i32]; omega]; omega) ?_
        refine cv ?_
        refine arU (by omega) ?_
        refine arU (by omega) ?_
        refine round_mk [.int .u64 (valL (l.take (p + 1)) : Int)] (l.length - (p + 1)) rfl (by rw [htake, valL_snoc]; rfl) ?_ (by omega)
        refine ⟨p + 1, rfl, by omega, rfl, ?_, hI3, hU3⟩
        rw [htake, List.all_append, hall]
        simp only [List.all_cons, List.all_nil, Bool.and_true, Bool.true_and]
        rw [isD_iff]; omega
      · have hhigh := (decode_high (by8 l) p hpb (by rw [by8_at]; omega)).1
        refine cd (fun h48 => by omega) (fun h48 => ?_)
        refine cd (fun h57 => ?_) (fun h57 => by omega)
        refine ⟨?_, hU3⟩
        rw [numV_bad (.inr (.inr (.inr (by
          rw [List.all_eq_false]
          exact ⟨l.getD p 0, by simp [List.getD, hend], by rw [isD_iff]; omega⟩))))]
        rfl
    · refine nx0 hI (by rw [by8_size]; exact hend) ?_
      have hp : p = l.length := by omega
      subst hp
      rw [List.take_length] at hall hlt10 ⊢
      refine cv ?_
      refine val ((valL l % 4294967296 : Nat) : Int) (by rw [IntKind.wrap_u32]; omega) ?_
      refine ⟨?_, hU⟩
      unfold numV
      rw [if_neg (fun hb => by rcases hb with h | h | h | h <;> first | exact hne h | exact hz h | omega | (rw [hall] at h; cases h))]
      have e : decide ((valL l : Int) ≤ 4294967295) = decide (valL l ≤ 4294967295) := by apply decide_eq_decide.2; omega
      show Value.tuple #[_, .bool (decide ((valL l : Int) ≤ 4294967295))] = _
      rw [e]
end Go.Proofs.Ytejofmohpjffkaa
