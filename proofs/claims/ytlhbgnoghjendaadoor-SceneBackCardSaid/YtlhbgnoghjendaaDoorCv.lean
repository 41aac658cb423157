/- Plain facts of digits and of texts: what is read is what is shown; whatever the program. -/
import Derived.Test.YtlhbgnoghjendaaDoorCu
namespace Go.Proofs.YtlhbgnoghjendaaDoor
open Go.RowKit

def toB (x : List Int) : List UInt8 := x.map fun n => UInt8.ofNat n.toNat
theorem str_by8 (x : List Int) : strOfNums x = by8 (toB x) := rfl
theorem toB_app (x y : List Int) : toB (x ++ y) = toB x ++ toB y := by simp [toB]
def decU (n : Nat) : List UInt8 := toB (decB n)
theorem decU_small {n : Nat} (h : n < 10) : decU n = [UInt8.ofNat (48 + n)] := by
  unfold decU
  rw [decB_small h]
  simp only [toB, List.map_cons, List.map_nil]
  rw [show (48 + (n : Int)).toNat = 48 + n by omega]
theorem decU_big {n : Nat} (h : ¬ n < 10) : decU n = decU (n / 10) ++ [UInt8.ofNat (48 + n % 10)] := by
  unfold decU
  rw [decB_big h, toB_app]
  simp only [toB, List.map_cons, List.map_nil]
  rw [show (48 + ((n % 10 : Nat) : Int)).toNat = 48 + n % 10 by omega]
theorem dig_nat (d : Nat) (h : d < 10) : (UInt8.ofNat (48 + d)).toNat = 48 + d := by rw [UInt8.toNat_ofNat']; omega
theorem dig_isD (d : Nat) (h : d < 10) : isD (UInt8.ofNat (48 + d)) = true := by rw [isD_iff, dig_nat d h]; omega
theorem decU_len (k n : Nat) (h : n < 10 ^ (k + 1)) : (decU n).length ≤ k + 1 := by
  unfold decU toB
  rw [List.length_map]
  exact decB_len k n h
theorem decU_ne (n : Nat) : decU n ≠ [] := by
  by_cases h : n < 10
  · rw [decU_small h]; simp
  · rw [decU_big h]; simp
theorem decU_isD : ∀ n, (decU n).all isD = true := by
  intro n
  induction n using Nat.strongRecOn with
  | _ n ih =>
    by_cases h : n < 10
    · rw [decU_small h]; show (isD _ && true) = true; rw [dig_isD n h]; rfl
    · rw [decU_big h, List.all_append, ih (n / 10) (by omega)]; show (true && (isD _ && true)) = true; rw [dig_isD (n % 10) (by omega)]; rfl
theorem decU_val : ∀ n, valL (decU n) = n := by
  intro n
  induction n using Nat.strongRecOn with
  | _ n ih =>
    by_cases h : n < 10
    · rw [decU_small h]; show 10 * 0 + ((UInt8.ofNat (48 + n)).toNat - 48) = n; rw [dig_nat n h]; omega
    · rw [decU_big h, valL_snoc, ih (n / 10) (by omega), dig_nat _ (by omega)]; omega
theorem decU_head : ∀ n, 1 ≤ n → (decU n).getD 0 0 ≠ 48 := by
  intro n
  induction n using Nat.strongRecOn with
  | _ n ih =>
    intro h1
    by_cases h : n < 10
    · rw [decU_small h]
      intro he
      have he : UInt8.ofNat (48 + n) = 48 := he
      have := congrArg UInt8.toNat he
      rw [dig_nat n h] at this
      have h48 : (48 : UInt8).toNat = 48 := rfl
      omega
    · rw [decU_big h]
      have := ih (n / 10) (by omega) (by omega)
      have hne := decU_ne (n / 10)
      cases hd : decU (n / 10) with
      | nil => exact absurd hd hne
      | cons c l => rw [hd] at this; exact this
theorem okN_dec {n : Nat} (h : n < 4294967296) : okN (decU n) := by
  refine ⟨?_, by rw [decU_val]; omega⟩
  rintro (h1 | h1 | h1 | h1)
  · exact decU_ne n h1
  · have := decU_len 9 n (by omega); omega
  · by_cases h10 : n < 10
    · rw [decU_small h10] at h1; simp at h1
    · exact decU_head n (by omega) h1.2
  · rw [decU_isD] at h1; cases h1
theorem dec_val_aux : ∀ (k : Nat) (a : List UInt8), a.length = k + 1 → a.all isD = true → (1 < a.length → a.getD 0 0 ≠ 48) → decU (valL a) = a ∧ (a.getD 0 0 ≠ 48 → 1 ≤ valL a)
  | 0, a, hl, hd, _ => by
    match a, hl with
    | [c], _ =>
      have hc : 48 ≤ c.toNat ∧ c.toNat ≤ 57 := (isD_iff c).1 (by simpa using hd)
      have hv : valL [c] = c.toNat - 48 := by simp [valL]
      refine ⟨?_, fun hne => ?_⟩
      · rw [hv, decU_small (by omega), show 48 + (c.toNat - 48) = c.toNat by omega, UInt8.ofNat_toNat]
      · rw [hv]
        have hne : c ≠ 48 := hne
        have : c.toNat ≠ 48 := fun he => hne (UInt8.toNat_inj.1 (by rw [he]; rfl))
        omega
  | k + 1, a, hl, hd, hh => by
    have hne : a ≠ [] := by intro he; rw [he] at hl; cases hl
    obtain ⟨a', c, rfl⟩ : ∃ a' c, a = a' ++ [c] := ⟨a.dropLast, a.getLast hne, (List.dropLast_concat_getLast hne).symm⟩
    have hl' : a'.length = k + 1 := by simpa using hl
    simp only [List.all_append, List.all_cons, List.all_nil, Bool.and_true, Bool.and_eq_true] at hd
    have hc := (isD_iff c).1 hd.2
    have hg : (a' ++ [c]).getD 0 0 = a'.getD 0 0 := by
      cases a' with
      | nil => simp at hl'
      | cons x l => rfl
    have h48 : a'.getD 0 0 ≠ 48 := by rw [← hg]; exact hh (by rw [hl]; omega)
    obtain ⟨h1, h2⟩ := dec_val_aux k a' hl' hd.1 (fun _ => h48)
    have h3 := h2 h48
    rw [valL_snoc]
    refine ⟨?_, fun _ => by omega⟩
    rw [decU_big (by omega), show (10 * valL a' + (c.toNat - 48)) / 10 = valL a' by omega, h1, show 48 + (10 * valL a' + (c.toNat - 48)) % 10 = c.toNat by omega, UInt8.ofNat_toNat]
theorem dec_val {a : List UInt8} (h : ¬ badN a) : decU (valL a) = a := by
  have h1 : a ≠ [] := fun e => h (.inl e)
  have h3 : a.all isD = true := by
    cases hb : a.all isD with
    | true => rfl
    | false => exact absurd (.inr (.inr (.inr hb))) h
  have hp := List.length_pos_iff.2 h1
  exact (dec_val_aux (a.length - 1) a (by omega) h3 (fun h2 he => h (.inr (.inr (.inl ⟨h2, he⟩))))).1
theorem okN_facts {a : List UInt8} (h : okN a) : a ≠ [] ∧ a.length ≤ 10 ∧ a.all isD = true := by
  refine ⟨fun e => h.1 (.inl e), ?_, ?_⟩
  · rcases Nat.lt_or_ge 10 a.length with h1 | h1
    · exact absurd (.inr (.inl h1)) h.1
    · exact h1
  · cases hb : a.all isD with
    | true => rfl
    | false => exact absurd (.inr (.inr (.inr hb))) h.1
theorem cutAt_dig : ∀ (d b : List UInt8), d.all isD = true → cutAt (d ++ 32 :: b) = some (d, b)
  | [], b, _ => by simp [cutAt]
  | c :: d, b, h => by
    simp only [List.all_cons, Bool.and_eq_true] at h
    have hc := (isD_iff c).1 h.1
    have hne : c ≠ 32 := fun e => by rw [e] at hc; exact absurd hc.1 (by decide)
    rw [List.cons_append]
    unfold cutAt
    rw [if_neg hne, cutAt_dig d b h.2]
    rfl
theorem pairOf_dec {k v : Nat} (hk : k < 4294967296) (hv : v < 4294967296) : pairOf (decU k ++ 32 :: decU v) = some (k, v) := by
  unfold pairOf
  rw [cutAt_dig _ _ (decU_isD k)]
  simp only
  rw [if_pos ⟨okN_dec hk, okN_dec hv⟩, decU_val, decU_val]
theorem pairOf_some {l : List UInt8} {k v : Nat} (h : pairOf l = some (k, v)) : l = decU k ++ 32 :: decU v ∧ k < 4294967296 ∧ v < 4294967296 := by
  unfold pairOf at h
  split at h
  · cases h
  · rename_i a b hc
    split at h
    · rename_i hok
      cases h
      refine ⟨?_, by have := hok.1.2; omega, by have := hok.2.2; omega⟩
      rw [dec_val hok.1.1, dec_val hok.2.1]
      exact (cutAt_some l a b hc).2
    · cases h

/-- rows of digits in a text -/
def upd9 (n : Nat) (c : UInt8) : Nat := if n < 1099511627776 then 10 * n + (c.toNat - 48) else n
def numStep (st : Bool × List Nat) (c : UInt8) : Bool × List Nat :=
  if isD c then (true, if st.1 then st.2.set (st.2.length - 1) (upd9 (st.2.getD (st.2.length - 1) 0) c) else st.2 ++ [upd9 0 c]) else (false, st.2)
def numRows (l : List UInt8) : List Nat := (l.foldl numStep (false, [])).2
theorem fold_digits : ∀ (d : List UInt8) (n j : Nat) (rs : List Nat), d.all isD = true → n < 10 ^ j → j + d.length ≤ 11 → d.foldl numStep (true, rs ++ [n]) = (true, rs ++ [d.foldl (fun n c => 10 * n + (c.toNat - 48)) n])
  | [], n, j, rs, _, _, _ => rfl
  | c :: d, n, j, rs, hd, hn, hl => by
    simp only [List.all_cons, Bool.and_eq_true] at hd
    have hc := (isD_iff c).1 hd.1
    simp only [List.length_cons] at hl
    have hp : 10 ^ j ≤ 10 ^ 10 := Nat.pow_le_pow_right (by omega) (by omega)
    have hstep : numStep (true, rs ++ [n]) c = (true, rs ++ [10 * n + (c.toNat - 48)]) := by
      unfold numStep
      rw [if_pos hd.1]
      have : (rs ++ [n]).getD ((rs ++ [n]).length - 1) 0 = n := by simp [List.getD]
      simp only [if_true]
      rw [this, upd9, if_pos (by omega)]
      simp
    rw [List.foldl_cons, hstep, fold_digits d _ (j + 1) rs hd.2 (by rw [Nat.pow_succ]; omega) (by omega)]
    rfl
theorem fold_num {a : List UInt8} (rs : List Nat) (h1 : a ≠ []) (h2 : a.length ≤ 10) (h3 : a.all isD = true) : a.foldl numStep (false, rs) = (true, rs ++ [valL a]) := by
  cases a with
  | nil => exact absurd rfl h1
  | cons c d =>
    simp only [List.all_cons, Bool.and_eq_true] at h3
    have hc := (isD_iff c).1 h3.1
    have hstep : numStep (false, rs) c = (true, rs ++ [10 * 0 + (c.toNat - 48)]) := by
      unfold numStep
      rw [if_pos h3.1]
      rfl
    simp only [List.length_cons] at h2
    rw [List.foldl_cons, hstep, fold_digits d _ 1 rs h3.2 (by omega) (by omega)]
    rfl
theorem numRows_two (p : List UInt8) {a b : List UInt8} (hp : p.foldl numStep (false, []) = (false, [])) (ha : okN a) (hb : okN b) : numRows (p ++ (a ++ 32 :: b)) = [valL a, valL b] := by
  obtain ⟨a1, a2, a3⟩ := okN_facts ha
  obtain ⟨b1, b2, b3⟩ := okN_facts hb
  unfold numRows
  rw [List.foldl_append, hp, List.foldl_append, fold_num [] a1 a2 a3, List.foldl_cons]
  have : numStep (true, [] ++ [valL a]) 32 = (false, [valL a]) := rfl
  rw [this, fold_num _ b1 b2 b3]
  rfl
def p7 : List UInt8 := [105, 110, 115, 101, 114, 116, 32]
def s_del : List UInt8 := [100, 101, 108, 101, 116, 101, 109, 105, 110]
def s_peek : List UInt8 := [112, 101, 101, 107, 109, 105, 110]
def parseR (l : List UInt8) : Option (Int × Int × Int) :=
  if l = s_del then some (1, 0, 0) else if l = s_peek then some (2, 0, 0) else if l.take 7 = p7 then (pairOf (l.drop 7)).map fun p => (0, (p.1 : Int), (p.2 : Int)) else none
def twoR (l : List UInt8) : Option (Nat × Nat) :=
  if (numRows l).length = 2 ∧ (numRows l).getD 0 0 ≤ 4294967295 ∧ (numRows l).getD 1 0 ≤ 4294967295 then some ((numRows l).getD 0 0, (numRows l).getD 1 0) else none
theorem twoR_lt {l : List UInt8} {k v : Nat} (h : twoR l = some (k, v)) : k < 4294967296 ∧ v < 4294967296 := by
  unfold twoR at h
  split at h
  · cases h; omega
  · cases h
def checkR (l : List UInt8) (o : Int) (shown : Nat → Nat → List Int) : Option (Int × Int × Int) :=
  match twoR l with
  | some (k, v) => if toB (shown k v) = l then some (o, (k : Int), (v : Int)) else none
  | none => none
def rparseR (l : List UInt8) : Option (Int × Int × Int) :=
  if l = s_del then some (1, 0, 0) else if l = s_peek then some (2, 0, 0) else checkR l 0 (showL 0)
def rreadR (l : List UInt8) : Option (Int × Int × Int) :=
  if l = s_done then some (0, 0, 0) else if l = s_full then some (1, 0, 0) else if l = s_empty then some (3, 0, 0) else checkR l 2 (tellL 2)
theorem show0 (k v : Nat) : toB (showL 0 k v) = p7 ++ (decU k ++ 32 :: decU v) := by
  unfold showL
  rw [if_neg (by simp [rightCall]), if_neg (by decide), if_neg (by decide)]
  simp only [toB_app, decU, List.append_assoc]
  rfl
theorem tell2 (k v : Nat) : toB (tellL 2 k v) = decU k ++ 32 :: decU v := by
  unfold tellL
  rw [if_neg (by simp [rightAns]), if_neg (by decide), if_neg (by decide), if_neg (by decide)]
  simp only [toB_app, decU, List.append_assoc]
  rfl
theorem check_eq (p : List UInt8) (hp : p.foldl numStep (false, []) = (false, [])) (l : List UInt8) (o : Int) (shown : Nat → Nat → List Int) (hs : ∀ k v, toB (shown k v) = p ++ (decU k ++ 32 :: decU v)) :
    checkR l o shown = if l.take p.length = p then (pairOf (l.drop p.length)).map fun x => (o, (x.1 : Int), (x.2 : Int)) else none := by
  unfold checkR
  split
  · rename_i k v ht
    obtain ⟨hk, hv⟩ := twoR_lt ht
    split
    · rename_i he
      rw [hs] at he
      rw [← he, if_pos (by simp), List.drop_left, pairOf_dec hk hv]
      rfl
    · rename_i hne
      split
      · rename_i hpre
        cases hpo : pairOf (l.drop p.length) with
        | none => rfl
        | some q =>
          obtain ⟨k', v'⟩ := q
          obtain ⟨he, hk', hv'⟩ := pairOf_some hpo
          have hl : l = p ++ (decU k' ++ 32 :: decU v') := by rw [← he]; conv => lhs; rw [← List.take_append_drop p.length l, hpre]
          have hr := numRows_two p hp (okN_dec hk') (okN_dec hv')
          rw [← hl, decU_val, decU_val] at hr
          unfold twoR at ht
          rw [hr] at ht
          simp at ht
          obtain ⟨_, rfl, rfl⟩ := ht
          exact absurd (by rw [hs, ← hl]) hne
      · rfl
  · rename_i ht
    split
    · rename_i hpre
      cases hpo : pairOf (l.drop p.length) with
      | none => rfl
      | some q =>
        obtain ⟨k', v'⟩ := q
        obtain ⟨he, hk', hv'⟩ := pairOf_some hpo
        have hl : l = p ++ (decU k' ++ 32 :: decU v') := by rw [← he]; conv => lhs; rw [← List.take_append_drop p.length l, hpre]
        have hr := numRows_two p hp (okN_dec hk') (okN_dec hv')
        rw [← hl, decU_val, decU_val] at hr
        unfold twoR at ht
        rw [hr] at ht
        simp at ht
        omega
    · rfl
theorem rparse_eq (l : List UInt8) : rparseR l = parseR l := by
  unfold rparseR parseR
  rw [check_eq p7 (by decide +kernel) l 0 (showL 0) show0]
  rfl
theorem rread_eq (l : List UInt8) : rreadR l = readR l := by
  unfold rreadR readR
  rw [check_eq [] rfl l 2 (tellL 2) tell2]
  simp
/-- what is shown is read -/
theorem parse_show {o : Int} {k v : Nat} (hk : k < 4294967296) (hv : v < 4294967296) (h : rightCall o k v) : parseR (toB (showL o k v)) = some (o, (k : Int), (v : Int)) := by
  by_cases h0 : o = 0
  · subst h0
    rw [show0]
    unfold parseR
    rw [if_neg (by intro he; exact absurd (congrArg (fun l => l.getD 0 0) he) (by simp [p7, s_del])), if_neg (by intro he; exact absurd (congrArg (fun l => l.getD 0 0) he) (by simp [p7, s_peek])), if_pos (show List.take 7 (p7 ++ (decU k ++ 32 :: decU v)) = p7 from rfl)]
    rw [show (p7 ++ (decU k ++ 32 :: decU v)).drop 7 = decU k ++ 32 :: decU v from rfl, pairOf_dec hk hv]
    rfl
  · rcases h with h | ⟨h | h, hk0, hv0⟩
    · exact absurd h h0
    · obtain rfl : k = 0 := by omega
      obtain rfl : v = 0 := by omega
      subst h
      rfl
    · obtain rfl : k = 0 := by omega
      obtain rfl : v = 0 := by omega
      subst h
      rfl
theorem read_tell {o : Int} {k v : Nat} (hk : k < 4294967296) (hv : v < 4294967296) (h : rightAns o k v) : readR (toB (tellL o k v)) = some (o, (k : Int), (v : Int)) := by
  by_cases h2 : o = 2
  · subst h2
    have hd : ∀ (s : List UInt8), isD (s.getD 0 0) = false → decU k ++ 32 :: decU v ≠ s := by
      intro s hs he
      have h1 := decU_isD k
      have hne := decU_ne k
      cases hd : decU k with
      | nil => exact hne hd
      | cons c l =>
        rw [hd] at he h1
        rw [← he] at hs
        simp only [List.all_cons, Bool.and_eq_true] at h1
        have hs : isD c = false := hs
        rw [h1.1] at hs
        cases hs
    rw [tell2]
    unfold readR
    rw [if_neg (hd _ (by decide)), if_neg (hd _ (by decide)), if_neg (hd _ (by decide)), pairOf_dec hk hv]
    rfl
  · rcases h with h | ⟨h | h | h, hk0, hv0⟩
    · exact absurd h h2
    all_goals
      obtain rfl : k = 0 := by omega
      obtain rfl : v = 0 := by omega
      subst h
      rfl
end Go.Proofs.YtlhbgnoghjendaaDoor
