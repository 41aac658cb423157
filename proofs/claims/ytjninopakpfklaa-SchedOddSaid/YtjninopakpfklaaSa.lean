/- Plain facts on how many interleavings there are; whatever the program. -/
import Derived.Test.YtjninopakpfklaaV12
namespace Go.Proofs.Ytjninopakpfklaa

/-- in how many ways k can be chosen of n -/
def ch : Nat → Nat → Nat
  | _, 0 => 1
  | 0, _ + 1 => 0
  | n + 1, k + 1 => ch n k + ch n (k + 1)
theorem ch_zero (n : Nat) : ch n 0 = 1 := by cases n <;> rfl
theorem ch_gt : ∀ n k, n < k → ch n k = 0
  | 0, k + 1, _ => rfl
  | n + 1, k + 1, h => by
    show ch n k + ch n (k + 1) = 0
    rw [ch_gt n k (by omega), ch_gt n (k + 1) (by omega)]
theorem ch_self : ∀ n, ch n n = 1
  | 0 => rfl
  | n + 1 => by
    show ch n n + ch n (n + 1) = 1
    rw [ch_self n, ch_gt n (n + 1) (by omega)]
theorem ch_mul : ∀ n k, ch n (k + 1) * (k + 1) = ch n k * (n - k)
  | 0, k => by
    show 0 * (k + 1) = ch 0 k * (0 - k)
    rw [Nat.zero_sub, Nat.zero_mul, Nat.mul_zero]
  | n + 1, 0 => by
    show (ch n 0 + ch n 1) * 1 = ch (n + 1) 0 * (n + 1)
    have h3 : ch n 1 = n := by
      have := ch_mul n 0
      rw [ch_zero, Nat.one_mul] at this
      simpa using this
    rw [ch_zero, ch_zero, h3]
    omega
  | n + 1, k + 1 => by
    show (ch n (k + 1) + ch n (k + 2)) * (k + 2) = (ch n k + ch n (k + 1)) * (n + 1 - (k + 1))
    have h1 := ch_mul n (k + 1)
    have h2 := ch_mul n k
    rw [show n + 1 - (k + 1) = n - k by omega, Nat.add_mul, Nat.add_mul, h1, ← h2, ← Nat.mul_add, ← Nat.mul_add]
    by_cases h : k + 1 ≤ n
    · congr 1; omega
    · rw [ch_gt n (k + 1) (by omega)]; simp
theorem ch_step (n i : Nat) : ch n i * (n - i) / (i + 1) = ch n (i + 1) := by
  rw [← ch_mul]; exact Nat.mul_div_cancel _ (by omega)
theorem ch_le : ∀ n k, ch n k ≤ 2 ^ n
  | n, 0 => by rw [ch_zero]; exact Nat.one_le_two_pow
  | 0, k + 1 => by show 0 ≤ _; omega
  | n + 1, k + 1 => by
    show ch n k + ch n (k + 1) ≤ _
    have h1 := ch_le n k
    have h2 := ch_le n (k + 1)
    rw [Nat.pow_succ]; omega
/-- how many interleavings, some having been laid -/
def mn : Nat → List Nat → Nat
  | _, [] => 1
  | s, k :: r => ch (s + k) k * mn (s + k) r
def dec1 (c : List Nat) (t : Nat) : List Nat := c.set t (c.getD t 0 - 1)
theorem dec1_len (c : List Nat) (t : Nat) : (dec1 c t).length = c.length := by simp [dec1]
def sd : Nat → List Nat → Nat
  | _, [] => 0
  | s, k :: r => (if 0 < k then mn s ((k - 1) :: r) else 0) + ch (s + k) k * sd (s + k) r
theorem pascal (s k : Nat) (h : 0 < s + k) : ch (s + k) k = (if 0 < s then ch (s - 1 + k) k else 0) + (if 0 < k then ch (s + k - 1) (k - 1) else 0) := by
  cases k with
  | zero =>
    cases s with
    | zero => omega
    | succ s => simp [ch_zero]
  | succ k =>
    cases s with
    | zero =>
      have : ch (k + 1) (k + 1) = ch k k + ch k (k + 1) := rfl
      simp [this, ch_gt k (k + 1) (by omega)]
    | succ s =>
      have e : ch (s + 1 + (k + 1)) (k + 1) = ch (s + 1 + k) k + ch (s + 1 + k) (k + 1) := rfl
      rw [e, if_pos (by omega), if_pos (by omega)]
      rw [show s + 1 - 1 + (k + 1) = s + 1 + k by omega, show s + 1 + (k + 1) - 1 = s + 1 + k by omega, show k + 1 - 1 = k by omega]
      omega
theorem mn_sum : ∀ (c : List Nat) (s : Nat), 0 < s + c.sum → mn s c = (if 0 < s then mn (s - 1) c else 0) + sd s c
  | [], s, h => by
    have : 0 < s := by simpa using h
    simp [mn, sd, this]
  | k :: r, s, h => by
    by_cases hk : 0 < s + k
    · have ih := mn_sum r (s + k) (by omega)
      rw [if_pos hk] at ih
      show ch (s + k) k * mn (s + k) r = (if 0 < s then ch (s - 1 + k) k * mn (s - 1 + k) r else 0) + ((if 0 < k then ch (s + (k - 1)) (k - 1) * mn (s + (k - 1)) r else 0) + ch (s + k) k * sd (s + k) r)
      have hp := pascal s k hk
      rw [ih, Nat.mul_add]
      conv => lhs; arg 1; rw [hp]
      rw [Nat.add_mul, ← Nat.add_assoc]
      congr 1
      congr 1
      · by_cases h1 : 0 < s
        · rw [if_pos h1, if_pos h1, show s + k - 1 = s - 1 + k by omega]
        · rw [if_neg h1, if_neg h1, Nat.zero_mul]
      · by_cases h1 : 0 < k
        · rw [if_pos h1, if_pos h1, show s + (k - 1) = s + k - 1 by omega]
        · rw [if_neg h1, if_neg h1, Nat.zero_mul]
    · have hs : s = 0 := by omega
      have hk0 : k = 0 := by omega
      subst hs; subst hk0
      have ih := mn_sum r 0 (by simpa using h)
      show ch (0 + 0) 0 * mn (0 + 0) r = _
      rw [show (0 + 0 : Nat) = 0 from rfl, ih]
      simp [sd, ch_zero]
/-- those that begin with thread t -/
def wt (c : List Nat) (t : Nat) : Nat := if c.getD t 0 = 0 then 0 else mn 0 (dec1 c t)
def pre (c : List Nat) (t : Nat) : Nat := ((List.range t).map (wt c)).sum
theorem pre_succ (c : List Nat) (t : Nat) : pre c (t + 1) = pre c t + wt c t := by simp [pre, List.range_succ]
theorem sd_eq : ∀ (c : List Nat) (s : Nat), sd s c = ((List.range c.length).map fun t => if c.getD t 0 = 0 then 0 else mn s (dec1 c t)).sum
  | [], _ => rfl
  | k :: r, s => by
    rw [List.length_cons, List.range_succ_eq_map, List.map_cons, List.sum_cons, List.map_map]
    show (if 0 < k then mn s ((k - 1) :: r) else 0) + ch (s + k) k * sd (s + k) r = _
    rw [sd_eq r (s + k)]
    congr 1
    · show _ = if k = 0 then 0 else mn s ((k - 1) :: r)
      by_cases h : k = 0
      · rw [if_pos h, if_neg (by omega)]
      · rw [if_neg h, if_pos (by omega)]
    · have e : ∀ (l : List Nat) (f : Nat → Nat) (a : Nat), a * (l.map f).sum = (l.map fun x => a * f x).sum := by
        intro l f a
        induction l with
        | nil => simp
        | cons x l ih => simp [Nat.mul_add, ih]
      rw [e]
      congr 1
      apply List.map_congr_left
      intro t _
      show ch (s + k) k * (if r.getD t 0 = 0 then 0 else mn (s + k) (dec1 r t)) = if (k :: r).getD (t + 1) 0 = 0 then 0 else mn s (dec1 (k :: r) (t + 1))
      have h1 : (k :: r).getD (t + 1) 0 = r.getD t 0 := by simp [List.getD]
      have h2 : dec1 (k :: r) (t + 1) = k :: dec1 r t := by simp [dec1]
      rw [h1, h2]
      by_cases h : r.getD t 0 = 0
      · rw [if_pos h, if_pos h, Nat.mul_zero]
      · rw [if_neg h, if_neg h]; rfl
theorem pre_all (c : List Nat) (h : 0 < c.sum) : pre c c.length = mn 0 c := by
  have := mn_sum c 0 (by omega)
  rw [if_neg (by omega), Nat.zero_add, sd_eq] at this
  rw [this]; rfl
theorem dec1_sum : ∀ (c : List Nat) (t : Nat), c.getD t 0 ≠ 0 → (dec1 c t).sum + 1 = c.sum
  | [], t, h => by simp [List.getD] at h
  | k :: r, 0, h => by
    have h : k ≠ 0 := h
    show (k - 1) + r.sum + 1 = k + r.sum
    omega
  | k :: r, t + 1, h => by
    have h1 : r.getD t 0 ≠ 0 := by simpa [List.getD] using h
    have := dec1_sum r t h1
    show k + (dec1 r t).sum + 1 = k + r.sum
    omega
theorem getD_lt_len {c : List Nat} {t : Nat} (h : c.getD t 0 ≠ 0) : t < c.length := by
  rcases Nat.lt_or_ge t c.length with h1 | h1
  · exact h1
  · rw [List.getD_eq_getElem?_getD, List.getElem?_eq_none h1] at h; exact absurd rfl h
theorem mn_zero : ∀ (c : List Nat), c.sum = 0 → mn 0 c = 1
  | [], _ => rfl
  | k :: r, h => by
    have h0 : k = 0 ∧ r.sum = 0 := by simp only [List.sum_cons] at h; omega
    show ch (0 + k) k * mn (0 + k) r = 1
    rw [h0.1, ch_zero, mn_zero r h0.2]
theorem sum_le_len (l : List Nat) (f : Nat → Nat) (b : Nat) (h : ∀ x ∈ l, f x ≤ b) : (l.map f).sum ≤ l.length * b := by
  induction l with
  | nil => simp
  | cons x l ih =>
    have h1 := h x (by simp)
    have h2 := ih fun y hy => h y (by simp [hy])
    simp only [List.map_cons, List.sum_cons, List.length_cons, Nat.add_mul]
    omega
theorem mn_le : ∀ (n : Nat) (c : List Nat), c.sum = n → mn 0 c ≤ c.length ^ n
  | 0, c, h => by rw [mn_zero c h]; simp
  | n + 1, c, h => by
    rw [← pre_all c (by omega), Nat.pow_succ, Nat.mul_comm]
    have := sum_le_len (List.range c.length) (wt c) (c.length ^ n) fun t ht => by
      unfold wt
      split
      · omega
      · rename_i hne
        have h1 := dec1_sum c t hne
        have := mn_le n (dec1 c t) (by omega)
        rwa [dec1_len] at this
    simpa [pre] using this
theorem mn_small {c : List Nat} (h1 : c.length ≤ 6) (h2 : c.sum ≤ 20) : mn 0 c ≤ 3656158440062976 := by
  rcases Nat.eq_zero_or_pos c.length with h0 | h0
  · have := List.eq_nil_of_length_eq_zero h0
    subst this
    show 1 ≤ _
    omega
  · have := mn_le _ c rfl
    have h3 : c.length ^ c.sum ≤ 6 ^ 20 := Nat.le_trans (Nat.pow_le_pow_left h1 _) (Nat.pow_le_pow_right (by omega) h2)
    have h4 : (6 : Nat) ^ 20 = 3656158440062976 := by decide
    omega
theorem mn_pos (s : Nat) : ∀ (c : List Nat), 0 < mn s c := by
  intro c
  induction c generalizing s with
  | nil => show 0 < 1; omega
  | cons k r ih =>
    have : ∀ s k, 0 < ch (s + k) k := by
      intro s k
      induction k generalizing s with
      | zero => rw [ch_zero]; omega
      | succ k ih2 => show 0 < ch (s + k) k + ch (s + k) (k + 1); have := ih2 s; omega
    exact Nat.mul_pos (this s k) (ih _)
/-- all interleavings, in order -/
def inter : Nat → List Nat → List (List Nat)
  | 0, _ => [[]]
  | j + 1, c => (List.range c.length).flatMap fun t => if c.getD t 0 = 0 then [] else (inter j (dec1 c t)).map (t :: ·)
theorem inter_len : ∀ (n : Nat) (c : List Nat), c.sum = n → (inter n c).length = mn 0 c
  | 0, c, h => by rw [mn_zero c h]; rfl
  | n + 1, c, h => by
    rw [← pre_all c (by omega)]
    show ((List.range c.length).flatMap _).length = _
    rw [List.length_flatMap]
    unfold pre
    congr 1
    apply List.map_congr_left
    intro t _
    unfold wt
    by_cases h0 : c.getD t 0 = 0
    · rw [if_pos h0, if_pos h0]; rfl
    · rw [if_neg h0, if_neg h0, List.length_map]
      have := dec1_sum c t h0
      exact inter_len n (dec1 c t) (by omega)
theorem flat_at (f : Nat → List (List Nat)) (t k : Nat) (x : List Nat) (hk : (f t)[k]? = some x) : ∀ n, t < n → ((List.range n).flatMap f)[((List.range t).map fun i => (f i).length).sum + k]? = some x
  | 0, h => absurd h (by omega)
  | n + 1, h => by
    rw [List.range_succ, List.flatMap_append]
    have hl : ∀ m, ((List.range m).flatMap f).length = ((List.range m).map fun i => (f i).length).sum := fun m => by rw [List.length_flatMap]
    have hkl : k < (f t).length := by
      rcases Nat.lt_or_ge k (f t).length with h1 | h1
      · exact h1
      · rw [List.getElem?_eq_none h1] at hk; cases hk
    by_cases ht : t = n
    · subst ht
      rw [List.getElem?_append_right (by rw [hl]; omega), hl, Nat.add_sub_cancel_left]
      simpa using hk
    · have ih := flat_at f t k x hk n (by omega)
      rw [List.getElem?_append_left]
      · exact ih
      · rcases Nat.lt_or_ge (((List.range t).map fun i => (f i).length).sum + k) ((List.range n).flatMap f).length with h1 | h1
        · exact h1
        · rw [List.getElem?_eq_none h1] at ih; cases ih
theorem inter_at {c : List Nat} {n t k : Nat} {x : List Nat} (hs : c.sum = n + 1) (ht : c.getD t 0 ≠ 0) (hx : (inter n (dec1 c t))[k]? = some x) : (inter (n + 1) c)[pre c t + k]? = some (t :: x) := by
  have h1 := flat_at (fun t => if c.getD t 0 = 0 then [] else (inter n (dec1 c t)).map (t :: ·)) t k (t :: x) (by show (if c.getD t 0 = 0 then [] else (inter n (dec1 c t)).map (t :: ·))[k]? = _; rw [if_neg ht]; simp [hx]) c.length (getD_lt_len ht)
  have h2 : ((List.range t).map fun i => ((fun t => if c.getD t 0 = 0 then [] else (inter n (dec1 c t)).map (t :: ·)) i).length).sum = pre c t := by
    unfold pre
    congr 1
    apply List.map_congr_left
    intro i _
    unfold wt
    by_cases h0 : c.getD i 0 = 0
    · simp only [h0, if_true]; rfl
    · simp only [h0, if_false, List.length_map]
      have := dec1_sum c i h0
      exact inter_len n (dec1 c i) (by omega)
  rw [h2] at h1
  exact h1
end Go.Proofs.Ytjninopakpfklaa
