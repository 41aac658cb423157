/- Plain facts on places of interleavings, and on the next one. -/
import Derived.Test.YtjninopakpfklaaSc
namespace Go.Proofs.Ytjninopakpfklaa

def cntN (l : List Nat) (n : Nat) : List Nat := (List.range n).map fun i => l.count i
@[simp] theorem cntN_len (l : List Nat) (n : Nat) : (cntN l n).length = n := by simp [cntN]
theorem cntN_getD {l : List Nat} {n i : Nat} (h : i < n) : (cntN l n).getD i 0 = l.count i := by simp [cntN, List.getD, h]
theorem cntN_perm {u v : List Nat} (h : u.Perm v) (n : Nat) : cntN u n = cntN v n := by
  unfold cntN
  apply List.map_congr_left
  intro i _
  exact h.count_eq i
theorem list_ext_getD {a b : List Nat} (hl : a.length = b.length) (h : ∀ i, i < a.length → a.getD i 0 = b.getD i 0) : a = b := by
  apply List.ext_getElem hl
  intro i h1 h2
  have := h i h1
  simpa [List.getD, h1, h2] using this
theorem dec1_getD {c : List Nat} {t i : Nat} (ht : t < c.length) : (dec1 c t).getD i 0 = if i = t then c.getD t 0 - 1 else c.getD i 0 := by
  unfold dec1
  by_cases h : i = t
  · subst h; simp [List.getD, ht]
  · rw [if_neg h]; simp [List.getD, List.getElem?_set_ne (Ne.symm h)]
theorem cntN_cons {t : Nat} {r : List Nat} {n : Nat} (ht : t < n) : dec1 (cntN (t :: r) n) t = cntN r n := by
  apply list_ext_getD
  · simp [dec1_len]
  · intro i hi
    have hi : i < n := by simpa [dec1_len] using hi
    rw [dec1_getD (by simpa using ht), cntN_getD ht, cntN_getD hi, cntN_getD hi]
    by_cases h : i = t
    · subst h; rw [if_pos rfl]; simp
    · rw [if_neg h, List.count_cons_of_ne (Ne.symm h)]
theorem cntN_head {t : Nat} {r : List Nat} {n : Nat} (ht : t < n) : (cntN (t :: r) n).getD t 0 ≠ 0 := by rw [cntN_getD ht]; simp
theorem cntN_sum : ∀ (l : List Nat) (n : Nat), (∀ x ∈ l, x < n) → (cntN l n).sum = l.length
  | [], n, _ => by
    have : ∀ k, ((List.range k).map fun i => ([] : List Nat).count i).sum = 0 := by
      intro k
      induction k with
      | zero => rfl
      | succ k ih => rw [List.range_succ, List.map_append, List.sum_append, ih]; simp
    exact this n
  | t :: r, n, h => by
    have ht := h t (by simp)
    have h1 := dec1_sum (cntN (t :: r) n) t (cntN_head ht)
    rw [cntN_cons ht, cntN_sum r n fun x hx => h x (by simp [hx])] at h1
    simp only [List.length_cons]; omega
def rankL (n : Nat) : List Nat → Nat
  | [] => 0
  | t :: r => pre (cntN (t :: r) n) t + rankL n r
theorem rank_at : ∀ (l : List Nat) (n : Nat), (∀ x ∈ l, x < n) → (inter l.length (cntN l n))[rankL n l]? = some l
  | [], n, _ => rfl
  | t :: r, n, h => by
    have ht := h t (by simp)
    have hr : ∀ x ∈ r, x < n := fun x hx => h x (by simp [hx])
    exact inter_at (by rw [cntN_sum _ _ h]; rfl) (cntN_head ht) (by rw [cntN_cons ht]; exact rank_at r n hr)
theorem rank_lt {l : List Nat} {n : Nat} (h : ∀ x ∈ l, x < n) : rankL n l < mn 0 (cntN l n) := by
  have h1 := rank_at l n h
  have h2 := inter_len l.length (cntN l n) (cntN_sum l n h)
  rcases Nat.lt_or_ge (rankL n l) (mn 0 (cntN l n)) with h3 | h3
  · exact h3
  · rw [List.getElem?_eq_none (by omega)] at h1; cases h1
theorem flat_inv (f : Nat → List (List Nat)) (x : List Nat) : ∀ (n k : Nat), ((List.range n).flatMap f)[k]? = some x → ∃ t k', t < n ∧ k = ((List.range t).map fun i => (f i).length).sum + k' ∧ (f t)[k']? = some x
  | 0, k, h => by simp at h
  | n + 1, k, h => by
    rw [List.range_succ, List.flatMap_append] at h
    have hl : ((List.range n).flatMap f).length = ((List.range n).map fun i => (f i).length).sum := by rw [List.length_flatMap]
    rcases Nat.lt_or_ge k ((List.range n).flatMap f).length with hk | hk
    · rw [List.getElem?_append_left hk] at h
      obtain ⟨t, k', h1, h2, h3⟩ := flat_inv f x n k h
      exact ⟨t, k', by omega, h2, h3⟩
    · rw [List.getElem?_append_right hk] at h
      refine ⟨n, k - ((List.range n).flatMap f).length, by omega, by rw [← hl]; omega, by simpa using h⟩
theorem inter_inv {c : List Nat} {n k : Nat} {x : List Nat} (hs : c.sum = n + 1) (hx : (inter (n + 1) c)[k]? = some x) : ∃ t k' y, x = t :: y ∧ c.getD t 0 ≠ 0 ∧ k = pre c t + k' ∧ (inter n (dec1 c t))[k']? = some y := by
  obtain ⟨t, k', h1, h2, h3⟩ := flat_inv (fun t => if c.getD t 0 = 0 then [] else (inter n (dec1 c t)).map (t :: ·)) x c.length k hx
  by_cases h0 : c.getD t 0 = 0
  · simp only [h0, if_true] at h3; simp at h3
  · have h3 : ((inter n (dec1 c t)).map (t :: ·))[k']? = some x := by simpa only [h0, if_false] using h3
    rw [List.getElem?_map] at h3
    cases hy : (inter n (dec1 c t))[k']? with
    | none => rw [hy] at h3; cases h3
    | some y =>
      rw [hy] at h3
      have h3 : some (t :: y) = some x := h3
      cases h3
      refine ⟨t, k', y, rfl, h0, ?_, hy⟩
      rw [h2]
      congr 1
      unfold pre
      congr 1
      apply List.map_congr_left
      intro i _
      unfold wt
      by_cases hi : c.getD i 0 = 0
      · simp only [hi, if_true]; rfl
      · simp only [hi, if_false, List.length_map]
        have := dec1_sum c i hi
        exact inter_len n (dec1 c i) (by omega)
theorem zero_all : ∀ (c : List Nat), c.sum = 0 → ∀ i, c.getD i 0 = 0
  | [], _, i => by simp [List.getD]
  | k :: r, h, 0 => by simp only [List.sum_cons] at h; show k = 0; omega
  | k :: r, h, i + 1 => by
    have := zero_all r (by simp only [List.sum_cons] at h; omega) i
    simpa [List.getD] using this
theorem inter_cnt : ∀ (j : Nat) (c : List Nat) (k : Nat) (x : List Nat), c.sum = j → (inter j c)[k]? = some x → cntN x c.length = c ∧ rankL c.length x = k ∧ x.length = j ∧ ∀ y ∈ x, y < c.length
  | 0, c, k, x, hs, hx => by
    have hx : [[]][k]? = some x := hx
    cases k with
    | zero =>
      have hx : some [] = some x := hx
      cases hx
      refine ⟨?_, rfl, rfl, by simp⟩
      apply list_ext_getD (by simp)
      intro i hi
      rw [cntN_getD (by simpa using hi), zero_all c hs]
      rfl
    | succ k => simp at hx
  | j + 1, c, k, x, hs, hx => by
    obtain ⟨t, k', y, rfl, h0, hk, hy⟩ := inter_inv hs hx
    have htl := getD_lt_len h0
    have hd := dec1_sum c t h0
    obtain ⟨h1, h2, h3, h4⟩ := inter_cnt j (dec1 c t) k' y (by omega) hy
    rw [dec1_len] at h1 h2 h4
    have hc : cntN (t :: y) c.length = c := by
      apply list_ext_getD (by simp)
      intro i hi
      have hi : i < c.length := by simpa using hi
      rw [cntN_getD hi]
      have h5 := congrArg (fun l => l.getD i 0) h1
      simp only [cntN_getD hi, dec1_getD htl] at h5
      by_cases hit : i = t
      · subst hit
        rw [if_pos rfl] at h5
        rw [List.count_cons_self, h5]; omega
      · rw [if_neg hit] at h5
        rw [List.count_cons_of_ne (Ne.symm hit)]; exact h5
    refine ⟨hc, ?_, by simp [h3], ?_⟩
    · show pre (cntN (t :: y) c.length) t + rankL c.length y = k
      rw [hc, h2, hk]
    · intro z hz
      rcases List.mem_cons.1 hz with rfl | hz
      · exact htl
      · exact h4 z hz
theorem rank_prefix {u v : List Nat} (n : Nat) (h : u.Perm v) : ∀ (p : List Nat), rankL n (p ++ u) + rankL n v = rankL n (p ++ v) + rankL n u
  | [] => by simp only [List.nil_append]; omega
  | t :: p => by
    have ih := rank_prefix n h p
    have hc : cntN (t :: (p ++ u)) n = cntN (t :: (p ++ v)) n := cntN_perm ((h.append_left p).cons t) n
    show pre (cntN (t :: (p ++ u)) n) t + rankL n (p ++ u) + rankL n v = pre (cntN (t :: (p ++ v)) n) t + rankL n (p ++ v) + rankL n u
    rw [hc]; omega
theorem pre_gap {c : List Nat} {a : Nat} : ∀ (b : Nat), a < b → (∀ i, a < i → i < b → c.getD i 0 = 0) → pre c b = pre c (a + 1)
  | 0, h, _ => absurd h (by omega)
  | b + 1, h, hz => by
    by_cases hb : b = a
    · rw [hb]
    · rw [pre_succ, pre_gap b (by omega) (fun i h1 h2 => hz i h1 (by omega)), wt, if_pos (hz b (by omega) (by omega))]; rfl
theorem pre_low {c : List Nat} : ∀ (t : Nat), (∀ i, i < t → c.getD i 0 = 0) → pre c t = 0
  | 0, _ => rfl
  | t + 1, h => by rw [pre_succ, pre_low t (fun i hi => h i (by omega)), wt, if_pos (h t (by omega))]
theorem desc_rank : ∀ (s : List Nat) (n : Nat), (∀ x ∈ s, x < n) → s.Pairwise (· ≥ ·) → rankL n s + 1 = mn 0 (cntN s n)
  | [], n, _, _ => by
    rw [mn_zero _ (cntN_sum [] n (by simp))]; rfl
  | t :: r, n, h, hp => by
    have ht := h t (by simp)
    have hr : ∀ x ∈ r, x < n := fun x hx => h x (by simp [hx])
    rw [List.pairwise_cons] at hp
    have ih := desc_rank r n hr hp.2
    have hall := pre_all (cntN (t :: r) n) (by rw [cntN_sum _ _ h]; simp)
    rw [cntN_len] at hall
    have hz : ∀ i, t < i → (cntN (t :: r) n).getD i 0 = 0 := by
      intro i hi
      by_cases hin : i < n
      · rw [cntN_getD hin, List.count_eq_zero]
        intro hm
        rcases List.mem_cons.1 hm with rfl | hm
        · omega
        · have := hp.1 i hm; omega
      · rw [List.getD_eq_getElem?_getD, List.getElem?_eq_none (by simpa using hin)]; rfl
    have hg := pre_gap (c := cntN (t :: r) n) (a := t) n ht (fun i h1 _ => hz i h1)
    rw [pre_succ, wt, if_neg (cntN_head ht), cntN_cons ht] at hg
    show pre (cntN (t :: r) n) t + rankL n r + 1 = _
    omega
theorem asc_rank : ∀ (s : List Nat) (n : Nat), (∀ x ∈ s, x < n) → s.Pairwise (· ≤ ·) → rankL n s = 0
  | [], n, _, _ => rfl
  | t :: r, n, h, hp => by
    have ht := h t (by simp)
    rw [List.pairwise_cons] at hp
    show pre (cntN (t :: r) n) t + rankL n r = 0
    rw [asc_rank r n (fun x hx => h x (by simp [hx])) hp.2, pre_low]
    intro i hi
    rw [cntN_getD (by omega), List.count_eq_zero]
    intro hm
    rcases List.mem_cons.1 hm with rfl | hm
    · omega
    · have := hp.1 i hm; omega
theorem swap_perm (a b : Nat) (s1 s2 : List Nat) : (b :: (s1 ++ a :: s2).reverse).Perm (a :: (s1 ++ b :: s2)) :=
  ((List.reverse_perm _).cons b).trans (((List.perm_middle).cons b).trans ((List.Perm.swap a b _).trans ((List.perm_middle.symm).cons a)))
theorem next_rank {n a b : Nat} {p s1 s2 : List Nat} (h : ∀ x ∈ p ++ a :: (s1 ++ b :: s2), x < n) (hp : (s1 ++ b :: s2).Pairwise (· ≥ ·)) (hab : a < b) (h2 : ∀ x ∈ s2, x ≤ a) :
    rankL n (p ++ b :: (s1 ++ a :: s2).reverse) = rankL n (p ++ a :: (s1 ++ b :: s2)) + 1 := by
  have hperm := swap_perm a b s1 s2
  have h1 := rank_prefix n hperm p
  have hv : ∀ x ∈ a :: (s1 ++ b :: s2), x < n := fun x hx => h x (List.mem_append_right _ hx)
  have ha := hv a (by simp)
  have hs : ∀ x ∈ s1 ++ b :: s2, x < n := fun x hx => hv x (by simp at hx ⊢; exact .inr hx)
  have hd := desc_rank _ n hs hp
  rw [List.pairwise_append] at hp
  obtain ⟨p1, p2, p3⟩ := hp
  rw [List.pairwise_cons] at p2
  have hasc : rankL n (s1 ++ a :: s2).reverse = 0 := by
    apply asc_rank
    · intro x hx
      apply h x
      simp at hx ⊢
      rcases hx with hx | hx | hx <;> simp [hx]
    · rw [List.pairwise_reverse, List.pairwise_append]
      refine ⟨p1, ?_, ?_⟩
      · rw [List.pairwise_cons]; exact ⟨fun x hx => h2 x hx, p2.2⟩
      · intro x hx y hy
        have hb := p3 x hx b (by simp)
        rcases List.mem_cons.1 hy with rfl | hy
        · show y ≤ x; omega
        · exact p3 x hx y (by simp [hy])
  have hu : rankL n (b :: (s1 ++ a :: s2).reverse) = pre (cntN (b :: (s1 ++ a :: s2).reverse) n) b + rankL n (s1 ++ a :: s2).reverse := rfl
  have hv' : rankL n (a :: (s1 ++ b :: s2)) = pre (cntN (a :: (s1 ++ b :: s2)) n) a + rankL n (s1 ++ b :: s2) := rfl
  rw [cntN_perm hperm, hasc] at hu
  have hz : ∀ i, a < i → i < b → (cntN (a :: (s1 ++ b :: s2)) n).getD i 0 = 0 := by
    intro i h5 h6
    have hb := hs b (by simp)
    rw [cntN_getD (by omega), List.count_eq_zero]
    intro hm
    rcases List.mem_cons.1 hm with rfl | hm
    · omega
    rcases List.mem_append.1 hm with hm | hm
    · have := p3 i hm b (by simp); omega
    rcases List.mem_cons.1 hm with rfl | hm
    · omega
    · have := h2 i hm; omega
  have hg := pre_gap (c := cntN (a :: (s1 ++ b :: s2)) n) (a := a) b hab hz
  rw [pre_succ, wt, if_neg (cntN_head ha), cntN_cons ha] at hg
  omega
end Go.Proofs.Ytjninopakpfklaa
