/- The contracts of package ghost: what each call does to a ghost in memory. -/
import Derived.Test.YtaogmfmphamplaaHeap
namespace Go.Proofs.Ytaogmfmphamplaa
open Go.RowKit

def ints (l : List Int) : Array Value := (l.map (Value.int .i64)).toArray

/-- a ghost: its tags (block t) and its first fault -/
def IsG (w : World) (g t : Nat) (tags : List Int) (k n : Int) : Prop :=
  Blk w g 97 #[.slice (some ⟨t, 0, none⟩) tags.length tags.length, .int .i64 k, .int .i64 n] ∧ Blk w t 3 (ints tags) ∧ tags.length ≤ 64

def G0 (k n kind i : Int) : Int × Int := if k = 0 ∧ n = 0 then (kind, i) else (k, n)

def FaultPost (w : World) (g t : Nat) (tags : List Int) (k n kind i : Int) (e : Ending) (w' : World) : Prop :=
  e = .returned (.bool false) ∧ IsG w' g t tags (G0 k n kind i).1 (G0 k n kind i).2 ∧ Upd [g] w w'


theorem IsG.fault {w : World} {g t : Nat} {tags : List Int} {k n : Int} (h : IsG w g t tags k n) (a b : Int) :
    IsG ((w.setCell ⟨g, 1, none⟩ (.int .i64 a)).setCell ⟨g, 2, none⟩ (.int .i64 b)) g t tags a b := by
  have hne : t ≠ g := h.2.1.ne_ h.1 (by decide)
  refine ⟨by simpa using (h.1.set_ 1 (.int .i64 a)).set_ 2 (.int .i64 b), (h.2.1.far hne _).far hne _, h.2.2⟩
theorem upd_two (w : World) (g : Nat) (a b : Value) (i j : Nat) : Upd [g] w ((w.setCell ⟨g, i, none⟩ a).setCell ⟨g, j, none⟩ b) :=
  ((Upd.refl _ _).setCell (.inl (by simp)) _).setCell (.inl (by simp)) _

set_option maxHeartbeats 400000 in
theorem fault_calls (w : World) (g t : Nat) (tags : List Int) (k n kind i : Int) (h : IsG w g t tags k n) :
    Calls Try.prog 67 #[.pointer (some ⟨g, 0, none⟩), .int .i64 kind, .int .i64 i] w (FaultPost w g t tags k n kind i) := by
  have c0 := h.1.cell 0
  have c1 := h.1.cell 1
  have c2 := h.1.cell 2
  have f1 := h.1.frozen 1
  have f2 := h.1.frozen 2
  simp at c0 c1 c2
  by_cases hz : k = 0 ∧ n = 0
  · obtain ⟨rfl, rfl⟩ := hz
    go_enter Try.func67, Try.ntmps67
    go_wp2
    go_ret
    exact ⟨rfl, by simpa [G0] using h.fault kind i, upd_two _ _ _ _ _ _⟩
  · have e : G0 k n kind i = (k, n) := if_neg hz
    have E : Hid (G0 k n kind i = (k, n)) := e
    clear e
    go_enter Try.func67, Try.ntmps67
    go_wp2
    all_goals (go_ret; exact ⟨rfl, by rw [E.out]; exact h, Upd.refl _ _⟩)

theorem fault_nil (w : World) (kind i : Int) :
    Calls Try.prog 67 #[.pointer none, .int .i64 kind, .int .i64 i] w fun e w' => e = .returned (.bool false) ∧ w = w' := by
  go_enter Try.func67, Try.ntmps67
  go_wp2
  go_ret
  exact ⟨rfl, rfl⟩

/-- one deed that turns a tag: its answer, tags and fault behind it -/
def gturn (tags : List Int) (k n i frm to kind : Int) : Bool × List Int × Int × Int :=
  if i < 1 ∨ (tags.length : Int) < i then (false, tags, G0 k n 5 i)
  else if tags.getD (i - 1).toNat 0 = frm then (true, tags.set (i - 1).toNat to, k, n)
  else (false, tags, G0 k n kind i)

def TurnPost (w : World) (g t : Nat) (r : Bool × List Int × Int × Int) (e : Ending) (w' : World) : Prop :=
  e = .returned (.bool r.1) ∧ IsG w' g t r.2.1 r.2.2.1 r.2.2.2 ∧ Upd [g, t] w w'

theorem IsG.tag {w : World} {g t : Nat} {tags : List Int} {k n : Int} (h : IsG w g t tags k n) (j : Nat) (v : Int) :
    IsG (w.setCell ⟨t, j, none⟩ (.int .i64 v)) g t (tags.set j v) k n := by
  have hne : g ≠ t := h.1.ne_ h.2.1 (by decide)
  refine ⟨by simpa using h.1.far hne _, ?_, by simpa using h.2.2⟩
  have := h.2.1.set_ j (.int .i64 v)
  unfold ints at this ⊢
  simpa [List.map_set] using this
theorem IsG.cellT {w : World} {g t : Nat} {tags : List Int} {k n : Int} (h : IsG w g t tags k n) {j : Nat} (hj : j < tags.length) :
    w.cell? ⟨t, j, none⟩ = some (.int .i64 (tags.getD j 0)) := by
  rw [h.2.1.cell j]
  simp [ints, hj]

set_option maxHeartbeats 400000 in
theorem turn_calls (w : World) (g t : Nat) (tags : List Int) (k n i frm to kind : Int) (hi : -9223372036854775808 ≤ i) (h : IsG w g t tags k n) :
    Calls Try.prog 66 #[.pointer (some ⟨g, 0, none⟩), .int .i64 i, .int .i64 frm, .int .i64 to, .int .i64 kind] w (TurnPost w g t (gturn tags k n i frm to kind)) := by
  have c0 := h.1.cell 0
  simp at c0
  have hl := h.2.2
  by_cases hr : i < 1 ∨ (tags.length : Int) < i
  · rw [show gturn tags k n i frm to kind = (false, tags, G0 k n 5 i) from if_pos hr]
    by_cases h1 : i < 1
    · go_enter Try.func66, Try.ntmps66
      go_wp2_with (go_at_call 67; refine (fault_calls _ _ _ _ _ _ _ _ h).mono ?_; rintro e w1 ⟨rfl, hg, hu⟩)
      go_ret
      exact ⟨rfl, hg, hu.mono (by simp)⟩
    · have h2 : (tags.length : Int) < i := by omega
      go_enter Try.func66, Try.ntmps66
      go_wp2_with (go_at_call 67; refine (fault_calls _ _ _ _ _ _ _ _ h).mono ?_; rintro e w1 ⟨rfl, hg, hu⟩)
      go_ret
      exact ⟨rfl, hg, hu.mono (by simp)⟩
  · obtain ⟨j, rfl⟩ : ∃ j : Nat, i = j + 1 := ⟨(i - 1).toNat, by omega⟩
    have hj : j < tags.length := by omega
    have ct := h.cellT hj
    have ft := h.2.1.frozen j
    by_cases hf : tags.getD j 0 = frm
    · have E : gturn tags k n (j + 1) frm to kind = (true, tags.set j to, k, n) := by
        unfold gturn; rw [if_neg hr]; simp only [Int.add_sub_cancel, Int.toNat_natCast]; rw [if_pos hf]
      rw [E]; clear E
      have hb : (tags.getD j 0 != frm) = false := by simpa using hf
      have hb2 : (tags.getD j 0 == frm) = true := by simpa using hf
      generalize tags.getD j 0 = v at ct hb hb2
      clear hf hr
      go_enter Try.func66, Try.ntmps66
      go_wp2
      go_ret
      exact ⟨rfl, h.tag _ _, (Upd.refl _ _).setCell (.inl (by simp)) _⟩
    · have E : gturn tags k n (j + 1) frm to kind = (false, tags, G0 k n kind (j + 1)) := by
        unfold gturn; rw [if_neg hr]; simp only [Int.add_sub_cancel, Int.toNat_natCast]; rw [if_neg hf]
      rw [E]; clear E
      have hb : (tags.getD j 0 != frm) = true := by simpa using hf
      have hb2 : (tags.getD j 0 == frm) = false := by simpa using hf
      generalize tags.getD j 0 = v at ct hb hb2
      clear hf hr
      go_enter Try.func66, Try.ntmps66
      go_wp2_with (go_at_call 67; refine (fault_calls _ _ _ _ _ _ _ _ h).mono ?_; rintro e w1 ⟨rfl, hg, hu⟩)
      go_ret
      exact ⟨rfl, hg, hu.mono (by simp)⟩

set_option maxHeartbeats 400000 in
theorem turn_nil (w : World) (i frm to kind : Int) :
    Calls Try.prog 66 #[.pointer none, .int .i64 i, .int .i64 frm, .int .i64 to, .int .i64 kind] w fun e w' => e = .returned (.bool false) ∧ w = w' := by
  go_enter Try.func66, Try.ntmps66
  go_wp2_with (go_at_call 67; refine (fault_nil _ _ _).mono ?_; rintro e w1 ⟨rfl, rfl⟩)
  go_ret
  exact ⟨rfl, rfl⟩

theorem alloc_calls (w : World) (g t : Nat) (tags : List Int) (k n i : Int) (hi : -9223372036854775808 ≤ i) (h : IsG w g t tags k n) :
    Calls Try.prog 43 #[.pointer (some ⟨g, 0, none⟩), .int .i64 i] w (TurnPost w g t (gturn tags k n i 0 1 1)) := by
  go_enter Try.func43, Try.ntmps43
  go_wp2_with (go_at_call 66; refine (turn_calls _ _ _ _ _ _ _ _ _ _ hi h).mono ?_; rintro e w1 ⟨rfl, hg, hu⟩)
  go_ret
  exact ⟨rfl, hg, hu⟩
theorem retire_calls (w : World) (g t : Nat) (tags : List Int) (k n i : Int) (hi : -9223372036854775808 ≤ i) (h : IsG w g t tags k n) :
    Calls Try.prog 45 #[.pointer (some ⟨g, 0, none⟩), .int .i64 i] w (TurnPost w g t (gturn tags k n i 1 2 2)) := by
  go_enter Try.func45, Try.ntmps45
  go_wp2_with (go_at_call 66; refine (turn_calls _ _ _ _ _ _ _ _ _ _ hi h).mono ?_; rintro e w1 ⟨rfl, hg, hu⟩)
  go_ret
  exact ⟨rfl, hg, hu⟩
theorem release_calls (w : World) (g t : Nat) (tags : List Int) (k n i : Int) (hi : -9223372036854775808 ≤ i) (h : IsG w g t tags k n) :
    Calls Try.prog 46 #[.pointer (some ⟨g, 0, none⟩), .int .i64 i] w (TurnPost w g t (gturn tags k n i 2 0 3)) := by
  go_enter Try.func46, Try.ntmps46
  go_wp2_with (go_at_call 66; refine (turn_calls _ _ _ _ _ _ _ _ _ _ hi h).mono ?_; rintro e w1 ⟨rfl, hg, hu⟩)
  go_ret
  exact ⟨rfl, hg, hu⟩
theorem alloc_nil (w : World) (i : Int) : Calls Try.prog 43 #[.pointer none, .int .i64 i] w fun e w' => e = .returned (.bool false) ∧ w = w' := by
  go_enter Try.func43, Try.ntmps43
  go_wp2_with (go_at_call 66; refine (turn_nil _ _ _ _ _).mono ?_; rintro e w1 ⟨rfl, rfl⟩)
  go_ret
  exact ⟨rfl, rfl⟩
theorem retire_nil (w : World) (i : Int) : Calls Try.prog 45 #[.pointer none, .int .i64 i] w fun e w' => e = .returned (.bool false) ∧ w = w' := by
  go_enter Try.func45, Try.ntmps45
  go_wp2_with (go_at_call 66; refine (turn_nil _ _ _ _ _).mono ?_; rintro e w1 ⟨rfl, rfl⟩)
  go_ret
  exact ⟨rfl, rfl⟩
theorem release_nil (w : World) (i : Int) : Calls Try.prog 46 #[.pointer none, .int .i64 i] w fun e w' => e = .returned (.bool false) ∧ w = w' := by
  go_enter Try.func46, Try.ntmps46
  go_wp2_with (go_at_call 66; refine (turn_nil _ _ _ _ _).mono ?_; rintro e w1 ⟨rfl, rfl⟩)
  go_ret
  exact ⟨rfl, rfl⟩

def gtouch (tags : List Int) (k n i : Int) : Bool × List Int × Int × Int :=
  if i < 1 ∨ (tags.length : Int) < i then (false, tags, G0 k n 5 i)
  else if tags.getD (i - 1).toNat 0 = 0 then (false, tags, G0 k n 4 i)
  else (true, tags, k, n)

set_option maxHeartbeats 400000 in
theorem touch_calls (w : World) (g t : Nat) (tags : List Int) (k n i : Int) (hi : -9223372036854775808 ≤ i) (h : IsG w g t tags k n) :
    Calls Try.prog 44 #[.pointer (some ⟨g, 0, none⟩), .int .i64 i] w (TurnPost w g t (gtouch tags k n i)) := by
  have c0 := h.1.cell 0
  simp at c0
  have hl := h.2.2
  by_cases hr : i < 1 ∨ (tags.length : Int) < i
  · rw [show gtouch tags k n i = (false, tags, G0 k n 5 i) from if_pos hr]
    by_cases h1 : i < 1
    · go_enter Try.func44, Try.ntmps44
      go_wp2_with (go_at_call 67; refine (fault_calls _ _ _ _ _ _ _ _ h).mono ?_; rintro e w1 ⟨rfl, hg, hu⟩)
      go_ret
      exact ⟨rfl, hg, hu.mono (by simp)⟩
    · have h2 : (tags.length : Int) < i := by omega
      go_enter Try.func44, Try.ntmps44
      go_wp2_with (go_at_call 67; refine (fault_calls _ _ _ _ _ _ _ _ h).mono ?_; rintro e w1 ⟨rfl, hg, hu⟩)
      go_ret
      exact ⟨rfl, hg, hu.mono (by simp)⟩
  · obtain ⟨j, rfl⟩ : ∃ j : Nat, i = j + 1 := ⟨(i - 1).toNat, by omega⟩
    have hj : j < tags.length := by omega
    have ct := h.cellT hj
    by_cases hf : tags.getD j 0 = 0
    · have E : gtouch tags k n (j + 1) = (false, tags, G0 k n 4 (j + 1)) := by
        unfold gtouch; rw [if_neg hr]; simp only [Int.add_sub_cancel, Int.toNat_natCast]; rw [if_pos hf]
      rw [E]; clear E
      have hb : (tags.getD j 0 == 0) = true := by simpa using hf
      generalize tags.getD j 0 = v at ct hb
      clear hf hr
      go_enter Try.func44, Try.ntmps44
      go_wp2_with (go_at_call 67; refine (fault_calls _ _ _ _ _ _ _ _ h).mono ?_; rintro e w1 ⟨rfl, hg, hu⟩)
      go_ret
      exact ⟨rfl, hg, hu.mono (by simp)⟩
    · have E : gtouch tags k n (j + 1) = (true, tags, k, n) := by
        unfold gtouch; rw [if_neg hr]; simp only [Int.add_sub_cancel, Int.toNat_natCast]; rw [if_neg hf]
      rw [E]; clear E
      have hb : (tags.getD j 0 == 0) = false := by simpa using hf
      generalize tags.getD j 0 = v at ct hb
      clear hf hr
      go_enter Try.func44, Try.ntmps44
      go_wp2
      go_ret
      exact ⟨rfl, h, Upd.refl _ _⟩
theorem touch_nil (w : World) (i : Int) : Calls Try.prog 44 #[.pointer none, .int .i64 i] w fun e w' => e = .returned (.bool false) ∧ w = w' := by
  go_enter Try.func44, Try.ntmps44
  go_wp2_with (go_at_call 67; refine (fault_nil _ _ _).mono ?_; rintro e w1 ⟨rfl, rfl⟩)
  go_ret
  exact ⟨rfl, rfl⟩

def gtag (tags : List Int) (i : Int) : Int := if i < 1 ∨ (tags.length : Int) < i then 0 else tags.getD (i - 1).toNat 0

set_option maxHeartbeats 400000 in
theorem tag_calls (w : World) (g t : Nat) (tags : List Int) (k n i : Int) (hi : -9223372036854775808 ≤ i) (h : IsG w g t tags k n) :
    Calls Try.prog 41 #[.pointer (some ⟨g, 0, none⟩), .int .i64 i] w fun e w' => e = .returned (.int .i64 (gtag tags i)) ∧ w = w' := by
  have c0 := h.1.cell 0
  simp at c0
  have hl := h.2.2
  by_cases hr : i < 1 ∨ (tags.length : Int) < i
  · rw [show gtag tags i = 0 from if_pos hr]
    by_cases h1 : i < 1
    · go_enter Try.func41, Try.ntmps41
      go_wp2
      go_ret
      exact ⟨rfl, rfl⟩
    · have h2 : (tags.length : Int) < i := by omega
      go_enter Try.func41, Try.ntmps41
      go_wp2
      go_ret
      exact ⟨rfl, rfl⟩
  · obtain ⟨j, rfl⟩ : ∃ j : Nat, i = j + 1 := ⟨(i - 1).toNat, by omega⟩
    have hj : j < tags.length := by omega
    have ct := h.cellT hj
    rw [show gtag tags (j + 1) = tags.getD j 0 by unfold gtag; rw [if_neg hr]; simp only [Int.add_sub_cancel, Int.toNat_natCast]]
    generalize tags.getD j 0 = v at ct
    clear hr
    go_enter Try.func41, Try.ntmps41
    go_wp2
    go_ret
    exact ⟨rfl, rfl⟩
theorem tag_nil (w : World) (i : Int) : Calls Try.prog 41 #[.pointer none, .int .i64 i] w fun e w' => e = .returned (.int .i64 0) ∧ w = w' := by
  go_enter Try.func41, Try.ntmps41
  go_wp2
  go_ret
  exact ⟨rfl, rfl⟩

theorem first_calls (w : World) (g t : Nat) (tags : List Int) (k n : Int) (h : IsG w g t tags k n) :
    Calls Try.prog 40 #[.pointer (some ⟨g, 0, none⟩)] w fun e w' => e = .returned (.agg #[.int .i64 k, .int .i64 n]) ∧ ∃ o, w' = w.alloc o := by
  have hlt := h.1.lt
  have c1 := h.1.cell 1
  have c2 := h.1.cell 2
  simp at c1 c2
  go_enter Try.func40, Try.ntmps40
  go_wp2
  exact bodyPost_ret (v := .agg #[.int .i64 k, .int .i64 n]) (by simp [results, Try.results40, go_sem]) rfl ⟨rfl, _, rfl⟩
theorem first_nil (w : World) : Calls Try.prog 40 #[.pointer none] w fun e w' => e = .returned (.agg #[.int .i64 0, .int .i64 0]) ∧ ∃ o, w' = w.alloc o := by
  go_enter Try.func40, Try.ntmps40
  go_wp2
  exact bodyPost_ret (v := .agg #[.int .i64 0, .int .i64 0]) (by simp [results, Try.results40, go_sem]) rfl ⟨rfl, _, rfl⟩

/-- how many of a list are x -/
def many (l : List Int) (x : Int) : Int := (l.filter (· == x)).length
theorem many_le (l : List Int) (x : Int) : 0 ≤ many l x ∧ many l x ≤ l.length := by
  unfold many; exact ⟨by omega, by have := List.length_filter_le (· == x) l; omega⟩
theorem many_snoc (l : List Int) (x y : Int) : many (l ++ [y]) x = many l x + if y = x then 1 else 0 := by
  unfold many; rw [List.filter_append]
  by_cases h : y = x <;> simp [List.filter_cons, h]
theorem take_snoc (l : List Int) (k : Nat) (h : k < l.length) : l.take (k + 1) = l.take k ++ [l.getD k 0] := by
  rw [List.take_succ_eq_append_getElem h]; simp [List.getD, h]

theorem ret_int {k : IntKind} {a b : Int} (h : a = b) : Ending.returned (.int k a) = .returned (.int k b) := by rw [h]

set_option maxHeartbeats 400000 in
theorem count_calls (w : World) (g t : Nat) (tags : List Int) (k n x : Int) (h : IsG w g t tags k n) :
    Calls Try.prog 42 #[.pointer (some ⟨g, 0, none⟩), .int .i64 x] w fun e w' => e = .returned (.int .i64 (many tags x)) ∧ w = w' := by
  have c0 := h.1.cell 0
  simp at c0
  have hl := h.2.2
  have hct : ∀ j, j < tags.length → w.cell? ⟨t, j, none⟩ = some (.int .i64 (tags.getD j 0)) := fun j hj => h.cellT hj
  have HC := (show Hid (∀ j, j < tags.length → w.cell? ⟨t, j, none⟩ = some (.int .i64 (tags.getD j 0))) from hct)
  clear hct
  go_enter Try.func42, Try.ntmps42
  go_wp2
  go_loop [5, 15] (fun c i => ∃ j : Nat, j ≤ tags.length ∧ i = .int .i64 j ∧ c = .int .i64 (many (tags.take j) x)) (fun _ i => tags.length - (intOf i).toNat)
  case atStart => exact ⟨0, Nat.zero_le _, rfl, rfl⟩
  case round =>
    obtain ⟨j, hj, rfl, rfl⟩ := hrel
    have hd := many_le (tags.take j) x
    have hll : (tags.take j).length ≤ j := List.length_take_le _ _
    by_cases hlt : j < tags.length
    · have ct := HC.out j hlt
      have hs : many (tags.take (j + 1)) x = many (tags.take j) x + if tags.getD j 0 = x then 1 else 0 := by rw [take_snoc _ _ hlt]; exact many_snoc _ _ _
      generalize tags.getD j 0 = v at *
      by_cases hv : v = x
      · have hb : (v == x) = true := by simpa using hv
        have HV : Hid (many (tags.take (j + 1)) x = many (tags.take j) x + 1) := by rw [if_pos hv] at hs; exact hs
        clear hv hs
        generalize many (tags.take j) x = m0 at *
        go_wp2
        go_round
        case rel => exact ⟨j + 1, by omega, by go_num, by rw [HV.out]⟩
        case measure => simp [intOf]; omega
      · have hb : (v == x) = false := by simpa using hv
        have HV : Hid (many (tags.take (j + 1)) x = many (tags.take j) x) := by rw [if_neg hv] at hs; rw [hs]; exact Int.add_zero _
        clear hv hs
        generalize many (tags.take j) x = m0 at *
        go_wp2
        go_round
        case rel => exact ⟨j + 1, by omega, by go_num, by rw [HV.out]⟩
        case measure => simp [intOf]; omega
    · have hj' : j = tags.length := by omega
      subst hj'
      rw [List.take_length] at *
      clear hlt
      go_wp2
      go_ret
      exact ⟨rfl, rfl⟩

theorem count_nil (w : World) (x : Int) : Calls Try.prog 42 #[.pointer none, .int .i64 x] w fun e w' => e = .returned (.int .i64 0) ∧ w = w' := by
  go_enter Try.func42, Try.ntmps42
  go_wp2
  go_ret
  exact ⟨rfl, rfl⟩

/-- the tags of a new ghost -/
def newN (nodes : Int) : Nat := if nodes < 1 ∨ 64 < nodes then 0 else nodes.toNat
def newTags (nodes live : Int) : List Int := (List.range (newN nodes)).map fun (i : Nat) => if (i : Int) < live then (1 : Int) else 0
/-- .. where the first j are done -/
def partTags (n j : Nat) : List Int := (List.range n).map fun (i : Nat) => if i < j then (1 : Int) else 0

theorem part_set (n j : Nat) (h : j < n) : (partTags n j).set j 1 = partTags n (j + 1) := by
  apply List.ext_getElem
  · simp [partTags]
  · intro i h1 h2
    simp only [List.getElem_set, partTags, List.getElem_map, List.getElem_range]
    by_cases hij : j = i
    · subst hij; simp
    · rw [if_neg hij]
      by_cases hlt : i < j
      · rw [if_pos hlt, if_pos (by omega)]
      · rw [if_neg hlt, if_neg (by omega)]
theorem part_zero (n : Nat) : partTags n 0 = List.replicate n 0 := by
  apply List.ext_getElem <;> simp [partTags]
theorem part_all (nodes live : Int) (j : Nat) (h : (j : Int) = min (max live 0) (newN nodes)) : partTags (newN nodes) j = newTags nodes live := by
  apply List.ext_getElem
  · simp [partTags, newTags]
  · intro i h1 h2
    simp only [partTags, newTags, List.getElem_map, List.getElem_range]
    have : i < newN nodes := by simpa [partTags] using h1
    by_cases hl : (i : Int) < live
    · rw [if_pos hl, if_pos (by omega)]
    · rw [if_neg hl, if_neg (by omega)]
theorem made_row (z : Value) (n : Nat) : madeCells #[z] n = (List.replicate n z).toArray := by
  apply Array.ext
  · simp [madeCells]
  · intro i h1 h2
    simp [madeCells, Nat.mod_one]

theorem info3 : (Try.prog.info? 3).map (fun i => (i.zero, i.size, i.bytes)) = some (some (.int .i64 0), 1, 8) := by kernel_rfl

def NewPost (w : World) (nodes live : Int) (e : Ending) (w' : World) : Prop :=
  ∃ g t, e = .returned (.pointer (some ⟨g, 0, none⟩)) ∧ IsG w' g t (newTags nodes live) 0 0 ∧ w.heap.size ≤ g ∧ w.heap.size ≤ t ∧ Upd [] w w'


theorem new_start (w : World) (n : Nat) (hn : n ≤ 64) : IsG ((w.alloc (.cells (madeCells #[.int .i64 0] n) 3)).alloc (.cells #[.slice (some ⟨w.heap.size, 0, none⟩) n n, .int .i64 0, .int .i64 0] 97)) (w.heap.size + 1) w.heap.size (partTags n 0) 0 0 := by
  have hl : (partTags n 0).length = n := by simp [partTags]
  refine ⟨?_, ?_, by omega⟩
  · rw [hl]
    have := Blk.new (w.alloc (.cells (madeCells #[.int .i64 0] n) 3)) 97 #[.slice (some ⟨w.heap.size, 0, none⟩) n n, .int .i64 0, .int .i64 0]
    simpa using this
  · have := (Blk.new w 3 (madeCells #[.int .i64 0] n)).alloc (.cells #[.slice (some ⟨w.heap.size, 0, none⟩) n n, .int .i64 0, .int .i64 0] 97)
    rw [made_row] at this
    rw [part_zero, made_row]
    simpa [ints] using this
theorem upd_two_alloc (w : World) (o1 o2 : Obj) : Upd [] w ((w.alloc o1).alloc o2) := ((Upd.refl _ _).alloc _).alloc _

set_option maxHeartbeats 800000 in
theorem new_calls (w : World) (nodes live : Int) : Calls Try.prog 38 #[.int .i64 nodes, .int .i64 live] w (NewPost w nodes live) := by
  by_cases hr : nodes < 1 ∨ 64 < nodes
  · have hn0 : newN nodes = 0 := if_pos hr
    have hmk := fun w => run_make_row' (P := Try.prog) 42 3 (.int .i64 0) 8 Try.underlying42 info3 rfl .i64 .i64 0 (by omega) (by omega) w
    simp only [Int.ofNat_zero, Int.natCast_zero] at hmk
    have hst := new_start w 0 (by omega)
    have he : partTags 0 0 = newTags nodes live := by unfold newTags; rw [hn0]; rfl
    rw [he] at hst
    have HG := hid hst
    clear hst he hn0
    rcases hr with hr | hr
    all_goals
      rcases (show live < 0 ∨ live = 0 ∨ 0 < live by omega) with hl | rfl | hl
    all_goals
      first | (have hnn : ¬ nodes < 1 := by omega) | skip
      go_enter Try.func38, Try.ntmps38
      go_wp2
      go_loop [6, 21] (fun _ i => i = .int .i64 0) (fun _ _ => 0)
      case atStart => rfl
      case round =>
        obtain rfl := hrel
        go_wp2
        go_ret
        exact ⟨_, _, rfl, HG.out, by omega, Nat.le_refl _, upd_two_alloc w _ _⟩
  · have hn0 : newN nodes = nodes.toNat := if_neg hr
    obtain ⟨n, rfl⟩ : ∃ n : Nat, nodes = n := ⟨nodes.toNat, by omega⟩
    have hmk := fun w => run_make_row' (P := Try.prog) 42 3 (.int .i64 0) 8 Try.underlying42 info3 rfl .i64 .i64 n (by omega) (by omega) w
    have h1 : ¬ (n : Int) < 1 := by omega
    have h2 : ¬ 64 < (n : Int) := by omega
    have HN := hid hn0
    clear hn0 hr
    by_cases hl : live < 0
    · go_enter Try.func38, Try.ntmps38
      go_wp2
      go_loopw [6, 21] (fun _ i wr => ∃ j : Nat, j ≤ 0 ∧ i = .int .i64 j ∧ IsG wr (w.heap.size + 1) w.heap.size (partTags n j) 0 0 ∧ Upd [] w wr) (fun _ i _ => 0 - (intOf i).toNat)
      case atStart => exact ⟨0, Nat.zero_le _, rfl, new_start w n (by omega), upd_two_alloc w _ _⟩
      case round =>
        obtain ⟨j, hj, rfl, hg, hu⟩ := hrel
        by_cases hlt : j < 0
        · exact absurd hlt (by omega)
        · have hj' : j = 0 := by omega
          have e := part_all (n : Int) live j (by rw [HN.out]; omega)
          rw [show newN (n : Int) = n by rw [HN.out]; omega] at e
          have HG := hid hg
          have HU := hid hu
          have HE := hid e
          clear hg hu e
          clear hj'
          go_wp2
          go_ret
          exact ⟨_, _, rfl, by rw [← HE.out]; exact HG.out, by omega, Nat.le_refl _, HU.out⟩

    by_cases hl2 : (n : Int) < live
    · go_enter Try.func38, Try.ntmps38
      go_wp2
      go_loopw [6, 21] (fun _ i wr => ∃ j : Nat, j ≤ n ∧ i = .int .i64 j ∧ IsG wr (w.heap.size + 1) w.heap.size (partTags n j) 0 0 ∧ Upd [] w wr) (fun _ i _ => n - (intOf i).toNat)
      case atStart => exact ⟨0, Nat.zero_le _, rfl, new_start w n (by omega), upd_two_alloc w _ _⟩
      case round =>
        obtain ⟨j, hj, rfl, hg, hu⟩ := hrel
        by_cases hlt : j < n
        · have hlen : (partTags n j).length = n := by simp [partTags]
          have c0 := hg.1.cell 0
          simp [hlen] at c0
          have ct := hg.cellT (j := j) (by omega)
          have ft := hg.2.1.frozen j
          generalize (partTags n j).getD j 0 = v at ct
          have HG := hid hg
          have HU := hid hu
          clear hg hu hlen
          go_wp2
          go_roundw
          case rel =>
            refine ⟨j + 1, by omega, by go_num, ?_, HU.out.setCell (.inr (Nat.le_refl _)) _⟩
            rw [← part_set n j (by omega)]
            exact HG.out.tag j 1
          case measure => simp [intOf]; omega
        · have hj' : j = n := by omega
          have e := part_all (n : Int) live j (by rw [HN.out]; omega)
          rw [show newN (n : Int) = n by rw [HN.out]; omega] at e
          have HG := hid hg
          have HU := hid hu
          have HE := hid e
          clear hg hu e
          clear hj'
          go_wp2
          go_ret
          exact ⟨_, _, rfl, by rw [← HE.out]; exact HG.out, by omega, Nat.le_refl _, HU.out⟩

    obtain ⟨m, rfl⟩ : ∃ m : Nat, live = m := ⟨live.toNat, by omega⟩
    go_enter Try.func38, Try.ntmps38
    go_wp2
    go_loopw [6, 21] (fun _ i wr => ∃ j : Nat, j ≤ m ∧ i = .int .i64 j ∧ IsG wr (w.heap.size + 1) w.heap.size (partTags n j) 0 0 ∧ Upd [] w wr) (fun _ i _ => m - (intOf i).toNat)
    case atStart => exact ⟨0, Nat.zero_le _, rfl, new_start w n (by omega), upd_two_alloc w _ _⟩
    case round =>
      obtain ⟨j, hj, rfl, hg, hu⟩ := hrel
      by_cases hlt : j < m
      · have hlen : (partTags n j).length = n := by simp [partTags]
        have c0 := hg.1.cell 0
        simp [hlen] at c0
        have ct := hg.cellT (j := j) (by omega)
        have ft := hg.2.1.frozen j
        generalize (partTags n j).getD j 0 = v at ct
        have HG := hid hg
        have HU := hid hu
        clear hg hu hlen
        go_wp2
        go_roundw
        case rel =>
          refine ⟨j + 1, by omega, by go_num, ?_, HU.out.setCell (.inr (Nat.le_refl _)) _⟩
          rw [← part_set n j (by omega)]
          exact HG.out.tag j 1
        case measure => simp [intOf]; omega
      · have hj' : j = m := by omega
        have e := part_all (n : Int) m j (by rw [HN.out]; omega)
        rw [show newN (n : Int) = n by rw [HN.out]; omega] at e
        have HG := hid hg
        have HU := hid hu
        have HE := hid e
        clear hg hu e
        clear hj'
        go_wp2
        go_ret
        exact ⟨_, _, rfl, by rw [← HE.out]; exact HG.out, by omega, Nat.le_refl _, HU.out⟩

end Go.Proofs.Ytaogmfmphamplaa
