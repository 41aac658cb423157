/- The walk of the law GhostRounds. -/
import Derived.Test.YtaogmfmphamplaaGhost
import Derived.Test.YtaogmfmphamplaaArgs
namespace Go.Proofs.Ytaogmfmphamplaa
open Go.RowKit

theorem IsG.upd {w w' : World} {g t : Nat} {tags : List Int} {k n : Int} {S : List Nat} (h : IsG w g t tags k n) (hu : Upd S w w') (hg : g ∉ S) (ht : t ∉ S) : IsG w' g t tags k n :=
  ⟨h.1.upd hu hg, h.2.1.upd hu ht, h.2.2⟩
theorem IsG.alloc {w : World} {g t : Nat} {tags : List Int} {k n : Int} (h : IsG w g t tags k n) (o : Obj) : IsG (w.alloc o) g t tags k n :=
  ⟨h.1.alloc o, h.2.1.alloc o, h.2.2⟩

def gdo (tags : List Int) (k n kind i : Int) : Bool × List Int × Int × Int :=
  if kind = 0 then gturn tags k n i 0 1 1 else if kind = 1 then gturn tags k n i 1 2 2 else if kind = 2 then gturn tags k n i 2 0 3 else gtouch tags k n i

theorem TurnPost.from_alloc {w : World} {o : Obj} {g t : Nat} {r : Bool × List Int × Int × Int} {e : Ending} {w' : World} (h : TurnPost (w.alloc o) g t r e w') : TurnPost w g t r e w' :=
  ⟨h.1, h.2.1, ((Upd.refl _ _).alloc o).trans h.2.2⟩

set_option maxHeartbeats 400000 in
theorem do_calls (w : World) (g t : Nat) (tags : List Int) (k n kind i : Int) (hi : -9223372036854775808 ≤ i) (h : IsG w g t tags k n) :
    Calls Try.prog 39 #[.pointer (some ⟨g, 0, none⟩), .agg #[.int .i64 kind, .int .i64 i]] w (TurnPost w g t (gdo tags k n kind i)) := by
  have hg : g ≠ w.heap.size := by have := h.1.lt; omega
  by_cases h0 : kind = 0
  · subst h0
    rw [show gdo tags k n 0 i = gturn tags k n i 0 1 1 from rfl]
    go_enter Try.func39, Try.ntmps39
    go_wp2_with (go_at_call 43; refine (alloc_calls _ _ _ _ _ _ _ hi (h.alloc _)).mono ?_; rintro e w1 h1; obtain ⟨rfl, hh⟩ := h1.from_alloc)
    go_ret
    exact ⟨rfl, hh⟩
  by_cases h1 : kind = 1
  · subst h1
    rw [show gdo tags k n 1 i = gturn tags k n i 1 2 2 from rfl]
    go_enter Try.func39, Try.ntmps39
    go_wp2_with (go_at_call 45; refine (retire_calls _ _ _ _ _ _ _ hi (h.alloc _)).mono ?_; rintro e w1 h1; obtain ⟨rfl, hh⟩ := h1.from_alloc)
    go_ret
    exact ⟨rfl, hh⟩
  by_cases h2 : kind = 2
  · subst h2
    rw [show gdo tags k n 2 i = gturn tags k n i 2 0 3 from rfl]
    go_enter Try.func39, Try.ntmps39
    go_wp2_with (go_at_call 46; refine (release_calls _ _ _ _ _ _ _ hi (h.alloc _)).mono ?_; rintro e w1 h1; obtain ⟨rfl, hh⟩ := h1.from_alloc)
    go_ret
    exact ⟨rfl, hh⟩
  · rw [show gdo tags k n kind i = gtouch tags k n i by unfold gdo; rw [if_neg h0, if_neg h1, if_neg h2]]
    have b0 : (kind == 0) = false := by simpa using h0
    have b1 : (kind == 1) = false := by simpa using h1
    have b2 : (kind == 2) = false := by simpa using h2
    clear h0 h1 h2
    go_enter Try.func39, Try.ntmps39
    go_wp2_with (go_at_call 44; refine (touch_calls _ _ _ _ _ _ _ hi (h.alloc _)).mono ?_; rintro e w1 h1; obtain ⟨rfl, hh⟩ := h1.from_alloc)
    go_ret
    exact ⟨rfl, hh⟩

set_option maxHeartbeats 400000 in
theorem do_nil (w : World) (kind i : Int) :
    Calls Try.prog 39 #[.pointer none, .agg #[.int .i64 kind, .int .i64 i]] w fun e w' => e = .returned (.bool false) ∧ ∃ o, w' = w.alloc o := by
  by_cases h0 : kind = 0
  · subst h0
    go_enter Try.func39, Try.ntmps39
    go_wp2_with (go_at_call 43; refine (alloc_nil _ _).mono ?_; rintro e w1 ⟨rfl, rfl⟩)
    go_ret
    exact ⟨rfl, _, rfl⟩
  by_cases h1 : kind = 1
  · subst h1
    go_enter Try.func39, Try.ntmps39
    go_wp2_with (go_at_call 45; refine (retire_nil _ _).mono ?_; rintro e w1 ⟨rfl, rfl⟩)
    go_ret
    exact ⟨rfl, _, rfl⟩
  by_cases h2 : kind = 2
  · subst h2
    go_enter Try.func39, Try.ntmps39
    go_wp2_with (go_at_call 46; refine (release_nil _ _).mono ?_; rintro e w1 ⟨rfl, rfl⟩)
    go_ret
    exact ⟨rfl, _, rfl⟩
  · have b0 : (kind == 0) = false := by simpa using h0
    have b1 : (kind == 1) = false := by simpa using h1
    have b2 : (kind == 2) = false := by simpa using h2
    clear h0 h1 h2
    go_enter Try.func39, Try.ntmps39
    go_wp2_with (go_at_call 44; refine (touch_nil _ _).mono ?_; rintro e w1 ⟨rfl, rfl⟩)
    go_ret
    exact ⟨rfl, _, rfl⟩

set_option maxHeartbeats 400000 in
theorem lives07 (w : World) : Calls Try.prog 37 #[] w fun e w' => e = .returned (.bool true) ∧ Upd [] w w' := by
  go_enter Try.func37, Try.ntmps37
  go_wp2_with fail
  refine (new_calls _ _ _).mono ?_
  rintro e w1 ⟨g, t, rfl, h, hg, ht, hu⟩
  rw [show newTags 2 0 = [0, 0] from rfl] at h
  go_wp2_with fail
  refine (alloc_calls _ _ _ _ _ _ _ (by omega) h).mono ?_
  rintro e w2 ⟨rfl, h2, hu2⟩
  rw [show gturn [0, 0] 0 0 1 0 1 1 = (true, [1, 0], 0, 0) from rfl] at h2
  rw [show gturn [0, 0] 0 0 1 0 1 1 = (true, [1, 0], 0, 0) from rfl]
  go_wp2_with fail
  refine (alloc_calls _ _ _ _ _ _ _ (by omega) h2).mono ?_
  rintro e w3 ⟨rfl, h3, hu3⟩
  rw [show gturn [1, 0] 0 0 1 0 1 1 = (false, [1, 0], 1, 1) from rfl] at h3
  rw [show gturn [1, 0] 0 0 1 0 1 1 = (false, [1, 0], 1, 1) from rfl]
  go_wp2_with fail
  refine (first_calls _ _ _ _ _ _ h3).mono ?_
  rintro e w4 ⟨rfl, o, rfl⟩
  go_wp2_with fail
  go_ret
  exact ⟨rfl, ((hu.step hu2 (by simp; omega)).step hu3 (by simp; omega)).alloc _⟩

theorem field59_0 (a b : Int) (w : World) : (Instr.field 59 (.agg #[.int .i64 a, .int .i64 b]) 0).run Try.prog w = .ok (.int .i64 a) w := by kernel_rfl

set_option maxRecDepth 100000 in
set_option maxHeartbeats 800000 in
theorem GhostRounds_walk (w : World) (n : Int) (wn : (Lit.int .i64 n).wf = true) (l : List Int) (wl : Fits [.i64, .i64] l) :
    Calls Try.prog 11 #[.int .i64 n, .agg (mkInts [.i64, .i64] l).toArray] w fun e w' => e = .returned (.bool true) ∧ Below w.heap.size w w' := by
  obtain ⟨kind, i, rfl⟩ : ∃ a b, l = [a, b] := by
    have h := wl.1
    match l, h with
    | [a, b], _ => exact ⟨a, b, rfl⟩
  have hi : -9223372036854775808 ≤ i := (bounds_i64 (wl.2 1 .i64 i rfl rfl)).1
  show Calls Try.prog 11 #[.int .i64 n, .agg #[.int .i64 kind, .int .i64 i]] w _
  have h3 : (w.alloc (.cells #[.int .i64 kind, .int .i64 i] 61)).heap[w.heap.size]? = some (.cells #[.int .i64 kind, .int .i64 i] 61 (0, 0)) := Blk.new w 61 _
  have hfld := field59_0
  go_enter Try.func11, Try.ntmps11
  go_wp2_with fail
  refine (new_calls _ _ _).mono ?_
  rintro e w1 ⟨g, t, rfl, h, hg, ht, hu⟩
  rw [show newTags 3 0 = [0, 0, 0] from rfl] at h
  have hs1 : w.heap.size < g := by simp at hg; omega
  have hs2 : w.heap.size < t := by simp at ht; omega
  have hU : Upd [] w w1 := ((Upd.refl _ _).alloc _).trans hu
  have hO : Blk w1 w.heap.size 61 #[.int .i64 kind, .int .i64 i] := (show Blk _ _ _ _ from h3).upd hu (by simp)
  clear hu h3 hg ht
  go_wp2_with fail
  go_loopw [6] (fun j wr => ∃ m : Nat, m ≤ 50 ∧ j = .int .i64 m ∧ IsG wr g t [0, 0, 0] 0 0 ∧ Upd [] w wr ∧ Blk wr w.heap.size 61 #[.int .i64 kind, .int .i64 i]) (fun j _ => 50 - (intOf j).toNat)
  case atStart => exact ⟨0, by omega, rfl, h, hU, hO⟩
  case round =>
    obtain ⟨m, hm, rfl, hG, hUU, hOO⟩ := hrel
    clear h hU hO
    have hU1 := hUU
    have hO1 := hOO
    clear hUU hOO
    rcases (show n ≤ 0 ∨ (0 < n ∧ n ≤ 50) ∨ 50 < n by omega) with hn | ⟨hn, hn2⟩ | hn
    all_goals
      by_cases hlt : (m : Int) < max 0 (min n 50)
      · try (exfalso; omega)
        all_goals
          have hlt' : m < 50 := by omega
          go_wp2_with fail
          refine (alloc_calls _ _ _ _ _ _ _ (by omega) hG).mono ?_
          rintro e w2 ⟨rfl, h2, hu2⟩
          rw [show gturn [0, 0, 0] 0 0 2 0 1 1 = (true, [0, 1, 0], 0, 0) from rfl] at h2
          rw [show gturn [0, 0, 0] 0 0 2 0 1 1 = (true, [0, 1, 0], 0, 0) from rfl]
          have hU2 := hU1.step hu2 (by simp; omega)
          have hO2 := hO1.upd hu2 (by simp; omega)
          clear hu2 hU1 hO1 hG
          go_wp2_with fail
          refine (touch_calls _ _ _ _ _ _ _ (by omega) h2).mono ?_
          rintro e w3 ⟨rfl, h3, hu3⟩
          rw [show gtouch [0, 1, 0] 0 0 2 = (true, [0, 1, 0], 0, 0) from rfl] at h3
          rw [show gtouch [0, 1, 0] 0 0 2 = (true, [0, 1, 0], 0, 0) from rfl]
          have hU3 := hU2.step hu3 (by simp; omega)
          have hO3 := hO2.upd hu3 (by simp; omega)
          clear hu3 hU2 hO2 h2
          go_wp2_with fail
          refine (retire_calls _ _ _ _ _ _ _ (by omega) h3).mono ?_
          rintro e w4 ⟨rfl, h4, hu4⟩
          rw [show gturn [0, 1, 0] 0 0 2 1 2 2 = (true, [0, 2, 0], 0, 0) from rfl] at h4
          rw [show gturn [0, 1, 0] 0 0 2 1 2 2 = (true, [0, 2, 0], 0, 0) from rfl]
          have hU4 := hU3.step hu4 (by simp; omega)
          have hO4 := hO3.upd hu4 (by simp; omega)
          clear hu4 hU3 hO3 h3
          go_wp2_with fail
          refine (touch_calls _ _ _ _ _ _ _ (by omega) h4).mono ?_
          rintro e w5 ⟨rfl, h5, hu5⟩
          rw [show gtouch [0, 2, 0] 0 0 2 = (true, [0, 2, 0], 0, 0) from rfl] at h5
          rw [show gtouch [0, 2, 0] 0 0 2 = (true, [0, 2, 0], 0, 0) from rfl]
          have hU5 := hU4.step hu5 (by simp; omega)
          have hO5 := hO4.upd hu5 (by simp; omega)
          clear hu5 hU4 hO4 h4
          go_wp2_with fail
          refine (release_calls _ _ _ _ _ _ _ (by omega) h5).mono ?_
          rintro e w6 ⟨rfl, h6, hu6⟩
          rw [show gturn [0, 2, 0] 0 0 2 2 0 3 = (true, [0, 0, 0], 0, 0) from rfl] at h6
          rw [show gturn [0, 2, 0] 0 0 2 2 0 3 = (true, [0, 0, 0], 0, 0) from rfl]
          have hU6 := hU5.step hu6 (by simp; omega)
          have hO6 := hO5.upd hu6 (by simp; omega)
          clear hu6 hU5 hO5 h5
          go_wp2_with fail
          go_roundw
          case rel => exact ⟨m + 1, by omega, by go_num, h6, hU6, hO6⟩
          case measure => simp [intOf]; omega
      · skip
        go_wp2_with fail
        refine (first_calls _ _ _ _ _ _ hG).mono ?_
        rintro e w2 ⟨rfl, o, rfl⟩
        have hU2 := hU1.alloc o
        have hO2 := hO1.alloc o
        have hG2 := hG.alloc o
        clear hU1 hO1 hG
        generalize wr.alloc o = w3 at *
        go_wp2_with fail
        refine (touch_calls _ _ _ _ _ _ _ (by omega) hG2).mono ?_
        rintro e w4 ⟨rfl, hG4, hu4⟩
        rw [show gtouch [0, 0, 0] 0 0 2 = (false, [0, 0, 0], 4, 2) from rfl] at hG4
        rw [show gtouch [0, 0, 0] 0 0 2 = (false, [0, 0, 0], 4, 2) from rfl]
        have hU4 := hU2.step hu4 (by simp; omega)
        have hO4 := hO2.upd hu4 (by simp; omega)
        clear hu4 hU2 hO2 hG2
        go_wp2_with fail
        refine (first_calls _ _ _ _ _ _ hG4).mono ?_
        rintro e w5 ⟨rfl, o5, rfl⟩
        have hU5 := hU4.alloc o5
        have hO5 := hO4.alloc o5
        have hG5 := hG4.alloc o5
        clear hU4 hO4 hG4
        generalize w4.alloc o5 = w6 at *
        go_wp2_with fail
        refine (count_calls _ _ _ _ _ _ _ hG5).mono ?_
        rintro e w7 ⟨rfl, rfl⟩
        rw [show many [0, 0, 0] 0 = 3 from rfl]
        have c0 := hO5.cell 0
        have c1 := hO5.cell 1
        simp at c0 c1
        clear hG5
        have hlw : w.heap.size < w6.heap.size := hO5.lt
        go_wp2_with fail
        refine (do_nil _ _ _).mono ?_
        rintro e w8 ⟨rfl, o8, rfl⟩
        go_wp2_with fail
        refine (tag_nil _ _).mono ?_
        rintro e w9 ⟨rfl, rfl⟩
        go_wp2_with fail
        refine (count_nil _ _).mono ?_
        rintro e w9 ⟨rfl, rfl⟩
        go_wp2_with fail
        refine (first_nil _).mono ?_
        rintro e w9 ⟨rfl, o9, rfl⟩
        go_wp2_with fail
        refine (lives07 _).mono ?_
        rintro e w10 ⟨rfl, hu10⟩
        go_wp2_with fail
        go_ret
        exact ⟨rfl, (((hU5.alloc _).alloc _).trans hu10).below⟩
end Go.Proofs.Ytaogmfmphamplaa
