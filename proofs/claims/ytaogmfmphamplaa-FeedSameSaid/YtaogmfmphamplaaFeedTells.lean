/- The walk of the law FeedTells. -/
import Derived.Test.YtaogmfmphamplaaFeed
import Derived.Test.YtaogmfmphamplaaArgs
import Derived.Deep.DeepCutAuto
import Derived.Deep.CutBlock
namespace Go.Proofs.Ytaogmfmphamplaa
open Go.RowKit

theorem u8_bounds {l : List Int} (h : ∀ x ∈ l, (Lit.int .u8 x).wf = true) : ∀ x ∈ l, 0 ≤ x ∧ x ≤ 255 := fun x hx => by
  have := bounds_u8 (h x hx)
  omega

set_option maxRecDepth 100000 in
set_option maxHeartbeats 2000000 in
theorem FeedTells_walk (w : World) (vb : Value) (lb : List (List Int)) (hb : SlRows w w.heap.size [.u8] vb lb) (va : Value) (la : List (List Int)) (ha : SlRows w w.heap.size [.i64] va la) :
    Calls Try.prog 8 #[vb, va] w fun e w' => e = .returned (.bool true) ∧ Below w.heap.size w w' := by
  obtain ⟨ab, cb, rfl, hlb, hmb, hnb, hwb, hcb⟩ := hb.ints
  obtain ⟨aa, ca, rfl, hla, hma, hna, hwa, hca⟩ := ha.ints
  generalize lb.map (·.getD 0 0) = bs at *
  generalize la.map (·.getD 0 0) = asks at *
  clear hb ha
  have hx := u8_bounds hwb
  have hwa' : ∀ x ∈ asks, -9223372036854775808 ≤ x ∧ x ≤ 9223372036854775807 := fun x hx => bounds_i64 (hwa x hx)
  unfold maxLen at hmb hma
  have HL := hid (lives08 w)
  by_cases h1 : 5000 < bs.length
  · clear hcb hca hx hwa hwa' hwb hnb hna
    go_enter Try.func8, Try.ntmps8
    go_wp2_with (go_at_call 31; refine HL.out.mono ?_; rintro e w1 ⟨rfl, hu⟩)
    go_ret
    exact ⟨rfl, hu.below⟩
  by_cases h2 : 500 < asks.length
  · clear hcb hca hx hwa hwa' hwb hnb hna
    go_enter Try.func8, Try.ntmps8
    go_wp2_with (go_at_call 31; refine HL.out.mono ?_; rintro e w1 ⟨rfl, hu⟩)
    go_ret
    exact ⟨rfl, hu.below⟩
  have HN := hid (fnew_calls w ab cb bs (by omega) hx hcb)
  have HCB := hid hcb
  have HCA := hid hca
  have HWA := hid hwa'
  have HX := hid hx
  clear hcb hca hx hwa hwa' hwb hnb hna HL
  go_enter Try.func8, Try.ntmps8
  go_wp2_with fail
  refine HN.out.mono ?_
  rintro e w1 ⟨p, rfl, hf, hp, hu⟩
  go_wp2_with fail
  go_loopw [6, 7] (fun a i wr => ∃ u j : Nat, j ≤ asks.length ∧ u ≤ j ∧ a = .int .i64 u ∧ i = .int .i64 j ∧ IsFd wr p bs u ∧ Upd [] w wr) (fun _ i _ => asks.length - (intOf i).toNat)
  case atStart => exact ⟨0, 0, by omega, by omega, rfl, rfl, hf, hu⟩
  case round =>
    obtain ⟨u, j, hj, huj, rfl, rfl, hF, hU⟩ := hrel
    clear hf hu HN
    by_cases hlt : j < asks.length
    · have HF := hid hF
      have HU := hid hU
      have hUs := hU.size
      clear hF hU
      go_upto_if 30 with fail
      go_cut [8] (fun s8 wx => s8 = .int .u8 (bs.getD u 0) ∧ wx = wr)
      case first =>
        by_cases hub : u < bs.length
        · obtain ⟨b, o, rfl, hbb, hcc⟩ := HCB.out (by omega)
          have hc1 := hcc u hub
          have hc2 := (HU.out.cell (p := ⟨b, o + u, none⟩) hbb (by simp)).trans hc1
          generalize bs.getD u 0 = x at *
          clear hcc hc1
          go_wp2
          go_meet
          exact ⟨rfl, rfl⟩
        · have H0 := hid (getD_out bs u (by omega))
          go_wp2
          go_meet
          exact ⟨by rw [H0.out], rfl⟩
      case rest =>
        obtain ⟨rfl, rfl⟩ := hcut
        obtain ⟨b, o, rfl, hbb, hcc⟩ := HCA.out (by omega)
        have hc2 := (HU.out.cell (p := ⟨b, o + j, none⟩) hbb (by simp)).trans (hcc j hlt)
        have hnb := HWA.out _ (getD_mem asks j hlt)
        have hxb := byte_getD bs u HX.out
        clear hcc
        obtain ⟨x, hxx⟩ : ∃ x : Nat, bs.getD u 0 = x := ⟨(bs.getD u 0).toNat, by omega⟩
        have HXX := hid hxx
        rw [hxx] at hxb ⊢
        clear hxx
        generalize asks.getD j 0 = n at *
        by_cases hn0 : 0 < n
        · have HNX : Hid (∀ W, IsFd W p bs u → Calls Try.prog 33 #[.pointer (some ⟨p, 0, none⟩), .int .i64 n] W (fun e w' => e = .returned (.int .i64 ((x : Int) % n)) ∧ IsFd w' p bs (u + 1) ∧ Upd [p] W w')) := fun W hW => by
            have := next_calls W p bs u n (by omega) (by omega) (by omega) hW
            unfold NextPost at this
            rw [HXX.out] at this
            exact this
          have hb0 : (n == 0) = false := by simp; omega
          have hne : ¬ n = 0 := by omega
          have hmod : Int.tmod (x : Int) n = (x : Int) % n := Int.tmod_eq_emod_of_nonneg (by omega)
          have hlt2 : 0 ≤ (x : Int) % n ∧ (x : Int) % n < n := ⟨Int.emod_nonneg _ hne, Int.emod_lt_of_pos _ hn0⟩
          have hwr : IntKind.i64.wrap (x : Int) = (x : Int) := IntWalk.i64_in _ (by omega)
          clear hlt2
          go_wp2_with fail
          go_region_held3 (fun _ => True) (trivial) (first | (go_at_call 33; refine (HNX.out _ ?_).mono ?_; exact HF.out; rintro e w3 ⟨rfl, h3, hu3⟩))
          have hU3 := hid (HU.out.step (T := [p]) ⟨hu3.os, hu3.tape, hu3.output, hu3.size, hu3.block⟩ (by simp; omega))
          clear hu3 hmod hwr hne hb0
          go_wp2_with fail
          refine (used_calls _ _ _ _ h3).mono ?_
          rintro e w4 ⟨rfl, rfl⟩
          go_wp2_with fail
          go_roundw
          case rel => exact ⟨u + 1, j + 1, by omega, by omega, by go_num, by go_num, h3, hU3.out⟩
          case measure => simp [intOf]; omega
        · by_cases hn1 : n = 0
          · subst hn1
            clear hn0
            go_wp2_with fail
            refine (next_low _ _ _ (by omega)).mono ?_
            rintro e w4 ⟨rfl, rfl⟩
            go_wp2_with fail
            refine (level_low _ _ _ (by omega)).mono ?_
            rintro e w4 ⟨rfl, rfl⟩
            go_wp2_with fail
            refine (next_low _ _ _ (by omega)).mono ?_
            rintro e w4 ⟨rfl, rfl⟩
            go_wp2_with fail
            refine (level_low _ _ _ (by omega)).mono ?_
            rintro e w4 ⟨rfl, rfl⟩
            go_wp2_with fail
            refine (used_calls _ _ _ _ HF.out).mono ?_
            rintro e w4 ⟨rfl, rfl⟩
            go_wp2_with fail
            go_roundw
            case rel => exact ⟨u, j + 1, by omega, by omega, rfl, by go_num, HF.out, HU.out⟩
            case measure => simp [intOf]; omega
          · have hb1 : (n == 0) = false := by simpa using hn1
            by_cases hn2 : -1000 ≤ n
            · have HLV := hid (level_calls wc p bs u (-n) (by omega) (by omega) (by omega) (by omega) HF.out)
              have HL2 : Hid (LevelPost wc p bs u (-n) = fun e w' => e = .returned (.int .i64 (min (1 + (lows 8 x : Int)) (-n))) ∧ IsFd w' p bs (u + 1) ∧ Upd [p] wc w') := by
                show LevelPost wc p bs u (-n) = _
                unfold LevelPost
                rw [HXX.out, Int.toNat_natCast]
              have hlo := lows_le x (by omega)
              go_wp2_with fail
              refine HLV.out.mono ?_
              rw [HL2.out]
              rintro e w3 ⟨rfl, h3, hu3⟩
              have hU3 := hid (HU.out.step hu3 (by simp; omega))
              clear hu3 HL2 HLV
              go_wp2_with fail
              refine (ones_calls _ x (by omega)).mono ?_
              rintro e w4 ⟨rfl, rfl⟩
              generalize lows 8 x = L at *
              by_cases hmn : 1 + (L : Int) ≤ -n
              · have E := hid (show min (1 + (L : Int)) (-n) = 1 + (L : Int) by omega)
                rw [E.out]
                go_wp2_with fail
                refine (used_calls _ _ _ _ h3).mono ?_
                rintro e w5 ⟨rfl, rfl⟩
                go_wp2_with fail
                go_roundw
                case rel => exact ⟨u + 1, j + 1, by omega, by omega, by go_num, by go_num, h3, hU3.out⟩
                case measure => simp [intOf]; omega
              · have E := hid (show min (1 + (L : Int)) (-n) = -n by omega)
                rw [E.out]
                go_wp2_with fail
                refine (used_calls _ _ _ _ h3).mono ?_
                rintro e w5 ⟨rfl, rfl⟩
                go_wp2_with fail
                go_roundw
                case rel => exact ⟨u + 1, j + 1, by omega, by omega, by go_num, by go_num, h3, hU3.out⟩
                case measure => simp [intOf]; omega
            · have hb2 : ¬ -1000 ≤ n := hn2
              go_wp2_with fail
              refine (used_calls _ _ _ _ HF.out).mono ?_
              rintro e w4 ⟨rfl, rfl⟩
              go_wp2_with fail
              go_roundw
              case rel => exact ⟨u, j + 1, by omega, by omega, rfl, by go_num, HF.out, HU.out⟩
              case measure => simp [intOf]; omega
    · have hj' : j = asks.length := by omega
      subst hj'
      clear hlt
      have HU := hid hU
      clear hU
      go_wp2_with fail
      refine (lives08 _).mono ?_
      rintro e w9 ⟨rfl, hu9⟩
      go_wp2_with fail
      go_ret
      exact ⟨rfl, (HU.out.trans hu9).below⟩
end Go.Proofs.Ytaogmfmphamplaa
