/- The walk of the law FeedSame. -/
import Derived.Test.YtaogmfmphamplaaFeedTells
namespace Go.Proofs.Ytaogmfmphamplaa
open Go.RowKit

theorem fd_other {w w' : World} {p q : Nat} {cs bs : List Int} {u v : Nat} (hp : IsFd w p cs u) (hq : IsFd w q bs v) (hne : q ≠ p) (hu : Upd [p] w w') : IsFd w' q bs v := by
  obtain ⟨x, hb, _⟩ := hp
  obtain ⟨y, hc, hs, hx⟩ := hq
  refine ⟨y, hc.upd hu (by simpa using hne), hs.upd hu ?_, hx⟩
  intro g hg
  have := hs.blk_ne hb (by decide)
  simp
  rintro rfl
  exact this hg
theorem fd_none {w w' : World} {q : Nat} {bs : List Int} {v : Nat} (hq : IsFd w q bs v) (hu : Upd [] w w') : IsFd w' q bs v := by
  obtain ⟨y, hc, hs, hx⟩ := hq
  exact ⟨y, hc.upd hu (by simp), hs.upd hu (by simp), hx⟩
theorem fd_lt {w : World} {q : Nat} {bs : List Int} {v : Nat} (hq : IsFd w q bs v) : q < w.heap.size := by
  obtain ⟨y, hc, _⟩ := hq
  exact hc.lt
/-- the cells of an own slice, as New asks them -/
theorem sl_cells {w : World} {g off cap : Nat} {bs : List Int} (h : Sl w 5 1 (.slice (some ⟨g, off, none⟩) bs.length cap) bs.length (bytesV bs)) :
    0 < bs.length → ∃ b o, (some ⟨g, off, none⟩ : Option Addr) = some ⟨b, o, none⟩ ∧ b < w.heap.size ∧ ∀ i, i < bs.length → w.cell? ⟨b, o + i, none⟩ = some (.int .u8 (bs.getD i 0)) := by
  intro hp
  refine ⟨g, off, rfl, h.lt g rfl, fun i hi => ?_⟩
  rw [(h.cells rfl i (by omega)).1]
  simp [bytesV, hi]

set_option maxRecDepth 100000 in
set_option maxHeartbeats 2000000 in
theorem FeedSame_walk (w : World) (vb : Value) (lb : List (List Int)) (hb : SlRows w w.heap.size [.u8] vb lb) (va : Value) (la : List (List Int)) (ha : SlRows w w.heap.size [.i64] va la) :
    Calls Try.prog 9 #[vb, va] w fun e w' => e = .returned (.bool true) ∧ Below w.heap.size w w' := by
  obtain ⟨ab, cb, rfl, hlb, hmb, hnb, hwb, hcb⟩ := hb.ints
  obtain ⟨aa, ca, rfl, hla, hma, hna, hwa, hca⟩ := ha.ints
  generalize lb.map (·.getD 0 0) = bs at *
  generalize la.map (·.getD 0 0) = asks at *
  clear hb ha
  have hx := u8_bounds hwb
  have hwa' : ∀ x ∈ asks, -9223372036854775808 ≤ x ∧ x ≤ 9223372036854775807 := fun x hx => bounds_i64 (hwa x hx)
  unfold maxLen at hmb hma
  have HL := hid (lives08 w)
  by_cases h1 : 5000 < bs.length
  · clear hcb hca hx hwa hwa' hwb hnb hna
    go_enter Try.func9, Try.ntmps9
    go_wp2_with (go_at_call 31; refine HL.out.mono ?_; rintro e w1 ⟨rfl, hu⟩)
    go_ret
    exact ⟨rfl, hu.below⟩
  by_cases h2 : 500 < asks.length
  · clear hcb hca hx hwa hwa' hwb hnb hna
    go_enter Try.func9, Try.ntmps9
    go_wp2_with (go_at_call 31; refine HL.out.mono ?_; rintro e w1 ⟨rfl, hu⟩)
    go_ret
    exact ⟨rfl, hu.below⟩
  have HN := hid (fnew_calls w ab cb bs (by omega) hx hcb)
  have HCB := hid hcb
  have HCA := hid hca
  have HWA := hid hwa'
  have HX := hid hx
  clear hcb hca hx hwa hwa' hwb hnb hna HL
  go_enter Try.func9, Try.ntmps9
  go_upto_region 4 with fail
  go_cut [6, 7] (fun s6 s7 wx => ∃ p q : Nat, s6 = .pointer (some ⟨p, 0, none⟩) ∧ s7 = .pointer (some ⟨q, 0, none⟩) ∧ Hid (IsFd wx p bs 0) ∧ Hid (IsFd wx q bs 0) ∧ Hid (Upd [] w wx) ∧ w.heap.size ≤ p ∧ w.heap.size ≤ q ∧ q ≠ p)
  case first =>
    go_wp2_with fail
    refine HN.out.mono ?_
    rintro e w1 ⟨p, rfl, hf, hp, hu⟩
    have hpl := fd_lt hf
    have HF := hid hf
    have HU := hid hu
    have hle := hu.size
    by_cases h0 : bs.length = 0
    · have hb0 : bs = [] := List.eq_nil_of_length_eq_zero h0
      subst hb0
      clear hf hu HN HCB
      go_wp2_with (refine wpList_append_none _ rfl (.tmp 22) (.tmp 23) 49 rfl 5 Try.underlying49 (by kernel_rfl) _ 0 0 rfl (Nat.le_refl _) _ _ rfl ?_)
      refine (fnew_calls _ _ _ [] (by simp) (by simp) (by simp)).mono ?_
      rintro e w2 ⟨q, rfl, hf2, hq, hu2⟩
      go_wp2_with fail
      go_meet
      have hq' : w1.heap.size < q := by simp at hq; omega
      exact ⟨p, q, rfl, rfl, fd_none (fd_none HF.out ((Upd.refl _ _).alloc _)) hu2, hf2, (HU.out.alloc _).trans hu2, hp, by omega, by omega⟩
    · obtain ⟨b, o, rfl, hbb, hcell⟩ := HCB.out (by omega)
      have HE : Hid (Sl (w1.alloc (.cells #[] 5)) 5 1 (.slice (some ⟨w1.heap.size, 0, none⟩) 0 0) 0 []) := Sl.made w1 5 #[] 0 (by unfold maxLen; omega) rfl
      have HNW : Hid (∀ j u, (bytesV bs)[j]? = some u → (w1.alloc (.cells #[] 5)).cell? ((⟨b, o, none⟩ : Addr).add j) = some u) := by
        intro j u hu'
        have hj : j < bs.length := by
          rcases Nat.lt_or_ge j bs.length with h | h
          · exact h
          · rw [List.getElem?_eq_none (by simpa [bytesV] using h)] at hu'; cases hu'
        rw [Addr.add_lit, World.cell?_alloc_lt _ _ _ (Nat.lt_of_lt_of_le hbb hle), HU.out.cell hbb (by simp), hcell j hj, ← hu']
        simp [bytesV, hj]
      have hpos : 0 < bs.length := by omega
      clear hcell hf hu HN HCB
      go_wp2_with (refine wpList_append_sl _ rfl (.tmp 22) (.tmp 23) 49 rfl 5 (.int .u8 0) 1 1 Try.underlying49 info5 rfl (by decide) _ 0 [] rfl HE.out _ bs.length _ (bytesV bs) rfl (by simp [bytesV]) HNW.out (bytes_one bs) hpos (by unfold maxLen; omega) (by omega) ?_; intro g off cp w2 hs2 hg2 hat)
      have hg3 : (w1.alloc (.cells #[] 5)).grownBy w2 (some w1.heap.size) := hg2
      have hU2 : Upd [] w1 w2 := ((Upd.refl [] w1).alloc _).grown hg3 (fun k hk => .inr (by cases hk; exact Nat.le_refl _))
      simp only [Nat.zero_add, List.nil_append] at hs2
      refine (fnew_calls _ _ _ bs (by omega) HX.out (sl_cells hs2)).mono ?_
      rintro e w3 ⟨q, rfl, hf2, hq, hu2⟩
      have h2s := hU2.size
      have HU2 := hid hU2
      have HU3 := hid hu2
      have HF2 := hid hf2
      clear hg3 hat hs2 hg2 hU2 hu2 hf2
      go_wp2_with fail
      go_meet
      have hq' : w1.heap.size ≤ q := by omega
      exact ⟨p, q, rfl, rfl, fd_none (fd_none HF.out HU2.out) HU3.out, HF2.out, (HU.out.trans HU2.out).trans HU3.out, hp, by omega, by omega⟩
  case rest =>
    obtain ⟨p, q, rfl, rfl, hF, hG, hU, hp, hq, hqp⟩ := hcut
    clear HN HCB
    go_wp2_with fail
    go_loopw [8] (fun i wr => ∃ u j : Nat, j ≤ asks.length ∧ u ≤ j ∧ i = .int .i64 j ∧ IsFd wr p bs u ∧ IsFd wr q bs u ∧ Upd [] w wr) (fun i _ => asks.length - (intOf i).toNat)
    case atStart => exact ⟨0, 0, by omega, by omega, rfl, hF.out, hG.out, hU.out⟩
    case round =>
      obtain ⟨u, j, hj, huj, rfl, hF', hG', hU'⟩ := hrel
      clear hF hG hU
      by_cases hlt : j < asks.length
      · have hF := hid hF'
        have hG := hid hG'
        have hU := hid hU'
        clear hF' hG' hU'
        obtain ⟨b, o, rfl, hbb, hcc⟩ := HCA.out (by omega)
        have hc0 := hid (hcc j hlt)
        have hc2 := (hU.out.cell (p := ⟨b, o + j, none⟩) hbb (by simp)).trans (hcc j hlt)
        have hnb := HWA.out _ (getD_mem asks j hlt)
        have hxb := byte_getD bs u HX.out
        clear hcc
        generalize asks.getD j 0 = n at *
        go_upto_region 8 with fail
        go_cut [9, 10] (fun s9 s10 wx => ∃ (y : Int) (u' : Nat), s9 = .int .i64 y ∧ s10 = .int .i64 y ∧ 0 ≤ y ∧ (0 < n → y < n) ∧ u' ≤ u + 1 ∧ Hid (IsFd wx p bs u') ∧ Hid (IsFd wx q bs u') ∧ Hid (Upd [] w wx))
        case first =>
          have hcw : b < wr.heap.size := Nat.lt_of_lt_of_le hbb hU.out.size
          have hpb : b ≠ p := by omega
          have hqb : b ≠ q := by omega
          by_cases hn : 1 ≤ n
          · have HNX : Hid (∀ W r, IsFd W r bs u → Calls Try.prog 33 #[.pointer (some ⟨r, 0, none⟩), .int .i64 n] W (fun e w' => e = .returned (.int .i64 (bs.getD u 0 % n)) ∧ IsFd w' r bs (u + 1) ∧ Upd [r] W w')) := fun W r hW => next_calls W r bs u n hn (by omega) (by omega) hW
            have hy1 : 0 ≤ bs.getD u 0 % n := Int.emod_nonneg _ (by omega)
            have hy2 : bs.getD u 0 % n < n := Int.emod_lt_of_pos _ (by omega)
            generalize bs.getD u 0 % n = y at *
            go_region_held3 (fun w' => w'.cell? ⟨b, o + j, none⟩ = some (.int .i64 n))
              (first | (with_reducible exact k0) | (with_reducible exact k1) | go_keep)
              (first
                | (go_at_call_of 33 (Value.pointer (some ⟨p, 0, none⟩)); refine (HNX.out _ p ?_).mono ?_; exact hF.out; rintro e w3 ⟨rfl, h3, hu3⟩; have hu3' : Upd [p] wr w3 := ⟨hu3.os, hu3.tape, hu3.output, hu3.size, hu3.block⟩; have h4 := fd_other hF.out hG.out hqp hu3'; have k0 := (hu3'.cell (p := ⟨b, o + j, none⟩) hcw (by simp; exact hpb)).trans hc2)
                | (go_at_call_of 33 (Value.pointer (some ⟨q, 0, none⟩)); refine (HNX.out _ q ?_).mono ?_; exact h4; rintro e w5 ⟨rfl, h5, hu5⟩; have k1 := (hu5.cell (p := ⟨b, o + j, none⟩) (Nat.lt_of_lt_of_le hcw hu3'.size) (by simp; exact hqb)).trans k0))
            have h6 := fd_other h4 h3 (Ne.symm hqp) hu5
            have hU6 := (hU.out.step hu3' (by simp; omega)).step hu5 (by simp; omega)
            clear h3 h4 hu3 hu3' hu5 k0 k1
            go_wp2_with fail
            go_meet
            exact ⟨y, u + 1, rfl, rfl, hy1, fun _ => hy2, by omega, h6, h5, hU6⟩
          · go_region_held3 (fun w' => w'.cell? ⟨b, o + j, none⟩ = some (.int .i64 n)) (go_keep)
              (first | (go_at_call 33; refine (next_low _ _ _ (by omega)).mono ?_; rintro e w3 ⟨rfl, rfl⟩))
            go_wp2_with fail
            go_meet
            exact ⟨0, u, rfl, rfl, by omega, fun h => by omega, by omega, hF, hG, hU.out.drew⟩
        case rest =>
          obtain ⟨y, u', rfl, rfl, hy0, hyn, hu', hF2, hG2, hU2⟩ := hcut
          clear hF hG hU hc2
          have hc2 := (hU2.out.cell (p := ⟨b, o + j, none⟩) hbb (by simp)).trans hc0.out
          by_cases hn : 0 < n
          · have hy1 := hyn hn
            clear hyn
            go_wp2_with fail
            refine (next_nil _ _).mono ?_
            rintro e w3 ⟨rfl, rfl⟩
            go_wp2_with fail
            refine (level_nil _ _).mono ?_
            rintro e w3 ⟨rfl, rfl⟩
            go_wp2_with fail
            go_roundw
            case rel => exact ⟨u', j + 1, by omega, by omega, by go_num, hF2.out, hG2.out, hU2.out⟩
            case measure => simp [intOf]; omega
          · clear hyn
            go_wp2_with fail
            refine (next_nil _ _).mono ?_
            rintro e w3 ⟨rfl, rfl⟩
            go_wp2_with fail
            refine (level_nil _ _).mono ?_
            rintro e w3 ⟨rfl, rfl⟩
            go_wp2_with fail
            go_roundw
            case rel => exact ⟨u', j + 1, by omega, by omega, by go_num, hF2.out, hG2.out, hU2.out⟩
            case measure => simp [intOf]; omega
      · have hj' : j = asks.length := by omega
        subst hj'
        clear hlt
        have hU := hid hU'
        clear hU'
        go_wp2_with fail
        refine (used_calls _ _ _ _ hF').mono ?_
        rintro e w4 ⟨rfl, rfl⟩
        go_wp2_with fail
        refine (used_calls _ _ _ _ hG').mono ?_
        rintro e w4 ⟨rfl, rfl⟩
        go_wp2_with fail
        refine (used_nil _).mono ?_
        rintro e w4 ⟨rfl, rfl⟩
        go_wp2_with fail
        refine (lives08 _).mono ?_
        rintro e w9 ⟨rfl, hu9⟩
        go_wp2_with fail
        go_ret
        exact ⟨rfl, (hU.out.trans hu9).below⟩
end Go.Proofs.Ytaogmfmphamplaa
