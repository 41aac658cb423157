/- The contracts of package feed: what each call does to a feed in memory. -/
import Derived.Test.YtaogmfmphamplaaSlice
import Derived.Laws.BitsLemmas
namespace Go.Proofs.Ytaogmfmphamplaa
open Go.RowKit

def bytesV (l : List Int) : List Value := l.map (Value.int .u8)

/-- a feed at p: its bytes and how many were asked for -/
def IsFd (w : World) (p : Nat) (bs : List Int) (u : Nat) : Prop :=
  ∃ v, Blk w p 95 #[v, .int .i64 u] ∧ Sl w 5 1 v bs.length (bytesV bs) ∧ ∀ x ∈ bs, 0 ≤ x ∧ x ≤ 255

theorem info5 : (Try.prog.info? 5).map (fun i => (i.zero, i.size, i.bytes)) = some (some (.int .u8 0), 1, 1) := by kernel_rfl

def TakePost (w : World) (p : Nat) (bs : List Int) (u : Nat) (e : Ending) (w' : World) : Prop :=
  e = .returned (.int .i64 (bs.getD u 0)) ∧ IsFd w' p bs (u + 1) ∧ Upd [p] w w'

theorem getD_mem (l : List Int) (i : Nat) (h : i < l.length) : l.getD i 0 ∈ l := by simp [List.getD, h]
theorem getD_out (l : List Int) (i : Nat) (h : l.length ≤ i) : l.getD i 0 = 0 := by simp [List.getD, List.getElem?_eq_none h]

set_option maxHeartbeats 400000 in
theorem take_calls (w : World) (p : Nat) (bs : List Int) (u : Nat) (hu : u < 1000000) (hl : bs.length ≤ 1000000) (h : IsFd w p bs u) :
    Calls Try.prog 65 #[.pointer (some ⟨p, 0, none⟩)] w (TakePost w p bs u) := by
  obtain ⟨v, hb, hs, hx⟩ := h
  have hne := hs.blk_ne hb (by decide)
  have c0 := hb.cell 0
  have c1 := hb.cell 1
  have f1 := hb.frozen 1
  simp at c0 c1
  have hfin : IsFd (w.setCell ⟨p, 1, none⟩ (.int .i64 ((u : Int) + 1))) p bs (u + 1) :=
    ⟨v, by simpa using hb.set_ 1 (.int .i64 ((u : Int) + 1)), hs.far hne _, hx⟩
  have HF := hid hfin
  have HU := hid ((Upd.refl [p] w).setCell (p := ⟨p, 1, none⟩) (.inl (by simp)) (.int .i64 ((u : Int) + 1)))
  clear hfin
  by_cases hlt : u < bs.length
  · have hm := hx _ (getD_mem bs u hlt)
    rcases hs.2 with ⟨_, h0⟩ | ⟨g, off, cap, cur, rfl, _, hc, _⟩
    · omega
    have hcell := (hs.cells rfl u (by omega)).1
    have hgp : g ≠ p := by simpa [Value.ownBlock] using hne
    have hcell' : w.cell? ⟨g, off + u, none⟩ = some (.int .u8 (bs.getD u 0)) := by rw [hcell]; simp [bytesV, hlt]
    unfold TakePost
    generalize bs.getD u 0 = x at *
    have HS := hid hs
    clear hs hcell hx hb hne
    go_enter Try.func65, Try.ntmps65
    go_wp2_with fail
    go_quiet (fail)
    go_wp2_with fail
    go_quiet (fail)
    go_wp2
    go_ret
    exact ⟨rfl, HF.out, (HU.out.drewN _).drewN _⟩
  · rw [show TakePost w p bs u = fun e w' => e = .returned (.int .i64 0) ∧ IsFd w' p bs (u + 1) ∧ Upd [p] w w' by unfold TakePost; rw [getD_out _ _ (by omega)]]
    obtain ⟨a, cap, rfl, hc, _⟩ := hs.form
    clear hs hx hb hne
    go_enter Try.func65, Try.ntmps65
    go_wp2_with fail
    go_quiet (fail)
    go_wp2
    go_ret
    exact ⟨rfl, HF.out, HU.out.drewN _⟩

theorem take_nil (w : World) : Calls Try.prog 65 #[.pointer none] w fun e w' => e = .returned (.int .i64 0) ∧ w = w' := by
  go_enter Try.func65, Try.ntmps65
  go_wp2
  go_ret
  exact ⟨rfl, rfl⟩

def NextPost (w : World) (p : Nat) (bs : List Int) (u : Nat) (n : Int) (e : Ending) (w' : World) : Prop :=
  e = .returned (.int .i64 (bs.getD u 0 % n)) ∧ IsFd w' p bs (u + 1) ∧ Upd [p] w w'

theorem byte_getD (bs : List Int) (u : Nat) (hx : ∀ x ∈ bs, 0 ≤ x ∧ x ≤ 255) : 0 ≤ bs.getD u 0 ∧ bs.getD u 0 ≤ 255 := by
  by_cases h : u < bs.length
  · exact hx _ (getD_mem bs u h)
  · rw [getD_out _ _ (by omega)]; omega

set_option maxHeartbeats 400000 in
theorem next_calls (w : World) (p : Nat) (bs : List Int) (u : Nat) (n : Int) (hn : 1 ≤ n) (hu : u < 1000000) (hl : bs.length ≤ 1000000) (h : IsFd w p bs u) :
    Calls Try.prog 33 #[.pointer (some ⟨p, 0, none⟩), .int .i64 n] w (NextPost w p bs u n) := by
  have hb := byte_getD bs u h.choose_spec.2.2
  have ht := take_calls w p bs u hu hl h
  unfold NextPost
  unfold TakePost at ht
  generalize bs.getD u 0 = x at *
  have HT := hid ht
  clear ht
  go_enter Try.func33, Try.ntmps33
  go_wp2_with (go_at_call 65; refine HT.out.mono ?_; rintro e w1 ⟨rfl, hf, hq⟩)
  go_ret
  exact ⟨rfl, hf, hq⟩

theorem next_low (w : World) (a : Option Addr) (n : Int) (hn : n < 1) :
    Calls Try.prog 33 #[.pointer a, .int .i64 n] w fun e w' => e = .returned (.int .i64 0) ∧ w = w' := by
  go_enter Try.func33, Try.ntmps33
  go_wp2
  go_ret
  exact ⟨rfl, rfl⟩
theorem next_nil (w : World) (n : Int) :
    Calls Try.prog 33 #[.pointer none, .int .i64 n] w fun e w' => e = .returned (.int .i64 0) ∧ w = w' := by
  by_cases hn : n < 1
  · exact next_low w none n hn
  · go_enter Try.func33, Try.ntmps33
    go_wp2_with (go_at_call 65; refine (take_nil _).mono ?_; rintro e w1 ⟨rfl, rfl⟩)
    go_ret
    exact ⟨by simp, rfl⟩

theorem used_calls (w : World) (p : Nat) (bs : List Int) (u : Nat) (h : IsFd w p bs u) :
    Calls Try.prog 36 #[.pointer (some ⟨p, 0, none⟩)] w fun e w' => e = .returned (.int .i64 u) ∧ w = w' := by
  obtain ⟨v, hb, hs, hx⟩ := h
  have c1 := hb.cell 1
  simp at c1
  go_enter Try.func36, Try.ntmps36
  go_wp2
  go_ret
  exact ⟨rfl, rfl⟩
theorem used_nil (w : World) : Calls Try.prog 36 #[.pointer none] w fun e w' => e = .returned (.int .i64 0) ∧ w = w' := by
  go_enter Try.func36, Try.ntmps36
  go_wp2
  go_ret
  exact ⟨rfl, rfl⟩

theorem level_low (w : World) (a : Option Addr) (n : Int) (hn : n < 1) :
    Calls Try.prog 34 #[.pointer a, .int .i64 n] w fun e w' => e = .returned (.int .i64 1) ∧ w = w' := by
  go_enter Try.func34, Try.ntmps34
  go_wp2
  go_ret
  exact ⟨rfl, rfl⟩

/-- how many bits at the lower end are 1 -/
def lows : Nat → Nat → Nat
  | 0, _ => 0
  | f + 1, c => if c % 2 = 1 then 1 + lows f (c / 2) else 0
theorem lows_bit : ∀ c, c < 256 → ∀ i, i < 9 → i ≤ lows 8 c → (c / 2 ^ i % 2 = 1 ↔ i < lows 8 c) := by decide +kernel
theorem lows_le : ∀ c, c < 256 → lows 8 c ≤ 8 := by decide +kernel

theorem wraps_i64' (n : Int) (h₀ : 0 ≤ n) (h₁ : n < 2 ^ 63) : IntKind.i64.wrap n = n := by rw [IntKind.wrap_i64]; omega
theorem and_one (c j : Nat) (hc : c < 256) : bits .and .i64 ((c : Int) / 2 ^ j) 1 = ((c / 2 ^ j % 2 : Nat) : Int) := by
  have e : ((c : Int) / 2 ^ j) = ((c / 2 ^ j : Nat) : Int) := by simp
  have hle : c / 2 ^ j ≤ c := Nat.div_le_self _ _
  have := (bits_nat .i64 63 (by decide) wraps_i64' (c / 2 ^ j) 1 (by omega) (by decide)).1
  rw [e]
  have e1 : ((1 : Nat) : Int) = 1 := rfl
  rw [e1] at this
  rw [this, Nat.and_one_is_mod]

def LevelPost (w : World) (p : Nat) (bs : List Int) (u : Nat) (n : Int) (e : Ending) (w' : World) : Prop :=
  e = .returned (.int .i64 (min (1 + (lows 8 (bs.getD u 0).toNat : Int)) n)) ∧ IsFd w' p bs (u + 1) ∧ Upd [p] w w'

set_option maxHeartbeats 400000 in
theorem level_calls (w : World) (p : Nat) (bs : List Int) (u : Nat) (n : Int) (hn : 1 ≤ n) (hn2 : n ≤ 1000000) (hu : u < 1000000) (hl : bs.length ≤ 1000000) (h : IsFd w p bs u) :
    Calls Try.prog 34 #[.pointer (some ⟨p, 0, none⟩), .int .i64 n] w (LevelPost w p bs u n) := by
  have hb := byte_getD bs u h.choose_spec.2.2
  have ht := take_calls w p bs u hu hl h
  unfold LevelPost
  unfold TakePost at ht
  generalize bs.getD u 0 = x at *
  obtain ⟨c, rfl⟩ : ∃ c : Nat, x = c := ⟨x.toNat, by omega⟩
  have hlb := lows_bit c (by omega)
  have hll := lows_le c (by omega)
  rw [Int.toNat_natCast]
  generalize lows 8 c = L at *
  have HT := hid ht
  have HB := hid hlb
  clear ht hlb
  go_enter Try.func34, Try.ntmps34
  go_wp2_with (go_at_call 65; refine HT.out.mono ?_; rintro e w1 ⟨rfl, hf, hq⟩)
  go_loop [6, 12] (fun _ i => ∃ j : Nat, j ≤ L ∧ (j : Int) ≤ n ∧ i = .int .i64 j) (fun _ i => 20 - (intOf i).toNat)
  case atStart => exact ⟨0, Nat.zero_le _, by omega, rfl⟩
  case round =>
    obtain ⟨j, hj, hjn, rfl⟩ := hrel
    have hbit := and_one c j (by omega)
    have hb2 := HB.out j (by omega) hj
    by_cases hlt : (j : Int) < n
    · by_cases hjL : j < L
      · have e1 : (bits .and .i64 ((c : Int) / 2 ^ j) 1 == 0) = false := by rw [hbit, hb2.2 hjL]; rfl
        clear hbit hb2
        go_wp2
        go_round
        case rel => exact ⟨j + 1, by omega, by omega, by go_num⟩
        case measure => simp [intOf]; omega
      · have e1 : (bits .and .i64 ((c : Int) / 2 ^ j) 1 == 0) = true := by
          have : ¬ c / 2 ^ j % 2 = 1 := fun h => hjL (hb2.1 h)
          rw [hbit, show c / 2 ^ j % 2 = 0 by omega]; rfl
        have e2 : j = L := by omega
        subst e2
        have E3 := hid (show min (1 + (j : Int)) n = (j : Int) + 1 by omega)
        clear hbit hb2
        go_wp2
        go_ret
        exact ⟨by rw [E3.out]; rfl, hf, hq⟩
    · have E3 := hid (show min (1 + (L : Int)) n = n by omega)
      clear hbit hb2
      go_wp2
      go_ret
      exact ⟨by rw [E3.out]; rfl, hf, hq⟩

theorem level_nil (w : World) (n : Int) :
    Calls Try.prog 34 #[.pointer none, .int .i64 n] w fun e w' => e = .returned (.int .i64 1) ∧ w = w' := by
  by_cases hn : n < 1
  · exact level_low w none n hn
  · have e1 : (bits .and .i64 0 1 == 0) = true := by rw [show bits .and .i64 0 1 = 0 from by decide]; rfl
    go_enter Try.func34, Try.ntmps34
    go_wp2_with (go_at_call 65; refine (take_nil _).mono ?_; rintro e w1 ⟨rfl, rfl⟩)
    go_loop [6, 12] (fun _ i => i = .int .i64 0) (fun _ _ => 0)
    case atStart => rfl
    case round =>
      obtain rfl := hrel
      go_wp2
      go_ret
      exact ⟨rfl, rfl⟩

/-- the bytes of a slice that came in -/
theorem new_fd (w : World) (v : Value) (bs : List Int) (h : Sl w 5 1 v bs.length (bytesV bs)) (hx : ∀ x ∈ bs, 0 ≤ x ∧ x ≤ 255) : IsFd (w.alloc (.cells #[v, .int .i64 0] 95)) w.heap.size bs 0 :=
  ⟨v, Blk.new _ _ _, h.alloc _, hx⟩

def FNewPost (w : World) (bs : List Int) (e : Ending) (w' : World) : Prop :=
  ∃ p, e = .returned (.pointer (some ⟨p, 0, none⟩)) ∧ IsFd w' p bs 0 ∧ w.heap.size ≤ p ∧ Upd [] w w'

theorem bytes_one (bs : List Int) : ∀ u ∈ bytesV bs, u.oneCell' = true := by
  intro u hu
  simp only [bytesV, List.mem_map] at hu
  obtain ⟨x, _, rfl⟩ := hu
  rfl

set_option maxHeartbeats 400000 in
theorem fnew_calls (w : World) (a : Option Addr) (cap : Nat) (bs : List Int) (hl : bs.length ≤ 1000000) (hx : ∀ x ∈ bs, 0 ≤ x ∧ x ≤ 255)
    (hc : 0 < bs.length → ∃ b o, a = some ⟨b, o, none⟩ ∧ b < w.heap.size ∧ ∀ i, i < bs.length → w.cell? ⟨b, o + i, none⟩ = some (.int .u8 (bs.getD i 0))) :
    Calls Try.prog 32 #[.slice a bs.length cap] w (FNewPost w bs) := by
  by_cases h0 : bs.length = 0
  · have hb : bs = [] := List.eq_nil_of_length_eq_zero h0
    subst hb
    clear hc
    go_enter Try.func32, Try.ntmps32
    go_wp2_with (refine wpList_append_none _ rfl _ _ 49 rfl 5 Try.underlying49 (by kernel_rfl) _ 0 0 rfl (Nat.le_refl _) _ _ rfl ?_)
    go_ret
    exact ⟨_, rfl, by have := new_fd _ _ [] (Sl.made w 5 #[] 0 (by unfold maxLen; omega) rfl) (by simp); simpa using this, by omega, ((Upd.refl _ _).alloc _).alloc _⟩
  · obtain ⟨b, o, rfl, hb, hcell⟩ := hc (by omega)
    have HE : Hid (Sl (w.alloc (.cells #[] 5)) 5 1 (.slice (some ⟨w.heap.size, 0, none⟩) 0 0) 0 []) := Sl.made w 5 #[] 0 (by unfold maxLen; omega) rfl
    have HN : Hid (∀ j u, (bytesV bs)[j]? = some u → (w.alloc (.cells #[] 5)).cell? ((⟨b, o, none⟩ : Addr).add j) = some u) := by
      intro j u hu
      have hj : j < bs.length := by
        rcases Nat.lt_or_ge j bs.length with h | h
        · exact h
        · rw [List.getElem?_eq_none (by simpa [bytesV] using h)] at hu; cases hu
      rw [Addr.add_lit, World.cell?_alloc_lt _ _ _ hb, hcell j hj, ← hu]
      simp [bytesV, hj]
    have hpos : 0 < bs.length := by omega
    clear hcell hc
    go_enter Try.func32, Try.ntmps32
    go_wp2_with (refine wpList_append_sl _ rfl (.tmp 3) (.tmp 4) 49 rfl 5 (.int .u8 0) 1 1 Try.underlying49 info5 rfl (by decide) _ 0 [] rfl HE.out _ bs.length _ (bytesV bs) rfl (by simp [bytesV]) HN.out (bytes_one bs) hpos (by unfold maxLen; omega) (by omega) ?_; intro g off cp w2 hs2 hg2 hat)
    go_ret
    refine ⟨_, rfl, new_fd _ _ bs (by simpa using hs2) hx, ?_, ?_⟩
    · have := hg2.size; simp at this; omega
    · have hg3 : (w.alloc (.cells #[] 5)).grownBy w2 (some w.heap.size) := hg2
      have hu : Upd [] w w2 := ((Upd.refl [] w).alloc _).grown hg3 (fun k hk => .inr (by cases hk; exact Nat.le_refl _))
      exact hu.alloc _

theorem lows_step (f y : Nat) : lows (f + 1) y = if y % 2 = 1 then 1 + lows f (y / 2) else 0 := rfl
/-- the law's ones -/
theorem ones_calls (w : World) (c : Nat) (hc : c < 256) : Calls Try.prog 35 #[.int .u8 c] w fun e w' => e = .returned (.int .i64 (lows 8 c)) ∧ w = w' := by
  go_enter Try.func35, Try.ntmps35
  go_wp2
  go_loop [0, 3] (fun x m => ∃ (y k : Nat), y < 256 ∧ k ≤ 8 ∧ x = .int .u8 y ∧ m = .int .i64 k ∧ Hid (k + lows (8 - k) y = lows 8 c)) (fun _ m => 8 - (intOf m).toNat)
  case atStart => exact ⟨c, 0, hc, by omega, rfl, rfl, by simp [Hid]⟩
  case round =>
    obtain ⟨y, k, hy, hk, rfl, rfl, hl⟩ := hrel
    by_cases h1 : y % 2 = 1
    · by_cases hk8 : k < 8
      · have hl' : Hid (k + 1 + lows (8 - (k + 1)) (y / 2) = lows 8 c) := by
          have := hl.out
          rw [show 8 - k = (8 - (k + 1)) + 1 by omega] at this
          rw [lows_step, if_pos h1] at this
          show k + 1 + lows (8 - (k + 1)) (y / 2) = lows 8 c
          omega
        have e1 : ((y : Int) % 2 == 1) = true := by simp; omega
        clear hl h1
        go_wp2
        go_round
        case rel => exact ⟨y / 2, k + 1, by omega, by omega, by go_num, by go_num, hl'⟩
        case measure => simp [intOf]; omega
      · have hk' : k = 8 := by omega
        subst hk'
        have hl' : Hid (lows 8 c = 8) := by have := hl.out; show lows 8 c = 8; rw [show 8 - 8 = 0 from rfl, show lows 0 y = 0 from rfl] at this; omega
        have e1 : ((y : Int) % 2 == 1) = true := by simp; omega
        clear hl h1
        go_wp2
        go_ret
        exact ⟨by rw [hl'.out]; rfl, rfl⟩
    · have hl' : Hid (lows 8 c = k) := by
        have := hl.out
        show lows 8 c = k
        by_cases hk8 : k < 8
        · rw [show 8 - k = (8 - (k + 1)) + 1 by omega, lows_step, if_neg h1] at this; omega
        · rw [show 8 - k = 0 by omega, show lows 0 y = 0 from rfl] at this; omega
      have e1 : ((y : Int) % 2 == 1) = false := by simp; omega
      clear hl h1
      go_wp2
      go_ret
      exact ⟨by rw [hl'.out]; rfl, rfl⟩

theorem fd_upd {w w' : World} {p : Nat} {bs : List Int} {u : Nat} {S : List Nat} (h : IsFd w p bs u) (hu : Upd S w w') (hp : p ∉ S) (hs : ∀ v, Blk w p 95 #[v, .int .i64 u] → ∀ g, v.ownBlock = some g → g ∉ S) : IsFd w' p bs u := by
  obtain ⟨v, hb, hsl, hx⟩ := h
  exact ⟨v, hb.upd hu hp, hsl.upd hu (hs v hb), hx⟩

set_option maxHeartbeats 400000 in
theorem lives08 (w : World) : Calls Try.prog 31 #[] w fun e w' => e = .returned (.bool true) ∧ Upd [] w w' := by
  have hb : Blk (w.alloc (.cells #[.int .u8 7, .int .u8 200] 5)) w.heap.size 5 #[.int .u8 7, .int .u8 200] := Blk.new _ _ _
  have hc : ∀ i, i < [(7 : Int), 200].length → (w.alloc (.cells #[.int .u8 7, .int .u8 200] 5)).cell? ⟨w.heap.size, 0 + i, none⟩ = some (.int .u8 ([(7 : Int), 200].getD i 0)) := by
    intro i hi
    have hi : i < 2 := hi
    rw [hb.cell]
    rcases (show i = 0 ∨ i = 1 by omega) with rfl | rfl <;> rfl
  have HC := hid hc
  clear hb hc
  go_enter Try.func31, Try.ntmps31
  go_wp2_with fail
  refine (fnew_calls _ _ _ [7, 200] (by simp) (by simp) (fun _ => ⟨_, _, rfl, by simp, HC.out⟩)).mono ?_
  rintro e w1 ⟨p, rfl, h1, hp, hu1⟩
  go_wp2_with fail
  refine (level_calls _ _ _ _ _ (by omega) (by omega) (by omega) (by simp) h1).mono ?_
  rintro e w2 ⟨rfl, h2, hu2⟩
  rw [show min (1 + (lows 8 (([7, 200] : List Int).getD 0 0).toNat : Int)) 6 = 4 from by decide]
  go_wp2_with fail
  refine (next_calls _ _ _ _ _ (by omega) (by omega) (by simp) h2).mono ?_
  rintro e w3 ⟨rfl, h3, hu3⟩
  rw [show ([7, 200] : List Int).getD (0 + 1) 0 % 100 = 0 from by decide]
  go_wp2_with fail
  refine (next_calls _ _ _ _ _ (by omega) (by omega) (by simp) h3).mono ?_
  rintro e w4 ⟨rfl, h4, hu4⟩
  rw [show ([7, 200] : List Int).getD (0 + 1 + 1) 0 % 5 = 0 from by decide]
  go_wp2_with fail
  refine (used_calls _ _ _ _ h4).mono ?_
  rintro e w5 ⟨rfl, rfl⟩
  go_wp2_with fail
  go_ret
  have hpw : w.heap.size ≤ p := by simp at hp; omega
  exact ⟨rfl, (((((Upd.refl [] w).alloc _).trans hu1).step hu2 (by simp; omega)).step hu3 (by simp; omega)).step hu4 (by simp; omega)⟩
end Go.Proofs.Ytaogmfmphamplaa
