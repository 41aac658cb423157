/- The walk of the law GhostPlays. -/
import Derived.Test.YtaogmfmphamplaaGhostRounds
import Derived.Deep.DeepCutAuto
import Derived.Deep.CutBlock
namespace Go.Proofs.Ytaogmfmphamplaa
open Go.RowKit

/-- an op's two numbers -/
def opK (ls : List (List Int)) (j : Nat) : Int := (ls.getD j []).getD 0 0
def opI (ls : List (List Int)) (j : Nat) : Int := (ls.getD j []).getD 1 0

theorem getD_some (l : List Int) (i : Nat) (h : i < l.length) : l[i]? = some (l.getD i 0) := by simp [List.getD, h]
theorem rows2 {w : World} {B : Nat} {v : Value} {ls : List (List Int)} (h : SlRows w B [.i64, .i64] v ls) {j : Nat} (hj : j < ls.length) :
    ∃ a cap, v = .slice (some a) ls.length cap ∧ a.block < B ∧ w.cell? (a.add (j * 2)) = some (.int .i64 (opK ls j)) ∧ w.cell? ((a.add (j * 2)).add 1) = some (.int .i64 (opI ls j)) ∧ -9223372036854775808 ≤ opI ls j := by
  rcases h with ⟨_, rfl⟩ | ⟨a, cap, rfl, hl, hm, hb, hf, hc⟩
  · simp at hj
  · have h0 := hc j 0 hj (by decide)
    have h1 := hc j 1 hj (by decide)
    have hfit := hf (ls.getD j []) (by simp [List.getD, hj])
    refine ⟨a, cap, rfl, hb (by omega), by simpa [Addr.add, opK] using h0, h1, ?_⟩
    have hl : (ls.getD j []).length = 2 := hfit.1
    have hw := hfit.2 1 .i64 (opI ls j) rfl (getD_some _ _ (by omega))
    exact (bounds_i64 hw).1
theorem rows_len {w : World} {B : Nat} {ks : List IntKind} {v : Value} {ls : List (List Int)} (h : SlRows w B ks v ls) : ∃ a cap, v = .slice a ls.length cap ∧ ls.length ≤ maxLen := by
  rcases h with ⟨rfl, rfl⟩ | ⟨a, cap, rfl, hl, hm, _⟩
  · exact ⟨none, 0, rfl, by simp⟩
  · exact ⟨some a, cap, rfl, by omega⟩


theorem rows2' {w : World} {B : Nat} {v : Value} {ls : List (List Int)} (h : SlRows w B [.i64, .i64] v ls) (hp : 0 < ls.length) :
    ∃ ab ao cap, v = .slice (some ⟨ab, ao, none⟩) ls.length cap ∧ ab < B ∧ ∀ j, j < ls.length → w.cell? ⟨ab, ao + j * 2, none⟩ = some (.int .i64 (opK ls j)) ∧ w.cell? ⟨ab, ao + j * 2 + 1, none⟩ = some (.int .i64 (opI ls j)) ∧ -9223372036854775808 ≤ opI ls j := by
  obtain ⟨a, cap, rfl, hb, h0, _, _⟩ := rows2 h hp
  have hsp : a.spot = none := by
    simp [Addr.add] at h0
    unfold World.cell? at h0
    split at h0
    · split at h0
      · cases h0
      · rename_i hs; simpa using hs
    · cases h0
  obtain ⟨ab, ao, sp⟩ := a
  simp at hsp
  subst hsp
  refine ⟨ab, ao, cap, rfl, hb, fun j hj => ?_⟩
  obtain ⟨a', cap', hv', _, h0', h1', h2'⟩ := rows2 h hj
  injection hv' with hv' _ _
  injection hv' with hv'
  subst hv'
  rw [Addr.add_lit] at h0' h1'
  rw [Addr.add_lit] at h1'
  exact ⟨h0', h1', h2'⟩

/-- the law's own reckoning of one deed: the kind of its fault (0: none), the tags behind it -/
def lawK (T : List Int) (kind i : Int) : Int :=
  if i < 1 ∨ (T.length : Int) < i then 5 else if kind = 3 then (if T.getD (i - 1).toNat 0 = 0 then 4 else 0) else if T.getD (i - 1).toNat 0 = kind then 0 else kind + 1
def lawT (T : List Int) (kind i : Int) : List Int :=
  if i < 1 ∨ (T.length : Int) < i then T else if kind = 3 then T else if T.getD (i - 1).toNat 0 = kind then T.set (i - 1).toNat ((kind + 1) % 3) else T
def lawF (T : List Int) (k n kind i : Int) : Int × Int := if lawK T kind i ≠ 0 ∧ k = 0 then (lawK T kind i, i) else (k, n)

theorem law_gdo (T : List Int) (k n kind i : Int) (h0 : 0 ≤ kind) (h3 : kind ≤ 3) (hz : k = 0 → n = 0) :
    gdo T k n kind i = (decide (lawK T kind i = 0), lawT T kind i, (lawF T k n kind i).1, (lawF T k n kind i).2) := by
  have hG : ∀ x, x ≠ 0 → G0 k n x i = if x ≠ 0 ∧ k = 0 then (x, i) else (k, n) := by
    intro x hx
    unfold G0
    by_cases hk : k = 0
    · rw [if_pos ⟨hk, hz hk⟩, if_pos ⟨hx, hk⟩]
    · rw [if_neg (fun h => hk h.1), if_neg (fun h => hk h.2)]
  by_cases hr : i < 1 ∨ (T.length : Int) < i
  · have e1 : lawK T kind i = 5 := if_pos hr
    have e2 : lawT T kind i = T := if_pos hr
    have e3 : gdo T k n kind i = (false, T, G0 k n 5 i) := by
      unfold gdo gturn gtouch
      simp only [if_pos hr]
      split
      · rfl
      · split
        · rfl
        · split <;> rfl
    rw [e3]; unfold lawF; rw [e1, e2, hG 5 (by decide)]; rfl
  · by_cases h : kind = 3
    · subst h
      by_cases ht : T.getD (i - 1).toNat 0 = 0
      · have e1 : lawK T 3 i = 4 := by unfold lawK; rw [if_neg hr, if_pos rfl, if_pos ht]
        have e2 : lawT T 3 i = T := by unfold lawT; rw [if_neg hr, if_pos rfl]
        have e3 : gdo T k n 3 i = (false, T, G0 k n 4 i) := by
          show gtouch T k n i = _
          unfold gtouch; rw [if_neg hr, if_pos ht]
        rw [e3]; unfold lawF; rw [e1, e2, hG 4 (by decide)]; rfl
      · have e1 : lawK T 3 i = 0 := by unfold lawK; rw [if_neg hr, if_pos rfl, if_neg ht]
        have e2 : lawT T 3 i = T := by unfold lawT; rw [if_neg hr, if_pos rfl]
        have e3 : gdo T k n 3 i = (true, T, k, n) := by
          show gtouch T k n i = _
          unfold gtouch; rw [if_neg hr, if_neg ht]
        rw [e3]; unfold lawF; rw [e1, e2]; rfl
    · have e0 : gdo T k n kind i = gturn T k n i kind ((kind + 1) % 3) (kind + 1) := by
        rcases (show kind = 0 ∨ kind = 1 ∨ kind = 2 by omega) with rfl | rfl | rfl <;> rfl
      by_cases ht : T.getD (i - 1).toNat 0 = kind
      · have e1 : lawK T kind i = 0 := by unfold lawK; rw [if_neg hr, if_neg h, if_pos ht]
        have e2 : lawT T kind i = T.set (i - 1).toNat ((kind + 1) % 3) := by unfold lawT; rw [if_neg hr, if_neg h, if_pos ht]
        have e3 : gturn T k n i kind ((kind + 1) % 3) (kind + 1) = (true, T.set (i - 1).toNat ((kind + 1) % 3), k, n) := by
          unfold gturn; rw [if_neg hr, if_pos ht]
        rw [e0, e3]; unfold lawF; rw [e1, e2]; rfl
      · have e1 : lawK T kind i = kind + 1 := by unfold lawK; rw [if_neg hr, if_neg h, if_neg ht]
        have e2 : lawT T kind i = T := by unfold lawT; rw [if_neg hr, if_neg h, if_neg ht]
        have e3 : gturn T k n i kind ((kind + 1) % 3) (kind + 1) = (false, T, G0 k n (kind + 1) i) := by
          unfold gturn; rw [if_neg hr, if_neg ht]
        rw [e0, e3]; unfold lawF; rw [e1, e2, hG (kind + 1) (by omega)]
        have : ¬ kind + 1 = 0 := by omega
        simp [this]
theorem lawT_small (T : List Int) (kind i : Int) (h0 : 0 ≤ kind) (h : ∀ x ∈ T, 0 ≤ x ∧ x ≤ 2) : ∀ x ∈ lawT T kind i, 0 ≤ x ∧ x ≤ 2 := by
  intro x hx
  unfold lawT at hx
  split at hx
  · exact h x hx
  · split at hx
    · exact h x hx
    · split at hx
      · rcases List.mem_or_eq_of_mem_set hx with h1 | h1
        · exact h x h1
        · omega
      · exact h x hx
theorem lawT_length (T : List Int) (kind i : Int) : (lawT T kind i).length = T.length := by
  unfold lawT
  split
  · rfl
  · split
    · rfl
    · split <;> simp
theorem lawF_zero (T : List Int) (k n kind i : Int) (hz : k = 0 → n = 0) : (lawF T k n kind i).1 = 0 → (lawF T k n kind i).2 = 0 := by
  unfold lawF
  split
  · rename_i h; intro h2; exact absurd h2 h.1
  · exact hz

theorem part_end (nodes live : Int) (n j : Nat) (hn : newN nodes = n) (hj : j ≤ n) (h1 : j = 0 ∨ (j : Int) ≤ live) (h2 : ¬ ((j : Int) < n ∧ (j : Int) < live)) : partTags n j = newTags nodes live := by
  rw [← hn]
  exact part_all nodes live j (by rw [hn]; omega)

theorem ints_cell {w : World} {s : Nat} {l : List Int} (h : Blk w s 3 (ints l)) {j : Nat} (hj : j < l.length) : w.cell? ⟨s, j, none⟩ = some (.int .i64 (l.getD j 0)) := by
  rw [h.cell j]
  simp [ints, hj]
theorem ints_set {w : World} {s : Nat} {l : List Int} (h : Blk w s 3 (ints l)) (j : Nat) (v : Int) : Blk (w.setCell ⟨s, j, none⟩ (.int .i64 v)) s 3 (ints (l.set j v)) := by
  have := h.set_ j (.int .i64 v)
  unfold ints at this ⊢
  simpa [List.map_set] using this
theorem IsG.far {w : World} {g t : Nat} {tags : List Int} {k n : Int} (h : IsG w g t tags k n) {p : Addr} (h1 : g ≠ p.block) (h2 : t ≠ p.block) (u : Value) : IsG (w.setCell p u) g t tags k n :=
  ⟨h.1.far h1 u, h.2.1.far h2 u, h.2.2⟩

/-- what the two sides hold -/
structure GP (w : World) (B g t s : Nat) (T : List Int) (k n : Int) : Prop where
  ghost : IsG w g t T k n
  own : Blk w s 3 (ints T)
  zero : k = 0 → n = 0
  small : ∀ x ∈ T, 0 ≤ x ∧ x ≤ 2
  gs : g ≠ s
  ts : t ≠ s
  lo : B ≤ g ∧ B ≤ t ∧ B ≤ s
theorem upd_of_two {w a b : World} {g t : Nat} (h : Upd [] w a) (k : Upd [g, t] a.drew b) (hg : False ∨ w.heap.size ≤ g) (ht : False ∨ w.heap.size ≤ t) : Upd [] w b :=
  h.step (T := [g, t]) ⟨k.os, k.tape, k.output, k.size, k.block⟩ (by
    intro x hx
    simp at hx
    rcases hx with rfl | rfl
    · rcases hg with h | h
      · cases h
      · exact .inr h
    · rcases ht with h | h
      · cases h
      · exact .inr h)
structure GP1 (w : World) (B g t s : Nat) (T T' : List Int) (k n : Int) : Prop where
  ghost : IsG w g t T k n
  own : Blk w s 3 (ints T')
  zero : k = 0 → n = 0
  small : ∀ x ∈ T, 0 ≤ x ∧ x ≤ 2
  gs : g ≠ s
  ts : t ≠ s
  lo : B ≤ g ∧ B ≤ t ∧ B ≤ s
theorem GP.to1 {w : World} {B g t s : Nat} {T : List Int} {k n : Int} (h : GP w B g t s T k n) : GP1 w B g t s T T k n :=
  ⟨h.ghost, h.own, h.zero, h.small, h.gs, h.ts, h.lo⟩
theorem GP1.drewN {w : World} {B g t s : Nat} {T T' : List Int} {k n : Int} (h : GP1 w B g t s T T' k n) (m : Nat) : GP1 (w.drewN m) B g t s T T' k n :=
  ⟨⟨h.ghost.1, h.ghost.2.1, h.ghost.2.2⟩, h.own, h.zero, h.small, h.gs, h.ts, h.lo⟩
theorem GP1.far {w : World} {B g t s : Nat} {T T' : List Int} {k n : Int} (h : GP1 w B g t s T T' k n) {p : Addr} (h1 : g ≠ p.block) (h2 : t ≠ p.block) (h3 : s ≠ p.block) (u : Value) : GP1 (w.setCell p u) B g t s T T' k n :=
  ⟨h.ghost.far h1 h2 u, h.own.far h3 u, h.zero, h.small, h.gs, h.ts, h.lo⟩
theorem GP.set {w : World} {B g t s : Nat} {T : List Int} {k n : Int} (h : GP w B g t s T k n) (q : Nat) (v : Int) : GP1 (w.setCell ⟨s, q, none⟩ (.int .i64 v)) B g t s T (T.set q v) k n :=
  ⟨h.ghost.far h.gs h.ts _, ints_set h.own q v, h.zero, h.small, h.gs, h.ts, h.lo⟩
theorem GP.far {w : World} {B g t s : Nat} {T : List Int} {k n : Int} (h : GP w B g t s T k n) {p : Addr} (h1 : g ≠ p.block) (h2 : t ≠ p.block) (h3 : s ≠ p.block) (u : Value) : GP (w.setCell p u) B g t s T k n :=
  ⟨h.ghost.far h1 h2 u, h.own.far h3 u, h.zero, h.small, h.gs, h.ts, h.lo⟩
theorem GP.drewN {w : World} {B g t s : Nat} {T : List Int} {k n : Int} (h : GP w B g t s T k n) (m : Nat) : GP (w.drewN m) B g t s T k n :=
  ⟨⟨h.ghost.1, h.ghost.2.1, h.ghost.2.2⟩, h.own, h.zero, h.small, h.gs, h.ts, h.lo⟩
theorem GP.alloc {w : World} {B g t s : Nat} {T : List Int} {k n : Int} (h : GP w B g t s T k n) (o : Obj) : GP (w.alloc o) B g t s T k n :=
  ⟨h.ghost.alloc o, h.own.alloc o, h.zero, h.small, h.gs, h.ts, h.lo⟩

set_option maxRecDepth 100000 in
set_option maxHeartbeats 4000000 in
theorem GhostPlays_walk (w : World) (nodes : Int) (wn : (Lit.int .i64 nodes).wf = true) (live : Int) (wl : (Lit.int .i64 live).wf = true) (v : Value) (ls : List (List Int)) (hv : SlRows w w.heap.size [.i64, .i64] v ls) :
    Calls Try.prog 10 #[.int .i64 nodes, .int .i64 live, v] w fun e w' => e = .returned (.bool true) ∧ Below w.heap.size w w' := by
  obtain ⟨a, cap, rfl, hmax⟩ := rows_len hv
  unfold maxLen at hmax
  by_cases hbig : 500 < ls.length
  · go_enter Try.func10, Try.ntmps10
    go_wp2_with fail
    refine (lives07 _).mono ?_
    rintro e w1 ⟨rfl, hu⟩
    go_wp2_with fail
    go_ret
    exact ⟨rfl, hu.below⟩
  go_enter Try.func10, Try.ntmps10
  go_wp2_with fail
  refine (new_calls _ _ _).mono ?_
  rintro e w1 ⟨g, t, rfl, h, hg, ht, hu⟩
  go_upto_region 5 with fail
  go_cut [30] (fun s30 wx => ∃ b : Bool, s30 = .bool b ∧ Hid (b = decide (nodes < 1 ∨ 64 < nodes)) ∧ wx = w1)
  case first =>
    by_cases hr : nodes < 1
    · have H0 := hid (show decide (nodes < 1 ∨ 64 < nodes) = true by simp; omega)
      go_wp2
      all_goals (go_meet; exact ⟨_, rfl, H0.out.symm, rfl⟩)
    · have H0 := hid (show decide (nodes < 1 ∨ 64 < nodes) = decide (64 < nodes) by simp; omega)
      go_wp2
      all_goals (go_meet; exact ⟨_, rfl, H0.out.symm, rfl⟩)
  case rest =>
    obtain ⟨b, rfl, hb, rfl⟩ := hcut
    go_upto_if 30 with fail
    go_cut [8] (fun s8 wx => s8 = .int .i64 (newN nodes : Int) ∧ wx = wc)
    case first =>
      cases b
      · have hr : ¬ (nodes < 1 ∨ 64 < nodes) := of_decide_eq_false hb.out.symm
        have H0 := hid (show (newN nodes : Int) = nodes by unfold newN; rw [if_neg hr]; omega)
        clear hr
        go_wp2
        all_goals (go_meet; exact ⟨by rw [H0.out], rfl⟩)
      · have hr : nodes < 1 ∨ 64 < nodes := of_decide_eq_true hb.out.symm
        have H0 := hid (show newN nodes = 0 from if_pos hr)
        clear hr
        go_wp2
        all_goals (go_meet; exact ⟨by rw [H0.out]; rfl, rfl⟩)
    case rest =>
      obtain ⟨rfl, rfl⟩ := hcut
      have hN : newN nodes ≤ 64 := by unfold newN; split <;> omega
      obtain ⟨n, hn⟩ : ∃ n, newN nodes = n := ⟨_, rfl⟩
      have HN := hid hn
      rw [hn] at hN ⊢
      have hmk := fun w => run_make_row' (P := Try.prog) 42 3 (.int .i64 0) 8 Try.underlying42 info3 rfl .i64 .i64 n (by omega) (by omega) w
      have hgl := h.1.lt
      have htl := h.2.1.lt
      have hS0 : Blk (wc.alloc (.cells (madeCells #[.int .i64 0] n) 3)) wc.heap.size 3 (ints (partTags n 0)) := by
        have := Blk.new wc 3 (madeCells #[.int .i64 0] n)
        rw [made_row] at this
        rw [part_zero, made_row]
        simpa [ints] using this
      have hG0 := h.alloc (.cells (madeCells #[.int .i64 0] n) 3)
      have hU0 := hu.alloc (.cells (madeCells #[.int .i64 0] n) 3)
      have HS := hid hS0
      have HG := hid hG0
      have HU := hid hU0
      have hle := hu.size
      obtain ⟨s, hs⟩ : ∃ s, wc.heap.size = s := ⟨_, rfl⟩
      have hst : t < s := by omega
      have hws : w.heap.size ≤ s := by omega
      clear h hu hn hS0 hG0 hU0
      go_upto_block 0 with fail
      obtain ⟨T0, hT0⟩ : ∃ T0, newTags nodes live = T0 := ⟨_, rfl⟩
      have HT := hid hT0
      go_cut [] (fun wx => GP wx w.heap.size g t s T0 0 0 ∧ Upd [] w wx ∧ T0.length = n)
      case first =>
        rw [hT0] at HG
        clear hT0
        go_wp2_with fail
        go_loopw [10] (fun i wr => ∃ j : Nat, j ≤ n ∧ i = .int .i64 j ∧ (j = 0 ∨ (j : Int) ≤ live) ∧ Blk wr s 3 (ints (partTags n j)) ∧ IsG wr g t T0 0 0 ∧ Upd [] w wr) (fun i _ => n - (intOf i).toNat)
        case atStart =>
          have e1 := HS.out
          rw [hs] at e1
          exact ⟨0, Nat.zero_le _, rfl, .inl rfl, e1, HG.out, HU.out⟩
        case round =>
          obtain ⟨j, hj, rfl, hjl, hS, hG, hU⟩ := hrel
          by_cases hlt : (j : Int) < n ∧ (j : Int) < live
          · obtain ⟨hlt1, hlt2⟩ := hlt
            have fS := hS.frozen j
            have cS := ints_cell hS (j := j) (by simp [partTags]; omega)
            have hgne : g ≠ s := hG.1.ne_ hS (by decide)
            have htne : t ≠ s := by omega
            have HSS := hid hS
            have HGG := hid hG
            have HUU := hid hU
            clear hS hG hU hjl
            go_wp2
            go_roundw
            case rel =>
              refine ⟨j + 1, by omega, by go_num, .inr (by omega), ?_, HGG.out.far hgne htne _, HUU.out.setCell (.inr hws) _⟩
              rw [← part_set n j (by omega)]
              exact ints_set HSS.out j 1
            case measure => simp [intOf]; omega
          · have e := part_end nodes live n j HN.out hj hjl hlt
            rw [e, HT.out] at hS
            have hgne : g ≠ s := hG.1.ne_ hS (by decide)
            have hTl : T0.length = n := by rw [← HN.out, ← HT.out]; simp [newTags]
            have HP := hid (show GP wr w.heap.size g t s T0 0 0 from ⟨hG, hS, fun _ => rfl, by
              intro x hx
              rw [← HT.out] at hx
              simp only [newTags, List.mem_map] at hx
              obtain ⟨i, _, rfl⟩ := hx
              split <;> omega, hgne, by omega, ⟨hg, ht, hws⟩⟩)
            have HUU := hid hU
            have HTl := hid hTl
            clear hS hG hU e HS HG HU hmk hgl htl hst hle hs hjl HN hTl
            by_cases hlt1 : (j : Int) < n
            · have hlt2 : ¬ (j : Int) < live := fun h => hlt ⟨hlt1, h⟩
              clear hlt
              go_wp2
              go_meet
              exact ⟨HP.out, HUU.out, HTl.out⟩
            · clear hlt
              go_wp2
              go_meet
              exact ⟨HP.out, HUU.out, HTl.out⟩
      case rest =>
        obtain ⟨hP, hU, hTl⟩ := hcut
        clear HS HG HU hmk hgl htl hst hle hs HN HT hT0
        have hPo := hP.own.lt
        have HP := hid hP
        have HU := hid hU
        have HTl := hid hTl
        clear hP hU hTl
        obtain ⟨f, hf⟩ : ∃ f, wc.heap.size = f := ⟨_, rfl⟩
        have hwf : w.heap.size ≤ f := by have := HU.out.size; omega
        have hF0 : Blk (wc.alloc (.cells #[.int .i64 0, .int .i64 0] 59)) wc.heap.size 59 #[.int .i64 0, .int .i64 0] := Blk.new _ _ _
        rw [hf] at hF0
        have HF0 := hid hF0
        clear hF0
        go_wp2_with fail
        go_loopw [12] (fun c wr => ∃ (j : Nat) (T : List Int) (k n' : Int), j ≤ ls.length ∧ c = .int .i64 j ∧ GP wr w.heap.size g t s T k n' ∧ Blk wr f 59 #[.int .i64 k, .int .i64 n'] ∧ Upd [] w wr ∧ T.length = n) (fun c _ => ls.length - (intOf c).toNat)
        case atStart =>
          exact ⟨0, T0, 0, 0, Nat.zero_le _, rfl, HP.out.alloc _, HF0.out, HU.out.alloc _, HTl.out⟩
        case round =>
          obtain ⟨j, T, k, n', hj, rfl, hP, hF, hU, hT⟩ := hrel
          clear HP HU HTl HF0 hf hPo
          by_cases hlt : j < ls.length
          · skip
            obtain ⟨ab, ao, cap', hav, hab, hcells⟩ := rows2' hv (by omega)
            injection hav with hav _ hcap
            subst hav
            subst hcap
            obtain ⟨c0, c1, hlo⟩ := hcells j hlt
            clear hcells
            generalize opK ls j = kind at c0
            generalize opI ls j = i at c1 hlo
            have c0' := (hU.cell (p := ⟨ab, ao + j * 2, none⟩) hab (by simp)).trans c0
            have c1' := (hU.cell (p := ⟨ab, ao + j * 2 + 1, none⟩) hab (by simp)).trans c1
            clear c0 c1
            have habr : ab < wr.heap.size := Nat.lt_of_lt_of_le hab hU.size
            have hwr : w.heap.size ≤ wr.heap.size := hU.size
            have hO : Blk (wr.alloc (.cells #[.int .i64 kind, .int .i64 i] 61)) wr.heap.size 61 #[.int .i64 kind, .int .i64 i] := Blk.new _ _ _
            have hP' := hP.alloc (.cells #[.int .i64 kind, .int .i64 i] 61)
            have hF' := hF.alloc (.cells #[.int .i64 kind, .int .i64 i] 61)
            have hU' := hU.alloc (.cells #[.int .i64 kind, .int .i64 i] 61)
            have HP := hid hP'
            have HF := hid hF'
            have HU := hid hU'
            have HO := hid hO
            have HT := hid hT
            clear hP hF hU hO hP' hF' hU' hT
            by_cases hk : 0 ≤ kind ∧ kind ≤ 3
            · obtain ⟨hk0, hk3⟩ := hk
              go_upto_region 19 with fail
              obtain ⟨w2, hw2⟩ : ∃ w2, wr.alloc (.cells #[.int .i64 kind, .int .i64 i] 61) = w2 := ⟨_, rfl⟩
              obtain ⟨o, ho⟩ : ∃ o, wr.heap.size = o := ⟨_, rfl⟩
              have hwo : w.heap.size ≤ o := by omega
              rw [hw2] at HP HF HU HO
              rw [ho] at HO
              rw [hw2, ho]
              have hof : f ≠ o := HF.out.ne_ HO.out (by decide)
              have ob1 := HO.out.cell 0
              have ob2 := HO.out.cell 1
              simp at ob1 ob2
              clear c0' c1' hab habr hw2 ho
              go_cut [73] (fun s73 wx => ∃ b : Bool, s73 = .bool b ∧ Hid (b = decide (i < 1 ∨ (n : Int) < i)) ∧ wx = w2)
              case first =>
                by_cases hr : i < 1
                · have H0 := hid (show decide (i < 1 ∨ (n : Int) < i) = true by simp; omega)
                  go_wp2
                  all_goals (go_meet; exact ⟨_, rfl, H0.out.symm, rfl⟩)
                · have H0 := hid (show decide (i < 1 ∨ (n : Int) < i) = decide ((n : Int) < i) by simp; omega)
                  go_wp2
                  all_goals (go_meet; exact ⟨_, rfl, H0.out.symm, rfl⟩)
              case rest =>
                obtain ⟨b, rfl, hb, rfl⟩ := hcut
                go_upto_if 73 with fail
                go_cut [14] (fun s14 wx => ∃ kv : Int, s14 = .int .i64 kv ∧ Hid (kv = lawK T kind i) ∧ Hid (GP1 wx w.heap.size g t s T (lawT T kind i) k n') ∧ Hid (Blk wx f 59 #[.int .i64 k, .int .i64 n']) ∧ Hid (Upd [] w wx) ∧ Hid (Blk wx o 61 #[.int .i64 kind, .int .i64 i]))
                case first =>
                  have G1 := HP.out
                  cases b
                  · have hr : ¬ (i < 1 ∨ (n : Int) < i) := of_decide_eq_false hb.out.symm
                    have hr' : ¬ (i < 1 ∨ (T.length : Int) < i) := by rw [HT.out]; exact hr
                    obtain ⟨q, rfl⟩ : ∃ q : Nat, i = q + 1 := ⟨(i - 1).toNat, by omega⟩
                    have hq : q < n := by omega
                    have cq := ints_cell G1.own (j := q) (by rw [HT.out]; exact hq)
                    have fq := G1.own.frozen q
                    have eq1 : ((q : Int) + 1 - 1).toNat = q := by omega
                    by_cases h3 : kind = 3
                    · subst h3
                      by_cases hz : T.getD q 0 = 0
                      · have E1 := hid (show lawK T 3 (q + 1) = 4 by unfold lawK; rw [if_neg hr', if_pos rfl, eq1, if_pos hz])
                        have E2 := hid (show lawT T 3 (q + 1) = T by unfold lawT; rw [if_neg hr', if_pos rfl])
                        have hbz : (T.getD q 0 == 0) = true := by simpa using hz
                        generalize T.getD q 0 = tq at cq hbz
                        clear hr hr' hz eq1 hb G1
                        go_wp2
                        go_meet
                        exact ⟨4, rfl, E1.out.symm, by rw [E2.out]; exact HP.out.to1, HF.out, HU.out, HO.out⟩
                      · have E1 := hid (show lawK T 3 (q + 1) = 0 by unfold lawK; rw [if_neg hr', if_pos rfl, eq1, if_neg hz])
                        have E2 := hid (show lawT T 3 (q + 1) = T by unfold lawT; rw [if_neg hr', if_pos rfl])
                        have hbz : (T.getD q 0 == 0) = false := by simpa using hz
                        generalize T.getD q 0 = tq at cq hbz
                        clear hr hr' hz eq1 hb G1
                        go_wp2
                        go_meet
                        exact ⟨0, rfl, E1.out.symm, by rw [E2.out]; exact HP.out.to1, HF.out, HU.out, HO.out⟩
                    · have hb3 : (kind == 3) = false := by simpa using h3
                      by_cases hz : T.getD q 0 = kind
                      · have E1 := hid (show lawK T kind (q + 1) = 0 by unfold lawK; rw [if_neg hr', if_neg h3, eq1, if_pos hz])
                        have E2 := hid (show lawT T kind (q + 1) = T.set q ((kind + 1) % 3) by unfold lawT; rw [if_neg hr', if_neg h3, eq1, if_pos hz])
                        have hbz : (T.getD q 0 != kind) = false := by simpa using hz
                        generalize T.getD q 0 = tq at cq hbz
                        have hfs : f ≠ s := HF.out.ne_ G1.own (by decide)
                        have hos : o ≠ s := HO.out.ne_ G1.own (by decide)
                        clear hr hr' hz eq1 hb G1 h3
                        go_wp2_with fail
                        go_quiet (fail)
                        go_wp2
                        go_meet
                        exact ⟨0, rfl, E1.out.symm, by rw [E2.out]; exact (HP.out.set q _).drewN _, HF.out.far hfs _, (HU.out.setCell (.inr hws) _).drewN _, HO.out.far hos _⟩
                      · have E1 := hid (show lawK T kind (q + 1) = kind + 1 by unfold lawK; rw [if_neg hr', if_neg h3, eq1, if_neg hz])
                        have E2 := hid (show lawT T kind (q + 1) = T by unfold lawT; rw [if_neg hr', if_neg h3, eq1, if_neg hz])
                        have hbz : (T.getD q 0 != kind) = true := by simpa using hz
                        generalize T.getD q 0 = tq at cq hbz
                        clear hr hr' hz eq1 hb G1 h3
                        go_wp2_with fail
                        go_quiet (fail)
                        go_wp2
                        go_meet
                        exact ⟨kind + 1, rfl, E1.out.symm, by rw [E2.out]; exact HP.out.to1.drewN _, HF.out, HU.out.drewN _, HO.out⟩
                  · have hr : i < 1 ∨ (n : Int) < i := of_decide_eq_true hb.out.symm
                    have hr' : i < 1 ∨ (T.length : Int) < i := by rw [HT.out]; exact hr
                    have E1 := hid (show lawK T kind i = 5 from if_pos hr')
                    have E2 := hid (show lawT T kind i = T from if_pos hr')
                    clear hr hr' hb G1
                    go_wp2
                    go_meet
                    exact ⟨5, rfl, E1.out.symm, by rw [E2.out]; exact HP.out.to1, HF.out, HU.out, HO.out⟩
                case rest =>
                  obtain ⟨kv, rfl, hkv, hP1, hF1, hU1, hO1⟩ := hcut
                  clear HP HF HU HO ob1 ob2 hb
                  have f0 := hF1.out.cell 0
                  have f1 := hF1.out.cell 1
                  have fr0 := hF1.out.frozen 0
                  have fr1 := hF1.out.frozen 1
                  have o0 := hO1.out.cell 0
                  have o1 := hO1.out.cell 1
                  simp at f0 f1 o0 o1
                  have hfg : g ≠ f := hP1.out.ghost.1.ne_ hF1.out (by decide)
                  have hft : t ≠ f := hP1.out.ghost.2.1.ne_ hF1.out (by decide)
                  have hfs : s ≠ f := hP1.out.own.ne_ hF1.out (by decide)
                  go_upto_region 27 with fail
                  go_cut [111] (fun s111 wx => ∃ b : Bool, s111 = .bool b ∧ Hid (b = decide (kv ≠ 0 ∧ k = 0)) ∧ Hid (wx = wc))
                  case first =>
                    by_cases hz : kv = 0
                    · subst hz
                      have H0 := hid (show decide ((0 : Int) ≠ 0 ∧ k = 0) = false by simp)
                      go_wp2
                      go_meet
                      exact ⟨_, rfl, H0.out.symm, rfl⟩
                    · have hbz : (kv != 0) = true := by simpa using hz
                      have H0 := hid (show decide (kv ≠ 0 ∧ k = 0) = (k == 0) by simp [hz]; rfl)
                      clear hz
                      go_wp2
                      go_meet
                      exact ⟨_, rfl, H0.out.symm, rfl⟩
                  case rest =>
                    obtain ⟨b, rfl, hb, hwx⟩ := hcut
                    go_upto_if 111 with fail
                    obtain rfl := hwx.out
                    clear hwx
                    go_cut [] (fun wx => Hid (GP1 wx w.heap.size g t s T (lawT T kind i) k n') ∧ Hid (Blk wx f 59 #[.int .i64 (lawF T k n' kind i).1, .int .i64 (lawF T k n' kind i).2]) ∧ Hid (Upd [] w wx) ∧ Hid (Blk wx o 61 #[.int .i64 kind, .int .i64 i]))
                    case first =>
                      cases b
                      · have hn : ¬ (kv ≠ 0 ∧ k = 0) := of_decide_eq_false hb.out.symm
                        have H0 := hid (show lawF T k n' kind i = (k, n') by unfold lawF; rw [← hkv.out, if_neg hn])
                        clear hb hn
                        go_wp2
                        go_meet
                        exact ⟨hP1, by rw [H0.out]; exact hF1, hU1, hO1⟩
                      · have hn : kv ≠ 0 ∧ k = 0 := of_decide_eq_true hb.out.symm
                        have H0 := hid (show lawF T k n' kind i = (kv, i) by unfold lawF; rw [← hkv.out, if_pos hn])
                        clear hb hn
                        go_wp2
                        go_meet
                        refine ⟨(hP1.out.far hfg hft hfs _).far hfg hft hfs _, ?_, (hU1.out.setCell (.inr hwf) _).setCell (.inr hwf) _, (hO1.out.far (Ne.symm hof) _).far (Ne.symm hof) _⟩
                        rw [H0.out]
                        simpa [Hid] using (hF1.out.set_ 0 (.int .i64 kv)).set_ 1 (.int .i64 i)
                    case rest =>
                      obtain ⟨hP2, hF2, hU2, hO2⟩ := hcut
                      clear f0 f1 fr0 fr1 o0 o1 hb
                      have hg' := law_gdo T k n' kind i hk0 hk3 hP2.out.zero
                      have hz' := hid (lawF_zero T k n' kind i hP2.out.zero)
                      have hs' := hid (lawT_small T kind i hk0 hP2.out.small)
                      have hl' := hid ((lawT_length T kind i).trans HT.out)
                      rw [← hkv.out] at hg'
                      obtain ⟨F1, hF1'⟩ : ∃ x, (lawF T k n' kind i).1 = x := ⟨_, rfl⟩
                      obtain ⟨F2, hF2'⟩ : ∃ x, (lawF T k n' kind i).2 = x := ⟨_, rfl⟩
                      obtain ⟨T2, hT2'⟩ : ∃ x, lawT T kind i = x := ⟨_, rfl⟩
                      rw [hF1', hF2'] at hF2 hg' hz'
                      rw [hT2'] at hg' hP2 hs' hl'
                      clear hF1' hF2' hT2'
                      have HDO : Hid (∀ W, IsG W g t T k n' → Calls Try.prog 39 #[.pointer (some ⟨g, 0, none⟩), .agg #[.int .i64 kind, .int .i64 i]] W (fun e w' => e = .returned (.bool (kv == 0)) ∧ IsG w' g t T2 F1 F2 ∧ Upd [g, t] W w')) := fun W hW => (do_calls W g t T k n' kind i hlo hW).mono (by
                        rw [hg']
                        rintro e w' ⟨h1, h2, h3⟩
                        exact ⟨h1, h2, h3⟩)
                      clear hg'
                      have hgw : g < wc.heap.size := hP2.out.ghost.1.lt
                      have hfw : f < wc.heap.size := hF2.out.lt
                      have how : o < wc.heap.size := hO2.out.lt
                      have hgo : g ≠ o := hP2.out.ghost.1.ne_ hO2.out (by decide)
                      have hto : t ≠ o := hP2.out.ghost.2.1.ne_ hO2.out (by decide)
                      have f0 := hF2.out.cell 0
                      have f1 := hF2.out.cell 1
                      have o0 := hO2.out.cell 0
                      have o1 := hO2.out.cell 1
                      simp at f0 f1 o0 o1
                      have nf : f ∉ [g, t] := by simp; exact ⟨Ne.symm hfg, Ne.symm hft⟩
                      have no : o ∉ [g, t] := by simp; exact ⟨Ne.symm hgo, Ne.symm hto⟩
                      go_upto_region 29 with fail
                      go_region_held3 (fun w' => w'.cell? ⟨f, 0, none⟩ = some (.int .i64 F1) ∧ w'.cell? ⟨f, 1, none⟩ = some (.int .i64 F2) ∧ w'.cell? ⟨o, 0, none⟩ = some (.int .i64 kind) ∧ w'.cell? ⟨o, 1, none⟩ = some (.int .i64 i))
                        (first | (with_reducible exact ⟨k0, k1, k2, k3⟩) | exact ⟨(World.cell?_alloc_lt w3 _ _ hf3).trans k0, (World.cell?_alloc_lt w3 _ _ hf3).trans k1, (World.cell?_alloc_lt w3 _ _ ho3).trans k2, (World.cell?_alloc_lt w3 _ _ ho3).trans k3⟩ | go_keep)
                        (first
                          | (go_at_call 39; refine (HDO.out _ ?_).mono ?_; exact hP2.out.ghost; rintro e w3 ⟨rfl, hG3, hu3⟩; have k0 := (hu3.cell (p := ⟨f, 0, none⟩) hfw nf).trans f0; have k1 := (hu3.cell (p := ⟨f, 1, none⟩) hfw nf).trans f1; have k2 := (hu3.cell (p := ⟨o, 0, none⟩) how no).trans o0; have k3 := (hu3.cell (p := ⟨o, 1, none⟩) how no).trans o1; have hf3 : f < w3.heap.size := Nat.lt_of_lt_of_le hfw hu3.size; have ho3 : o < w3.heap.size := Nat.lt_of_lt_of_le how hu3.size)
                          | (go_at_call 40; refine (first_calls _ g t T2 F1 F2 ?_).mono ?_; exact hG3; rintro e w4 ⟨rfl, o4, rfl⟩))
                      have hu4 : Upd [g, t] wc w3 := ⟨hu3.os, hu3.tape, hu3.output, hu3.size, hu3.block⟩
                      have hU3 := hid (upd_of_two hU2.out hu3 (Or.inr hP2.out.lo.1) (Or.inr hP2.out.lo.2.1))
                      have hS3 := hid (hP2.out.own.upd hu4 (by simp; exact ⟨Ne.symm hP2.out.gs, Ne.symm hP2.out.ts⟩))
                      have hF3 := hid (hF2.out.upd hu4 nf)
                      have hP3 := hid (show GP w3 w.heap.size g t s T2 F1 F2 from ⟨hG3, hS3.out, hz'.out, hs'.out, hP2.out.gs, hP2.out.ts, hP2.out.lo⟩)
                      clear hG3 hu3 hu4 k0 k1 k2 k3 f0 f1 o0 o1 nf no
                      go_wp2_with fail
                      go_roundw
                      case rel => exact ⟨j + 1, T2, F1, F2, by omega, by go_num, hP3.out.alloc _, hF3.out.alloc _, hU3.out.alloc _, hl'.out⟩
                      case measure => simp [intOf]; omega
            · by_cases hk0 : kind < 0
              · clear hk
                go_wp2
                go_roundw
                case rel => exact ⟨j + 1, T, k, n', by omega, by go_num, HP.out, HF.out, HU.out, HT.out⟩
                case measure => simp [intOf]; omega
              · have hk3 : 3 < kind := by omega
                clear hk
                go_wp2
                go_roundw
                case rel => exact ⟨j + 1, T, k, n', by omega, by go_num, HP.out, HF.out, HU.out, HT.out⟩
                case measure => simp [intOf]; omega
          · have hj' : j = ls.length := by omega
            subst hj'
            have HP := hid hP
            have HU := hid hU
            have HT := hid hT
            have hle : w.heap.size ≤ wr.heap.size := hU.size
            clear hP hU hT hF hj hlt
            have hC : Blk (wr.alloc (.cells #[.int .i64 0, .int .i64 0, .int .i64 0] 64)) wr.heap.size 64 #[.int .i64 0, .int .i64 0, .int .i64 0] := Blk.new _ _ _
            obtain ⟨c, hc⟩ : ∃ c, wr.heap.size = c := ⟨_, rfl⟩
            rw [hc] at hC
            have hwc : w.heap.size ≤ c := by omega
            have HC := hid hC
            clear hC hle
            go_wp2_with fail
            go_loopw [16] (fun i wx => ∃ q : Nat, q ≤ n ∧ i = .int .i64 q ∧ GP wx w.heap.size g t s T k n' ∧ Blk wx c 64 #[.int .i64 (many (T.take q) 0), .int .i64 (many (T.take q) 1), .int .i64 (many (T.take q) 2)] ∧ Upd [] w wx) (fun i _ => n - (intOf i).toNat)
            case atStart => exact ⟨0, Nat.zero_le _, rfl, HP.out.alloc _, HC.out, HU.out.alloc _⟩
            case round =>
              obtain ⟨q, hq, rfl, hP, hC, hU⟩ := hrel
              clear HP HU HC hc
              by_cases hlt : q < n
              · have hqT : q < T.length := by rw [HT.out]; exact hlt
                have hx := hP.small (T.getD q 0) (by simp [List.getD, hqT])
                have cq := ints_cell hP.own hqT
                have hm0 := many_snoc (T.take q) 0 (T.getD q 0)
                have hm1 := many_snoc (T.take q) 1 (T.getD q 0)
                have hm2 := many_snoc (T.take q) 2 (T.getD q 0)
                rw [← take_snoc _ _ hqT] at hm0 hm1 hm2
                have hb0 := many_le (T.take q) 0
                have hb1 := many_le (T.take q) 1
                have hb2 := many_le (T.take q) 2
                have hbl : (T.take q).length ≤ q := List.length_take_le _ _
                have htag : gtag T ((q : Int) + 1) = T.getD q 0 := by
                  unfold gtag
                  rw [if_neg (by omega), show ((q : Int) + 1 - 1).toNat = q by omega]
                have HTAG : Hid (∀ W, IsG W g t T k n' → Calls Try.prog 41 #[.pointer (some ⟨g, 0, none⟩), .int .i64 ((q : Int) + 1)] W fun e w' => e = .returned (.int .i64 (T.getD q 0)) ∧ w' = W) := fun W hW => (tag_calls W g t T k n' _ (by omega) hW).mono (by
                  rw [htag]
                  rintro e w' ⟨h1, h2⟩
                  exact ⟨h1, h2.symm⟩)
                have hcg : g ≠ c := hP.ghost.1.ne_ hC (by decide)
                have hct : t ≠ c := hP.ghost.2.1.ne_ hC (by decide)
                have hcs : s ≠ c := hP.own.ne_ hC (by decide)
                have d0 := hC.cell 0
                have d1 := hC.cell 1
                have d2 := hC.cell 2
                have e0 := hC.frozen 0
                have e1 := hC.frozen 1
                have e2 := hC.frozen 2
                simp at d0 d1 d2
                have HP := hid hP
                have HU := hid hU
                have HC := hid hC
                clear hP hU hC htag
                generalize T.getD q 0 = x at *
                generalize many (T.take q) 0 = m0 at *
                generalize many (T.take q) 1 = m1 at *
                generalize many (T.take q) 2 = m2 at *
                rcases (show x = 0 ∨ x = 1 ∨ x = 2 by omega) with rfl | rfl | rfl
                · have H0 := hid (show many (T.take (q + 1)) 0 = m0 + 1 by simpa using hm0)
                  have H1 := hid (show many (T.take (q + 1)) 1 = m1 by simpa using hm1)
                  have H2 := hid (show many (T.take (q + 1)) 2 = m2 by simpa using hm2)
                  clear hm0 hm1 hm2 hx
                  go_wp2_with fail
                  go_quiet ((go_at_call 41; exact Calls.quiet_of_same (HTAG.out _ (by exact HP.out.ghost.far hcg hct _))))
                  go_wp2_with fail
                  go_roundw
                  case rel =>
                    refine ⟨q + 1, by omega, by go_num, ((HP.out.far hcg hct hcs _).drewN _), ?_, (HU.out.setCell (.inr hwc) _).drewN _⟩
                    rw [H0.out, H1.out, H2.out]
                    simpa [Blk] using HC.out.set_ 0 (.int .i64 (m0 + 1))
                  case measure => simp [intOf]; omega
                · have H0 := hid (show many (T.take (q + 1)) 0 = m0 by simpa using hm0)
                  have H1 := hid (show many (T.take (q + 1)) 1 = m1 + 1 by simpa using hm1)
                  have H2 := hid (show many (T.take (q + 1)) 2 = m2 by simpa using hm2)
                  clear hm0 hm1 hm2 hx
                  go_wp2_with fail
                  go_quiet ((go_at_call 41; exact Calls.quiet_of_same (HTAG.out _ (by exact HP.out.ghost.far hcg hct _))))
                  go_wp2_with fail
                  go_roundw
                  case rel =>
                    refine ⟨q + 1, by omega, by go_num, ((HP.out.far hcg hct hcs _).drewN _), ?_, (HU.out.setCell (.inr hwc) _).drewN _⟩
                    rw [H0.out, H1.out, H2.out]
                    simpa [Blk] using HC.out.set_ 1 (.int .i64 (m1 + 1))
                  case measure => simp [intOf]; omega
                · have H0 := hid (show many (T.take (q + 1)) 0 = m0 by simpa using hm0)
                  have H1 := hid (show many (T.take (q + 1)) 1 = m1 by simpa using hm1)
                  have H2 := hid (show many (T.take (q + 1)) 2 = m2 + 1 by simpa using hm2)
                  clear hm0 hm1 hm2 hx
                  go_wp2_with fail
                  go_quiet ((go_at_call 41; exact Calls.quiet_of_same (HTAG.out _ (by exact HP.out.ghost.far hcg hct _))))
                  go_wp2_with fail
                  go_roundw
                  case rel =>
                    refine ⟨q + 1, by omega, by go_num, ((HP.out.far hcg hct hcs _).drewN _), ?_, (HU.out.setCell (.inr hwc) _).drewN _⟩
                    rw [H0.out, H1.out, H2.out]
                    simpa [Blk] using HC.out.set_ 2 (.int .i64 (m2 + 1))
                  case measure => simp [intOf]; omega
              · have hq' : q = n := by omega
                subst hq'
                clear hlt
                rw [List.take_of_length_le (by have := HT.out; omega)] at hC
                have hwrap : IntKind.i64.wrap ((q : Int) + 1) = (q : Int) + 1 := IntWalk.i64_in _ (by omega)
                have hT0 : gtag T 0 = 0 := if_pos (.inl (by decide))
                have hT1 : gtag T ((q : Int) + 1) = 0 := if_pos (.inr (by have := HT.out; omega))
                have d0 := hC.cell 0
                have d1 := hC.cell 1
                have d2 := hC.cell 2
                simp at d0 d1 d2
                have hlc := hC.lt
                have HP := hid hP.ghost
                have HU := hid hU
                clear hP hU hC
                go_wp2_with fail
                go_region_held3 (fun w' => w'.cell? ⟨c, 0, none⟩ = some (.int .i64 (many T 0)) ∧ w'.cell? ⟨c, 1, none⟩ = some (.int .i64 (many T 1)) ∧ w'.cell? ⟨c, 2, none⟩ = some (.int .i64 (many T 2)))
                  (first | go_keep | exact ⟨(hu9.cell (p := ⟨c, 0, none⟩) hlc (by simp)).trans d0, (hu9.cell (p := ⟨c, 1, none⟩) hlc (by simp)).trans d1, (hu9.cell (p := ⟨c, 2, none⟩) hlc (by simp)).trans d2⟩)
                  (first
                    | (go_at_call 42; refine (count_calls _ g t T k n' _ ?_).mono ?_; exact HP.out; rintro e w3 ⟨rfl, rfl⟩)
                    | (go_at_call 41; refine (tag_calls _ g t T k n' _ ?_ ?_).mono ?_; omega; exact HP.out; rintro e w3 ⟨rfl, rfl⟩)
                    | (go_at_call 37; refine (lives07 _).mono ?_; rintro e w9 ⟨rfl, hu9⟩))
                go_wp2_with fail
                go_ret
                exact ⟨rfl, (HU.out.trans ⟨hu9.os, hu9.tape, hu9.output, hu9.size, hu9.block⟩).below⟩
end Go.Proofs.Ytaogmfmphamplaa
