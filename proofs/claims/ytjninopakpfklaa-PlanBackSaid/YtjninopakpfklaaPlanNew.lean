/- The contracts of plan.within and plan.New. -/
import Derived.Test.YtjninopakpfklaaHeap
import Derived.RegionTactic
import Derived.BigRegion
import Derived.Deep.DeepCutAuto
import Derived.Deep.CutBlock
namespace Go.Proofs.Ytjninopakpfklaa
open Go.RowKit

def okT (l : List Int) : Bool := decide (l.getD 1 0 ≤ l.getD 0 0) && decide (l.getD 0 0 ≤ l.getD 2 0)

theorem bool_all {α : Type} (f : α → Bool) (l : List α) (k : Nat) (d : α) (h : k < l.length) : (l.take (k + 1)).all f = ((l.take k).all f && f (l.getD k d)) := by
  rw [List.take_succ_eq_append_getElem h, List.all_append]
  simp [List.getD, h]

set_option maxHeartbeats 400000 in
theorem within_calls (w : World) (g off cap : Nat) (ls : List (List Int)) (hg : g < w.heap.size) (hl : ls.length ≤ 100)
    (hc : ∀ i, i < ls.length → w.cell? ⟨g, off + i * 3, none⟩ = some (.int .i64 ((ls.getD i []).getD 0 0)) ∧ w.cell? ⟨g, off + i * 3 + 1, none⟩ = some (.int .i64 ((ls.getD i []).getD 1 0)) ∧ w.cell? ⟨g, off + i * 3 + 2, none⟩ = some (.int .i64 ((ls.getD i []).getD 2 0))) :
    Calls Try.prog 57 #[.slice (some ⟨g, off, none⟩) ls.length cap] w fun e w' => e = .returned (.bool (ls.all okT)) ∧ Upd [] w w' := by
  have HC := hid hc
  clear hc
  go_enter Try.func57, Try.ntmps57
  go_wp2
  go_loopw [7] (fun i wr => ∃ k : Nat, k ≤ ls.length ∧ i = .int .i64 k ∧ (ls.take k).all okT = true ∧ Upd [] w wr) (fun i _ => ls.length - (intOf i).toNat)
  case atStart => exact ⟨0, Nat.zero_le _, rfl, rfl, Upd.refl _ _⟩
  case round =>
    obtain ⟨k, hk, rfl, hall, hU⟩ := hrel
    by_cases hlt : k < ls.length
    · obtain ⟨a0, a1, a2⟩ := HC.out k hlt
      have b0 := (hU.cell (p := ⟨g, off + k * 3, none⟩) hg (by simp)).trans a0
      have b1 := (hU.cell (p := ⟨g, off + k * 3 + 1, none⟩) hg (by simp)).trans a1
      have b2 := (hU.cell (p := ⟨g, off + k * 3 + 2, none⟩) hg (by simp)).trans a2
      have hs := bool_all okT ls k [] hlt
      rw [hall, Bool.true_and] at hs
      have hs' : okT (ls.getD k []) = false → ls.all okT = false := by
        intro h
        rw [← Bool.not_eq_true]
        intro h2
        have := List.all_eq_true.1 h2 (ls.getD k []) (by simp [List.getD, hlt])
        rw [h] at this; cases this
      have hok : okT (ls.getD k []) = (decide ((ls.getD k []).getD 1 0 ≤ (ls.getD k []).getD 0 0) && decide ((ls.getD k []).getD 0 0 ≤ (ls.getD k []).getD 2 0)) := rfl
      rw [hok] at hs hs'
      clear hok
      have hgr : g < wr.heap.size := Nat.lt_of_lt_of_le hg hU.size
      clear a0 a1 a2 hall
      generalize (ls.getD k []).getD 0 0 = x0 at *
      generalize (ls.getD k []).getD 1 0 = x1 at *
      generalize (ls.getD k []).getD 2 0 = x2 at *
      have HU := hid hU
      by_cases h1 : x0 < x1
      · have HN := hid (hs' (by simp; omega))
        clear hs hs' hU
        go_wp2
        go_ret
        exact ⟨by show _ = Ending.returned (.bool (ls.all okT)); rw [HN.out]; rfl, HU.out.alloc _⟩
      · by_cases h2 : x2 < x0
        · have HN := hid (hs' (by simp; omega))
          clear hs hs' hU
          go_wp2
          go_ret
          exact ⟨by show _ = Ending.returned (.bool (ls.all okT)); rw [HN.out]; rfl, HU.out.alloc _⟩
        · have HS : Hid ((ls.take (k + 1)).all okT = true) := by show (ls.take (k + 1)).all okT = true; rw [hs]; simp; omega
          clear hs hs' hU
          go_wp2
          go_roundw
          case rel => exact ⟨k + 1, by omega, by go_num, HS.out, HU.out.alloc _⟩
          case measure => simp [intOf]; omega
    · have hk' : k = ls.length := by omega
      subst hk'
      rw [List.take_length] at hall
      have HA := hid hall
      clear hall hlt
      go_wp2
      go_ret
      exact ⟨by show _ = Ending.returned (.bool (ls.all okT)); rw [HA.out]; rfl, hU⟩

def slots (A L : Int) : Int := if A = 0 then 2 else 2 * L + 2
def width (A L : Int) : Int := if A = 0 then 3 else 5 + L
def sent (A : Int) : Int := if A = 0 then 0 else 2
def pow2 (L : Int) : Int := 2 ^ L.toNat
def tree (A L : Int) : Int := if A = 0 then pow2 L else 0
/-- a configuration that may be -/
def V (A T N L B P S : Int) : Prop := 0 ≤ A ∧ A ≤ 2 ∧ 1 ≤ T ∧ T ≤ 6 ∧ 1 ≤ N ∧ N ≤ 64 ∧ 1 ≤ L ∧ L ≤ 6 ∧ 1 ≤ B ∧ B ≤ 16 ∧ 1 ≤ P ∧ P ≤ 16 ∧ 1 ≤ S ∧ S ≤ 64 ∧ (A = 0 ∨ 2 < N)
instance (A T N L B P S : Int) : Decidable (V A T N L B P S) := by unfold V; infer_instance

def i64s (l : List Int) : Array Value := (l.map (Value.int .i64)).toArray
/-- a plan's fifteen numbers -/
def planL (A T N L B P S : Int) : List Int :=
  [A, T, N, L, B, P, S, slots A L, width A L, sent A, 8, 8 + T * slots A L, 8 + T * slots A L + N, 8 + T * slots A L + N + N * width A L, 8 + T * slots A L + N + N * width A L + tree A L]
def zero15 : List Int := [0, 0, 0, 0, 0, 0, 0, 0, 0, 0, 0, 0, 0, 0, 0]

def confV (A T N L B P S : Int) : Value := .agg #[.int .i64 A, .int .i64 T, .int .i64 N, .int .i64 L, .int .i64 B, .int .i64 P, .int .i64 S]

def spans (A T N L B P S : Int) : List (List Int) := [[A, 0, 2], [T, 1, 6], [N, 1, 64], [L, 1, 6], [B, 1, 16], [P, 1, 16], [S, 1, 64]]

def NewPost (w : World) (r : List Int) (er : Int) (e : Ending) (w' : World) : Prop :=
  e = .returned (.tuple #[.agg (i64s r), .int .i64 er]) ∧ Upd [] w w'


def spanCells (A T N L B P S : Int) : Array Value :=
  #[.int .i64 A, .int .i64 0, .int .i64 2, .int .i64 T, .int .i64 1, .int .i64 6, .int .i64 N, .int .i64 1, .int .i64 64, .int .i64 L, .int .i64 1, .int .i64 6, .int .i64 B, .int .i64 1, .int .i64 16, .int .i64 P, .int .i64 1, .int .i64 16, .int .i64 S, .int .i64 1, .int .i64 64]

theorem span_within (A T N L B P S : Int) (w : World) (o1 o2 : Obj) :
    Calls Try.prog 57 #[.slice (some ⟨w.heap.size + 2, 0, none⟩) 7 7] (((w.alloc o1).alloc o2).alloc (.cells #[.int .i64 A, .int .i64 0, .int .i64 2, .int .i64 T, .int .i64 1, .int .i64 6, .int .i64 N, .int .i64 1, .int .i64 64, .int .i64 L, .int .i64 1, .int .i64 6, .int .i64 B, .int .i64 1, .int .i64 16, .int .i64 P, .int .i64 1, .int .i64 16, .int .i64 S, .int .i64 1, .int .i64 64] 92))
      fun e w' => e = .returned (.bool ((spans A T N L B P S).all okT)) ∧ Upd [] (((w.alloc o1).alloc o2).alloc (.cells (spanCells A T N L B P S) 92)) w' := by
  have hb : Blk (((w.alloc o1).alloc o2).alloc (.cells (spanCells A T N L B P S) 92)) (w.heap.size + 2) 92 (spanCells A T N L B P S) := by
    have := Blk.new ((w.alloc o1).alloc o2) 92 (spanCells A T N L B P S)
    simpa using this
  refine within_calls _ (w.heap.size + 2) 0 7 (spans A T N L B P S) (by simp) (by simp [spans]) ?_
  intro i hi
  have hi : i < 7 := hi
  rw [show (((w.alloc o1).alloc o2).alloc (.cells #[.int .i64 A, .int .i64 0, .int .i64 2, .int .i64 T, .int .i64 1, .int .i64 6, .int .i64 N, .int .i64 1, .int .i64 64, .int .i64 L, .int .i64 1, .int .i64 6, .int .i64 B, .int .i64 1, .int .i64 16, .int .i64 P, .int .i64 1, .int .i64 16, .int .i64 S, .int .i64 1, .int .i64 64] 92)) = (((w.alloc o1).alloc o2).alloc (.cells (spanCells A T N L B P S) 92)) from rfl]
  rw [hb.cell, hb.cell, hb.cell]
  rcases (show i = 0 ∨ i = 1 ∨ i = 2 ∨ i = 3 ∨ i = 4 ∨ i = 5 ∨ i = 6 by omega) with rfl | rfl | rfl | rfl | rfl | rfl | rfl <;> exact ⟨rfl, rfl, rfl⟩


theorem upd_three (w w1 : World) (o1 o2 o3 : Obj) (h : Upd [] (((w.alloc o1).alloc o2).alloc o3) w1) : Upd [] w w1 := ((((Upd.refl [] w).alloc o1).alloc o2).alloc o3).trans h

theorem new_blocks (A T N L B P S : Int) (w w1 : World) (o3 : Obj) (hu : Upd [] (((w.alloc (.cells #[.int .i64 A, .int .i64 T, .int .i64 N, .int .i64 L, .int .i64 B, .int .i64 P, .int .i64 S] 23)).alloc (.cells #[.int .i64 0, .int .i64 0, .int .i64 0, .int .i64 0, .int .i64 0, .int .i64 0, .int .i64 0, .int .i64 0, .int .i64 0, .int .i64 0, .int .i64 0, .int .i64 0, .int .i64 0, .int .i64 0, .int .i64 0] 25)).alloc o3) w1) :
    Blk w1 w.heap.size 23 #[.int .i64 A, .int .i64 T, .int .i64 N, .int .i64 L, .int .i64 B, .int .i64 P, .int .i64 S] ∧ Blk w1 (w.heap.size + 1) 25 #[.int .i64 0, .int .i64 0, .int .i64 0, .int .i64 0, .int .i64 0, .int .i64 0, .int .i64 0, .int .i64 0, .int .i64 0, .int .i64 0, .int .i64 0, .int .i64 0, .int .i64 0, .int .i64 0, .int .i64 0] := by
  have h1 : Blk (w.alloc (.cells #[.int .i64 A, .int .i64 T, .int .i64 N, .int .i64 L, .int .i64 B, .int .i64 P, .int .i64 S] 23)) w.heap.size 23 #[.int .i64 A, .int .i64 T, .int .i64 N, .int .i64 L, .int .i64 B, .int .i64 P, .int .i64 S] := Blk.new _ _ _
  have h2 : Blk ((w.alloc (.cells #[.int .i64 A, .int .i64 T, .int .i64 N, .int .i64 L, .int .i64 B, .int .i64 P, .int .i64 S] 23)).alloc (.cells #[.int .i64 0, .int .i64 0, .int .i64 0, .int .i64 0, .int .i64 0, .int .i64 0, .int .i64 0, .int .i64 0, .int .i64 0, .int .i64 0, .int .i64 0, .int .i64 0, .int .i64 0, .int .i64 0, .int .i64 0] 25)) (w.heap.size + 1) 25 #[.int .i64 0, .int .i64 0, .int .i64 0, .int .i64 0, .int .i64 0, .int .i64 0, .int .i64 0, .int .i64 0, .int .i64 0, .int .i64 0, .int .i64 0, .int .i64 0, .int .i64 0, .int .i64 0, .int .i64 0] := by
    have := Blk.new (w.alloc (.cells #[.int .i64 A, .int .i64 T, .int .i64 N, .int .i64 L, .int .i64 B, .int .i64 P, .int .i64 S] 23)) 25 #[.int .i64 0, .int .i64 0, .int .i64 0, .int .i64 0, .int .i64 0, .int .i64 0, .int .i64 0, .int .i64 0, .int .i64 0, .int .i64 0, .int .i64 0, .int .i64 0, .int .i64 0, .int .i64 0, .int .i64 0]
    simpa using this
  exact ⟨((h1.alloc _).alloc _).upd hu (by simp), (h2.alloc _).upd hu (by simp)⟩


theorem upd_setRow (w : World) (g : Nat) (cs : Array Value) : Upd [g] w (w.setRow g cs) :=
  ⟨rfl, rfl, rfl, by simp [World.setRow], fun k _ hs => setRow_other w g k cs (by rintro rfl; exact hs (by simp))⟩

theorem wpList_store_blk {P : Program} {ops : Array Oper} {rest : List Oper} {o : Oper} {a : Act} {w : World} {Q : Exit → Act → World → Prop} (hgd : o.guard = none) (ty : TypeId) (x y : Operand) (ho : o.op = .store ty x y)
    (hd : o.dst = none) (g : Nat) (cells : Array Value) (hx : a.eval x = .pointer (some ⟨g, 0, none⟩)) (hy : a.eval y = .agg cells)
    (t : TypeId) (old : Array Value) (hg : Blk w g t old) (hi : (P.info? ty).map (·.size) = some cells.size)
    (hold : old.size = cells.size) (h1 : cells.all (·.oneCell') = true)
    (h : ∀ w', Blk w' g t cells → Upd [g] w w' → wpList P ops Q rest a w') : wpList P ops Q (o :: rest) a w :=
  wpList_store_row hgd ty x y ho g cells hx hy t old hg hi hold h1 (by rw [hd]; exact h _ (setRow_heap w g old cells t (0, 0) hg) (upd_setRow w g cells))

theorem results_cell_tmp {P : Program} {fn : Func} {p q : Tmp} {ty : TypeId} (h : fn.results = #[.cell p ty, .tmp q]) (tmps : Array Value) (w : World) (g : Nat) (t : TypeId) (cs : Array Value) (d : TypeDesc)
    (hp : tmps.getD p undef = .pointer (some ⟨g, 0, none⟩)) (hg : Blk w g t cs)
    (hu : P.underlying ty = some d) (hd : (match d with | .struct _ | .array _ _ => true | _ => false) = true) (hi : (P.info? ty).map (·.size) = some cs.size) :
    (results fn tmps).run P w = .ok (.tuple #[.agg cs, tmps.getD q undef]) w := by
  have hp' : tmps[p]?.getD undef = .pointer (some ⟨g, 0, none⟩) := by simpa using hp
  simp [results, h, hp', asAddr, run_loadVar_row w g t ty cs (0, 0) d hg hu hd hi]

theorem i64s_one (l : List Int) : (i64s l).all (·.oneCell') = true := by simp [i64s, Value.oneCell']
theorem info25 : (Try.prog.info? 25).map (·.size) = some 15 := by kernel_rfl
theorem info23 : (Try.prog.info? 23).map (·.size) = some 7 := by kernel_rfl

set_option maxRecDepth 100000 in
set_option maxHeartbeats 1000000 in
theorem new_bad1 (A T N L B P S : Int) (w : World) (h : (spans A T N L B P S).all okT = false) :
    Calls Try.prog 15 #[confV A T N L B P S] w (NewPost w zero15 6) := by
  unfold confV
  have H := hid h
  clear h
  go_enter Try.func15, Try.ntmps15
  go_wp2_with fail
  refine (span_within A T N L B P S w _ _).mono ?_
  rw [H.out]
  rintro e w1 ⟨rfl, hu⟩
  have hU := hid (upd_three _ _ _ _ _ hu)
  have hR := hid (new_blocks A T N L B P S w w1 _ hu).2
  clear hu
  go_wp2_with ((refine wpList_store_blk rfl 25 (.tmp 2) (.tmp 30) rfl rfl (w.heap.size + 1) (i64s zero15) rfl rfl 25 _ hR.out info25 rfl (i64s_one _) ?_); intro w2 hb2 hu2)
  exact bodyPost_ret (v := .tuple #[.agg (i64s zero15), .int .i64 6]) (results_cell_tmp Try.results15 _ _ _ 25 _ _ rfl hb2 Try.underlying25 rfl info25) rfl ⟨rfl, hU.out.step hu2 (by simp)⟩
theorem spans_ok (A T N L B P S : Int) : (spans A T N L B P S).all okT = decide (0 ≤ A ∧ A ≤ 2 ∧ 1 ≤ T ∧ T ≤ 6 ∧ 1 ≤ N ∧ N ≤ 64 ∧ 1 ≤ L ∧ L ≤ 6 ∧ 1 ≤ B ∧ B ≤ 16 ∧ 1 ≤ P ∧ P ≤ 16 ∧ 1 ≤ S ∧ S ≤ 64) := by
  rw [Bool.eq_iff_iff]
  simp [spans, okT]
  omega


/-- spans alone -/
def V0 (A T N L B P S : Int) : Prop := 0 ≤ A ∧ A ≤ 2 ∧ 1 ≤ T ∧ T ≤ 6 ∧ 1 ≤ N ∧ N ≤ 64 ∧ 1 ≤ L ∧ L ≤ 6 ∧ 1 ≤ B ∧ B ≤ 16 ∧ 1 ≤ P ∧ P ≤ 16 ∧ 1 ≤ S ∧ S ≤ 64
instance (A T N L B P S : Int) : Decidable (V0 A T N L B P S) := by unfold V0; infer_instance

/-- a plan half made: nine numbers and zeros, or with more -/
def half (A T N L B P S s wd st h l n t z : Int) : Array Value :=
  #[.int .i64 A, .int .i64 T, .int .i64 N, .int .i64 L, .int .i64 B, .int .i64 P, .int .i64 S, .int .i64 s, .int .i64 wd, .int .i64 st, .int .i64 h, .int .i64 l, .int .i64 n, .int .i64 t, .int .i64 z]

theorem bounds_sw (A T N L B P S : Int) (h : V0 A T N L B P S) : 2 ≤ slots A L ∧ slots A L ≤ 14 ∧ 3 ≤ width A L ∧ width A L ≤ 11 ∧ 0 ≤ sent A ∧ sent A ≤ 2 ∧ 0 ≤ tree A L ∧ tree A L ≤ 64 ∧
    0 ≤ T * slots A L ∧ T * slots A L ≤ 84 ∧ 0 ≤ N * width A L ∧ N * width A L ≤ 704 := by
  unfold V0 at h
  have h1 : 2 ≤ slots A L ∧ slots A L ≤ 14 := by unfold slots; split <;> omega
  have h2 : 3 ≤ width A L ∧ width A L ≤ 11 := by unfold width; split <;> omega
  have h3 : 0 ≤ sent A ∧ sent A ≤ 2 := by unfold sent; split <;> omega
  have h4 : 0 ≤ tree A L ∧ tree A L ≤ 64 := by
    unfold tree pow2
    rcases (show L = 1 ∨ L = 2 ∨ L = 3 ∨ L = 4 ∨ L = 5 ∨ L = 6 by omega) with rfl | rfl | rfl | rfl | rfl | rfl <;> split <;> decide
  have m1 : 0 ≤ T * slots A L ∧ T * slots A L ≤ 84 := ⟨Int.mul_nonneg (by omega) (by omega), by
    have := Int.mul_le_mul (a := T) (b := slots A L) (c := 6) (d := 14) (by omega) h1.2 (by omega) (by omega); omega⟩
  have m2 : 0 ≤ N * width A L ∧ N * width A L ≤ 704 := ⟨Int.mul_nonneg (by omega) (by omega), by
    have := Int.mul_le_mul (a := N) (b := width A L) (c := 64) (d := 11) (by omega) h2.2 (by omega) (by omega); omega⟩
  omega

set_option maxRecDepth 100000 in
set_option maxHeartbeats 2000000 in
theorem new_half (A T N L B P S : Int) (w : World) (h : V0 A T N L B P S) :
    Calls Try.prog 15 #[confV A T N L B P S] w (if N ≤ sent A then NewPost w zero15 6 else NewPost w (planL A T N L B P S) 0) := by
  have hok := spans_ok A T N L B P S
  have hbd := bounds_sw A T N L B P S h
  obtain ⟨X, hX⟩ : ∃ X, (if N ≤ sent A then NewPost w zero15 6 else NewPost w (planL A T N L B P S) 0) = X := ⟨_, rfl⟩
  rw [hX]
  have HX := hid hX
  clear hX
  unfold V0 at h
  rw [decide_eq_true (by omega)] at hok
  have hT := h.2.2.1
  have hT2 := h.2.2.2.1
  have hN1 : 1 ≤ N := by omega
  have hN2 : N ≤ 64 := by omega
  have hL1 : 1 ≤ L := by omega
  have hL2 : L ≤ 6 := by omega
  unfold confV
  have H := hid hok
  clear hok h
  go_enter Try.func15, Try.ntmps15
  go_wp2_with fail
  refine (span_within A T N L B P S w _ _).mono ?_
  rw [H.out]
  rintro e w1 ⟨rfl, hu⟩
  have hU := hid (upd_three _ _ _ _ _ hu)
  obtain ⟨hC, hR⟩ := new_blocks A T N L B P S w w1 _ hu
  have hsz : w.heap.size + 2 < w1.heap.size := by have := hu.size; simp at this; omega
  have hsz0 : w.heap.size < w1.heap.size := by omega
  have hsz1 : w.heap.size + 1 < w1.heap.size := by omega
  have y0 := hC.cell 0
  have y1 := hC.cell 1
  have y2 := hC.cell 2
  have y3 := hC.cell 3
  simp at y0 y1 y2 y3
  have HC := hid hC
  have HR := hid hR
  clear hu hC hR
  have HBD := hid hbd
  clear hbd
  go_upto_if 42 with (first | (refine wpList_load_row rfl 23 (.tmp 1) rfl w.heap.size rfl 23 #[.int .i64 A, .int .i64 T, .int .i64 N, .int .i64 L, .int .i64 B, .int .i64 P, .int .i64 S] (0, 0) _ HC.out Try.underlying23 rfl info23 ?_))
  go_cut [5] (fun s5 wx => s5 = .int .i64 (tree A L) ∧ Hid (Blk wx w1.heap.size 25 (half A T N L B P S (slots A L) (width A L) (sent A) 0 0 0 0 0)) ∧ Hid (Upd [] w1 wx))
  case first =>
    by_cases hA : A = 0
    · have e1 := hid (show slots A L = 2 from if_pos hA)
      have e2 := hid (show width A L = 3 from if_pos hA)
      have e3 := hid (show sent A = 0 from if_pos hA)
      have e4 := hid (show tree A L = pow2 L from if_pos hA)
      have hA0 : (A == 0) = true := by simpa using hA
      clear hA
      rcases (show L = 1 ∨ L = 2 ∨ L = 3 ∨ L = 4 ∨ L = 5 ∨ L = 6 by omega) with rfl | rfl | rfl | rfl | rfl | rfl
      all_goals
        go_wp2_with fail
        go_region
        go_wp2_with fail
        go_meet
        refine ⟨by rw [e4.out]; rfl, ?_, Upd.drew ((Upd.refl _ _).alloc _)⟩
        rw [e1.out, e2.out, e3.out]
        exact Blk.new _ _ _
    · have e1 := hid (show slots A L = 2 * L + 2 from if_neg hA)
      have e2 := hid (show width A L = 5 + L from if_neg hA)
      have e3 := hid (show sent A = 2 from if_neg hA)
      have e4 := hid (show tree A L = 0 from if_neg hA)
      have hA0 : (A == 0) = false := by simpa using hA
      clear hA
      go_wp2_with fail
      go_meet
      refine ⟨by rw [e4.out], ?_, (Upd.refl _ _).alloc _⟩
      rw [e1.out, e2.out, e3.out]
      exact Blk.new _ _ _
  case rest =>
    obtain ⟨rfl, hB, hU1⟩ := hcut
    clear y0 y1 y2 y3
    have hbd := HBD.out
    clear HBD
    rw [show planL A T N L B P S = [A, T, N, L, B, P, S, slots A L, width A L, sent A, 8, 8 + T * slots A L, 8 + T * slots A L + N, 8 + T * slots A L + N + N * width A L, 8 + T * slots A L + N + N * width A L + tree A L] from rfl] at HX
    generalize slots A L = s at *
    generalize width A L = wd at *
    generalize sent A = st at *
    generalize tree A L = tr at *
    obtain ⟨hs1, hs2, hw1, hw2, hst1, hst2, ht1, ht2, hm1, hm2, hm3, hm4⟩ := hbd
    have HC2 := hid (HC.out.upd hU1.out (by simp))
    have HR2 := hid (HR.out.upd hU1.out (by simp))
    have hne : w.heap.size + 1 ≠ w1.heap.size := by omega
    have hne' : w.heap.size ≠ w1.heap.size := by omega
    have hlt2 : w1.heap.size < wc.heap.size := hB.out.lt
    have x1 := HC2.out.cell 1
    have x2 := HC2.out.cell 2
    have p7 := hB.out.cell 7
    have p8 := hB.out.cell 8
    have p9 := hB.out.cell 9
    have p10 := hB.out.cell 10
    have p11 := hB.out.cell 11
    have p12 := hB.out.cell 12
    have p13 := hB.out.cell 13
    have p14 := hB.out.cell 14
    have fr := hB.out.frozen
    simp [half] at x1 x2 p7 p8 p9 p10 p11 p12 p13 p14
    obtain ⟨pb, hpb⟩ : ∃ pb, w1.heap.size = pb := ⟨_, rfl⟩
    rw [hpb] at hB hne hne' hlt2 p7 p8 p9 p10 p11 p12 p13 p14 fr ⊢
    have hwp : w.heap.size ≤ pb := by omega
    clear hpb HC HR H hsz hsz0 hsz1
    by_cases hn : N ≤ st
    · have HX2 := hid (show NewPost w zero15 6 = X by rw [← HX.out, if_pos hn])
      clear HX
      go_wp2_with (refine wpList_store_blk rfl 25 (.tmp 2) (.tmp 54) rfl rfl (w.heap.size + 1) (i64s zero15) rfl rfl 25 _ HR2.out info25 rfl (i64s_one _) ?_; intro w2 hb2 hu2)
      exact bodyPost_ret (v := .tuple #[.agg (i64s zero15), .int .i64 6]) (results_cell_tmp Try.results15 _ _ _ 25 _ _ rfl hb2 Try.underlying25 rfl info25) rfl (by rw [← HX2.out]; exact ⟨rfl, (hU.out.trans hU1.out).step hu2 (by simp)⟩)
    · have HX2 := hid (show NewPost w [A, T, N, L, B, P, S, s, wd, st, 8, 8 + T * s, 8 + T * s + N, 8 + T * s + N + N * wd, 8 + T * s + N + N * wd + tr] 0 = X by rw [← HX.out, if_neg hn])
      clear HX
      have HF : Hid (Blk (((((wc.setCell ⟨pb, 10, none⟩ (.int .i64 8)).setCell ⟨pb, 11, none⟩ (.int .i64 (8 + T * s))).setCell ⟨pb, 12, none⟩ (.int .i64 (8 + T * s + N))).setCell ⟨pb, 13, none⟩ (.int .i64 (8 + T * s + N + N * wd))).setCell ⟨pb, 14, none⟩ (.int .i64 (8 + T * s + N + N * wd + tr))) pb 25
          (i64s [A, T, N, L, B, P, S, s, wd, st, 8, 8 + T * s, 8 + T * s + N, 8 + T * s + N + N * wd, 8 + T * s + N + N * wd + tr])) := by
        have := ((((hB.out.set_ 10 (.int .i64 8)).set_ 11 (.int .i64 (8 + T * s))).set_ 12 (.int .i64 (8 + T * s + N))).set_ 13 (.int .i64 (8 + T * s + N + N * wd))).set_ 14 (.int .i64 (8 + T * s + N + N * wd + tr))
        simpa [half, i64s, Hid] using this
      have HR3 : Hid (Blk (((((wc.setCell ⟨pb, 10, none⟩ (.int .i64 8)).setCell ⟨pb, 11, none⟩ (.int .i64 (8 + T * s))).setCell ⟨pb, 12, none⟩ (.int .i64 (8 + T * s + N))).setCell ⟨pb, 13, none⟩ (.int .i64 (8 + T * s + N + N * wd))).setCell ⟨pb, 14, none⟩ (.int .i64 (8 + T * s + N + N * wd + tr))) (w.heap.size + 1) 25 (i64s zero15)) :=
        ((((HR2.out.far hne _).far hne _).far hne _).far hne _).far hne _
      have HU3 : Hid (Upd [] w (((((wc.setCell ⟨pb, 10, none⟩ (.int .i64 8)).setCell ⟨pb, 11, none⟩ (.int .i64 (8 + T * s))).setCell ⟨pb, 12, none⟩ (.int .i64 (8 + T * s + N))).setCell ⟨pb, 13, none⟩ (.int .i64 (8 + T * s + N + N * wd))).setCell ⟨pb, 14, none⟩ (.int .i64 (8 + T * s + N + N * wd + tr)))) :=
        (((((hU.out.trans hU1.out).setCell (.inr hwp) _).setCell (.inr hwp) _).setCell (.inr hwp) _).setCell (.inr hwp) _).setCell (.inr hwp) _
      go_upto_region 14 with fail
      go_wp2_with (first
        | (refine wpList_load_row rfl 25 (.tmp 4) rfl pb rfl 25 _ (0, 0) _ HF.out Try.underlying25 rfl info25 ?_)
        | (refine wpList_store_blk rfl 25 (.tmp 2) (.tmp 85) rfl rfl (w.heap.size + 1) (i64s [A, T, N, L, B, P, S, s, wd, st, 8, 8 + T * s, 8 + T * s + N, 8 + T * s + N + N * wd, 8 + T * s + N + N * wd + tr]) rfl rfl 25 _ HR3.out info25 rfl (i64s_one _) ?_; intro w2 hb2 hu2))
      have hU4 : Upd [] w w2 := HU3.out.step hu2 (by simp)
      have hfin : NewPost w [A, T, N, L, B, P, S, s, wd, st, 8, 8 + T * s, 8 + T * s + N, 8 + T * s + N + N * wd, 8 + T * s + N + N * wd + tr] 0 (.returned (.tuple #[.agg (i64s [A, T, N, L, B, P, S, s, wd, st, 8, 8 + T * s, 8 + T * s + N, 8 + T * s + N + N * wd, 8 + T * s + N + N * wd + tr]), .int .i64 0])) w2 := ⟨rfl, hU4⟩
      rw [HX2.out] at hfin
      refine bodyPost_ret (v := .tuple #[.agg (i64s [A, T, N, L, B, P, S, s, wd, st, 8, 8 + T * s, 8 + T * s + N, 8 + T * s + N + N * wd, 8 + T * s + N + N * wd + tr]), .int .i64 0]) ?_ ?_ hfin
      · exact results_cell_tmp Try.results15 _ _ _ 25 _ _ rfl hb2 Try.underlying25 rfl info25
      · rfl
end Go.Proofs.Ytjninopakpfklaa
