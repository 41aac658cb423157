/- Joined: Ra V22 Rb Rc Rd Re Rf Rg Rh Ri Rj. -/
import Derived.Test.YtbnbbafffihapaaGreatJ4
import Derived.Test.YtbnbbafffihapaaGreatV17
import Derived.MapKept
import Derived.Test.YtbnbbafffihapaaGreatJ2
import Derived.Test.YtbnbbafffihapaaGreatJ3
import Derived.Test.YtbnbbafffihapaaGreatJ5
/- A queue's view (skip): words, rows. -/
namespace Go.Proofs.YtbnbbafffihapaaGreat
open Go.RowKit
attribute [local irreducible] Instr.loadAt Instr.storeAt Instr.fieldAt Instr.indexAt Instr.sliceAt Instr.buildSlice Instr.box Instr.alloc Builtin.append_ Builtin.len_ Builtin.min_ Builtin.max_ Calls Instr.build Instr.makeSlice binSem convert Instr.index Instr.range Instr.next
abbrev TVw : Nat := 86
abbrev TSt : Nat := 93
abbrev TSts : Nat := 90
theorem node_bd {c : Cf} (hr : rightC c) (n f : Int) : c.node n f = -1 ∨ (0 ≤ c.node n f ∧ c.node n f < sizeP c.A c.T c.N c.L) := by
  obtain ⟨A, T, N, L, B, P, S⟩ := c
  obtain ⟨b1, b2, b3, b4, b5, b6, b7, b8, b9, b10, b11, b12⟩ := plan_bd hr
  unfold Cf.node nodeA
  split
  · rename_i h
    have h : (1 ≤ n ∧ n ≤ N) ∧ 0 ≤ f ∧ f ≤ widthP A L - 1 := h
    right
    have h1 : 0 * widthP A L ≤ (n - 1) * widthP A L := Int.mul_le_mul_of_nonneg_right (by omega) (by omega)
    have h2 : ((n - 1) + 1) * widthP A L ≤ N * widthP A L := Int.mul_le_mul_of_nonneg_right (by omega) (by omega)
    rw [Int.add_mul, Int.one_mul] at h2
    generalize (n - 1) * widthP A L = z at *
    show 0 ≤ nodesP A T N L + z + f ∧ nodesP A T N L + z + f < sizeP A T N L
    omega
  · exact .inl rfl
def viewC (c : Cf) (v : Value) : Array Value := ((planC c).toList ++ [v]).toArray
theorem viewC_len (c : Cf) (v : Value) : (viewC c v).toList.length = 16 := by obtain ⟨A, T, N, L, B, P, S⟩ := c; rfl
theorem viewC_one (c : Cf) (a : Option Addr) (n k : Nat) : (viewC c (.slice a n k)).toList.all (·.oneCell') = true := by obtain ⟨A, T, N, L, B, P, S⟩ := c; rfl
theorem viewC_at (c : Cf) (v : Value) (j : Nat) (x : Value) (h : (planC c).toList[j]? = some x) : (viewC c v)[j]? = some x := by
  unfold viewC
  have hj : j < (planC c).toList.length := by
    rcases Nat.lt_or_ge j (planC c).toList.length with h1 | h1
    · exact h1
    · rw [List.getElem?_eq_none h1] at h; cases h
  rw [List.getElem?_toArray, List.getElem?_append_left hj]; exact h
theorem viewC_v (c : Cf) (v : Value) : (viewC c v)[15]? = some v := by obtain ⟨A, T, N, L, B, P, S⟩ := c; rfl
/-- a node's word -/
def atV (c : Cf) (W : List Int) (n f : Int) : Int := if c.node n f < 0 then 0 else W.getD (c.node n f).toNat 0
theorem atV_u {c : Cf} {W : List Int} (hu : ∀ x ∈ W, u64R x) (n f : Int) : u64R (atV c W n f) := by
  unfold atV
  split
  · exact ⟨by decide, by decide⟩
  · exact u64_getD hu _
/-- a view in memory -/
structure VwAt (w : World) (c : Cf) (v : Value) (W : List Int) : Prop where
  r : rightC c
  s : Sl w 24 1 v W.length (W.map (.int .u64))
  l : W.length = (sizeP c.A c.T c.N c.L).toNat
  u : ∀ x ∈ W, u64R x
section
variable {w w' : World} {c : Cf} {v : Value} {W : List Int}
theorem VwAt.upd0 (h : VwAt w c v W) (hu : Upd [] w w') : VwAt w' c v W := ⟨h.r, h.s.upd hu (by simp), h.l, h.u⟩
theorem VwAt.form (h : VwAt w c v W) : ∃ a n k, v = .slice a n k := by
  obtain ⟨a, cap, he, -⟩ := h.s.form
  exact ⟨a, _, cap, he⟩
/-- the plan of a view in a block -/
theorem vplan {K : Value → World → Prop} {b T : Nat} (hb : Blk w b T (viewC c v)) (k : K (.agg (planC c)) w) : RunP Tryz.prog (Instr.loadAt 45 (.pointer (some ⟨b, 0, none⟩))) K w :=
  lda (planC c).toList (planC_len c) (fun j x hx => by rw [Nat.zero_add, hb.cell]; exact viewC_at c v j x hx) (by simpa using k)
set_option maxRecDepth 10000 in
theorem at_c (h : VwAt w c v W) (n f : Int) : Fn Tryz.prog 40 #[.agg (viewC c v), .int .i64 n, .int .i64 f] w fun r w' => r = .int .u64 (atV c W n f) ∧ Upd [] w w' := by
  obtain ⟨va, vn, vk, rfl⟩ := h.form
  refine fn_enter Tryz.func40 rfl rfl ?_
  refine bx fun w1 hb1 hu1 hs1 => ?_
  have hb1 : Blk w1 w.heap.size TVw (viewC c (.slice va vn vk)) := hb1
  refine fa ?_
  refine vplan hb1 ?_
  refine cl (node_a2 h.r n f w1) ?_
  rintro _ w2 ⟨rfl, hu2⟩
  have hU2 := hu1.trans hu2
  have hbd := node_bd h.r n f
  have hl := h.l
  refine cd (fun hneg => ?_) (fun hneg => ?_)
  · exact ⟨by unfold atV; rw [if_pos hneg]; rfl, hU2⟩
  · refine fa ?_
    refine ldb (hb1.upd hu2 (by simp)) (viewC_v c _) ?_
    have h2 := h.upd0 hU2
    obtain ⟨b, o, cap, he, -⟩ := h2.s.some_ (by omega)
    cases he
    refine ix (c.node n f).toNat (by omega) (by omega) ?_
    refine ld (v := .int .u64 (W.getD (c.node n f).toNat 0)) (h2.s.getD_ rfl _ (by omega)) ?_
    exact ⟨by unfold atV; rw [if_neg hneg]; rfl, hU2⟩
end
def stopsV (l : List (Int × Bool)) : List Value := l.flatMap fun s => [.int .i64 s.1, .bool s.2]
theorem stopsV_snoc (l : List (Int × Bool)) (s : Int × Bool) : stopsV (l ++ [s]) = stopsV l ++ [.int .i64 s.1, .bool s.2] := by simp [stopsV]
/-- a row's nodes, from a word on -/
def rowF (c : Cf) (W : List Int) (i : Int) : Nat → Int → List (Int × Bool)
  | 0, _ => []
  | m + 1, x => if ptrW x ≤ 2 then [] else (ptrW x, markW x) :: rowF c W i m (atV c W (ptrW x) (5 + i))
def rowV (c : Cf) (W : List Int) (i : Int) : List (Int × Bool) := rowF c W i c.N.toNat (atV c W 1 (5 + i))
theorem rowF_len (c : Cf) (W : List Int) (i : Int) (m : Nat) : ∀ x, (rowF c W i m x).length ≤ m := by
  induction m with
  | zero => intro x; exact Nat.le_refl _
  | succ m ih =>
    intro x
    unfold rowF
    split
    · exact Nat.zero_le _
    · exact Nat.succ_le_succ (ih _)
/-- a list of the call's own -/
structure Gr (w0 w : World) (e n : Nat) (v : Value) (len : Nat) (xs : List Value) : Prop where
  s : Sl w e n v len xs
  f : Fresh w0 v
theorem Gr.upd0 {w0 w w' : World} {e n : Nat} {v : Value} {len : Nat} {xs : List Value} (h : Gr w0 w e n v len xs) (hu : Upd [] w w') : Gr w0 w' e n v len xs := ⟨h.s.upd hu (by simp), h.f⟩
theorem Gr.nil_ (w0 w : World) (e n : Nat) : Gr w0 w e n (.slice none 0 0) 0 [] := ⟨Sl.nil_ _ _ _, Fresh.nil_ _⟩
/-- behind an append -/
theorem Gr.app {w0 w w1 w2 : World} {e n : Nat} {v v' : Value} {len len' : Nat} {xs xs' : List Value} (h : Gr w0 w e n v len xs) (hU : Upd [] w0 w1) (hs : Sl w2 e n v' len' xs') (hG : Grow w1 w2 v v') : Gr w0 w2 e n v' len' xs' ∧ Upd [] w0 w2 := by
  refine ⟨⟨hs, fun g hg => ?_⟩, hU.step hG.up fun g hg => ?_⟩
  · rcases hG.own g hg with h1 | h1
    · exact h.f g h1
    · have := hU.size; omega
  · exact .inr (h.f g (by simpa using hg))
section
variable {w w' : World} {c : Cf} {v : Value} {W : List Int}
set_option maxRecDepth 10000 in
theorem row_c (h : VwAt w c v W) (i : Int) (hi : 0 ≤ i ∧ i ≤ 100) : Fn Tryz.prog 29 #[.agg (viewC c v), .int .i64 i] w fun r w' => Gr w w' TSt 2 r (rowV c W i).length (stopsV (rowV c W i)) ∧ Upd [] w w' := by
  obtain ⟨va, vn, vk, rfl⟩ := h.form
  have hN : 1 ≤ c.N ∧ c.N ≤ 64 := N_bd h.r
  refine fn_enter Tryz.func29 rfl rfl ?_
  refine bx fun w1 hb1 hu1 hs1 => ?_
  have hb1 : Blk w1 w.heap.size TVw (viewC c (.slice va vn vk)) := hb1
  refine ldw hb1 (viewC_len _ _) ?_
  refine ar64 (by omega) ?_
  refine cl (at_c (h.upd0 hu1) 1 (5 + i)) ?_
  rintro _ w2 ⟨rfl, hu2⟩
  have hU2 := hu1.trans hu2
  have hb2 := hb1.upd hu2 (by simp)
  refine fa ?_
  refine vplan hb2 ?_
  refine cl (conf_c2 c w2) ?_
  rintro _ w3 ⟨rfl, hu3⟩
  refine fl (v := .int .i64 c.N) (by obtain ⟨A, T, N, L, B, P, S⟩ := c; rfl) ?_
  have hU3 := hU2.trans hu3
  have hb3 := hb2.upd hu3 (by simp)
  unfold rowV
  obtain ⟨M, hM⟩ : ∃ M : Nat, c.N = (M : Int) := ⟨_, (Int.toNat_of_nonneg (by omega)).symm⟩
  rw [hM, Int.toNat_natCast]
  have hx0 := atV_u (c := c) h.u 1 (5 + i)
  generalize hL : rowF c W i M (atV c W 1 (5 + i)) = L
  have hLl : L.length ≤ M := by rw [← hL]; exact rowF_len _ _ _ _ _
  generalize atV c W 1 (5 + i) = x0 at *
  refine loop_rule [1, 2, 14] [5, 6, 15] (fun vs w' m => ∃ (k : Nat) (lv : Value) (l : List (Int × Bool)) (x : Int), vs = [lv, .int .u64 x, .int .i64 (k : Int)] ∧ k ≤ M ∧ m = M - k ∧ l.length = k ∧ L = l ++ rowF c W i (M - k) x ∧ u64R x ∧ Gr w w' TSt 2 lv l.length (stopsV l) ∧ Upd [] w w' ∧ Blk w' w.heap.size TVw (viewC c (.slice va vn vk))) rfl [.slice none 0 0, .int .u64 x0, .int .i64 0] M rfl
    ⟨0, _, [], x0, rfl, by omega, rfl, rfl, by rw [← hL]; rfl, hx0, Gr.nil_ _ _ _ _, hU3, hb3⟩ ?_
  rintro _ w4 m ⟨k, lv, l, x, rfl, hk, rfl, hlk, hLe, hx, hG, hU4, hb4⟩
  have h4 := h.upd0 hU4
  refine cd (fun hlt => ?_) (fun hlt => ?_)
  · obtain ⟨q, hq⟩ : ∃ q, M - k = q + 1 := ⟨M - k - 1, by omega⟩
    rw [hq, rowF] at hLe
    refine cl (wptr_c hx w4) ?_
    rintro _ w4 ⟨rfl, rfl⟩
    refine cd (fun h2 => ?_) (fun h2 => ?_)
    · rw [if_pos h2, List.append_nil] at hLe
      rw [hLe]
      exact ⟨hG, hU4⟩
    · rw [if_neg h2] at hLe
      refine cl (wptr_c hx w4) ?_
      rintro _ w4 ⟨rfl, rfl⟩
      refine cl (wmark_c hx w4) ?_
      rintro _ w4 ⟨rfl, rfl⟩
      refine bd #[.int .i64 (ptrW x), .bool (markW x)] (fun _ => by kernel_rfl) ?_
      refine bs #[.int .i64 (ptrW x), .bool (markW x)] (fun _ => by kernel_rfl) fun w5 hb5 hu5 hs5 => ?_
      refine apg (hG.upd0 hu5).s hb5 rfl rfl (by decide) (by simp only [maxLen]; omega) (by omega) fun lv2 w6 hs6 hG6 => ?_
      obtain ⟨hg6, hU6⟩ := (hG.upd0 hu5).app (hU4.trans hu5) hs6 hG6
      have hvb : w.heap.size ∉ lv.ownBlock.toList := fun hm => by
        have hm' : lv.ownBlock = some w.heap.size := by simpa using hm
        exact absurd hm' (hG.s.blk_ne hb4 (by decide))
      have hb6 := (hb4.upd hu5 (by simp)).upd hG6.up hvb
      have h6 := h.upd0 hU6
      have hp := ptrW_bd (x := x)
      refine draw_all (fun w' => Upd [] w6 w') (by decide +kernel) (Upd.refl [] w6).drew ?_
      refine rq (.agg (viewC c (.slice va vn vk))) (fun w' hw' => ldw (hb6.upd hw' (by simp)) (viewC_len _ _) ⟨rfl, rfl⟩) ?_
      refine q_cl (.int .i64 (ptrW x)) (fun w' hw' => (wptr_c hx w').mono fun _ _ ⟨u, he, h1, h2⟩ => ⟨u, he, h1, by rw [h2]; exact hw'⟩) ?_
      refine q_ar64 (by omega) ?_
      refine q_cl (.int .u64 (atV c W (ptrW x) (5 + i))) (fun w' hw' => (at_c (h6.upd0 hw') (ptrW x) (5 + i)).mono fun _ _ ⟨u, he, h1, h2⟩ => ⟨u, he, h1, hw'.trans h2⟩) ?_
      intro w7 hu7
      refine ar64 (by omega) ?_
      refine round_mk [lv2, .int .u64 (atV c W (ptrW x) (5 + i)), .int .i64 ((k + 1 : Nat) : Int)] (M - (k + 1)) rfl rfl ⟨k + 1, lv2, l ++ [(ptrW x, markW x)], _, rfl, by omega, rfl, by simp [hlk], ?_, atV_u h.u _ _, ?_, hU6.trans hu7, hb6.upd hu7 (by simp)⟩ (by omega)
      · rw [hLe, show M - (k + 1) = q by omega]; simp
      · rw [stopsV_snoc, List.length_append]
        exact hg6.upd0 hu7
  · rw [show M - k = 0 by omega, rowF, List.append_nil] at hLe
    rw [hLe]
    exact ⟨hG, hU4⟩
end
end Go.Proofs.YtbnbbafffihapaaGreat

/- Maps whose keys are ints. -/
namespace Go.Proofs.YtbnbbafffihapaaGreat
open Go.RowKit
attribute [local irreducible] Instr.loadAt Instr.storeAt Instr.fieldAt Instr.indexAt Instr.sliceAt Instr.buildSlice Instr.box Instr.alloc Builtin.append_ Builtin.len_ Builtin.min_ Builtin.max_ Calls Instr.build Instr.makeSlice binSem convert Instr.index Instr.range Instr.next

attribute [local irreducible] Instr.lookup Instr.mapUpdate Instr.makeMap Builtin.delete_ zeroValue
class MapT (P : Program) (t : Nat) (k : outParam Nat) (e : outParam Nat) : Prop where
  t : P.underlying t = some (.map k e)
  k : P.underlying k = some (.int .i64)
class ZeroT (P : Program) (e : Nat) (z : outParam Value) : Prop where
  h : (P.info? e).map (fun i => i.zero) = some (some z)
/-- block b is a map that holds f -/
def MapF (w : World) (b : Nat) (f : Int → Option Value) : Prop :=
  ∃ es clock, w.heap[b]? = some (.map es clock) ∧ (∀ x ∈ es.toList, ∃ k, x.key = .int .i64 k) ∧ (es.toList.map (·.key)).Nodup ∧ ∀ k v, f k = some v ↔ ∃ x ∈ es.toList, x.key = .int .i64 k ∧ x.val = v
def updF (f : Int → Option Value) (k : Int) (v : Option Value) : Int → Option Value := fun j => if j = k then v else f j
section
variable {w w' : World} {b : Nat} {f : Int → Option Value}
theorem MapF.lt (h : MapF w b f) : b < w.heap.size := by
  obtain ⟨es, clock, hb, -⟩ := h
  exact (Array.getElem?_eq_some_iff.1 hb).1
theorem MapF.upd {S : List Nat} (h : MapF w b f) (hu : Upd S w w') (hS : b ∉ S) : MapF w' b f := by
  have hlt := h.lt
  obtain ⟨es, clock, hb, r⟩ := h
  exact ⟨es, clock, (hu.block b hlt hS).trans hb, r⟩
theorem MapF.drew (h : MapF w b f) : MapF w.drew b f := h
theorem keys_is {es : Array MapEntry} (h : ∀ x ∈ es.toList, ∃ k, x.key = .int .i64 k) : ∀ x ∈ es.toList, MapKept.IsKey (.int .i64) x.key := fun x hx => by
  obtain ⟨k, e⟩ := h x hx
  rw [e]; rfl
theorem upd_set {w : World} {r : Nat} {o o' : Obj} : Upd [r] w { w with heap := w.heap.setIfInBounds r o' } := by
  refine ⟨rfl, rfl, rfl, by simp, fun k hk hn => ?_⟩
  have hne : r ≠ k := fun e => hn (by simp [e])
  simp [hne]
theorem run_zero {P : Program} {e : Nat} {z : Value} [h : ZeroT P e z] (w : World) : (zeroValue e).run P w = .ok z w := by
  have h := h.h
  cases hi : P.info? e with
  | none => rw [hi] at h; cases h
  | some i =>
    rw [hi] at h
    have hz : i.zero = some z := Option.some.inj h
    unfold zeroValue typeInfo
    simp [hi, hz, Result.andThen, Sem.run_bind]
end
section
variable {P : Program} {K : Value → World → Prop} {w : World} {b : Nat} {f : Int → Option Value}
theorem mkm {t : Nat} (k : ∀ w', MapF w' w.heap.size (fun _ => none) → Upd [] w w' → w'.heap.size = w.heap.size + 1 → K (.map (some w.heap.size)) w') : RunP P (Instr.makeMap t none) K w := by
  refine rn (.map (some w.heap.size)) (w.alloc (.map #[] 0)) (by unfold Instr.makeMap; simp [Result.andThen]) (k _ ⟨#[], 0, (MapKept.heap_alloc w _).1, by simp, by simp, by simp⟩ ((Upd.refl [] w).alloc _) ?_)
  show (w.heap.push _).size = _
  simp
theorem look_f {t kt e : Nat} {z : Value} [T : MapT P t kt e] [ZeroT P e z] (h : MapF w b f) (key : Int) : (Instr.lookup t (.map (some b)) (.int .i64 key) true).run P w = .ok (match f key with | some v => .tuple #[v, .bool true] | none => .tuple #[z, .bool false]) w ∧ (Instr.lookup t (.map (some b)) (.int .i64 key) false).run P w = .ok (match f key with | some v => v | none => z) w := by
  obtain ⟨es, clock, hb, hk, hn, hf⟩ := h
  have hkey : MapKept.IsKey (.int .i64) (.int .i64 key) := rfl
  rcases MapKept.findNow_spec hkey es.toList 0 (keys_is hk) with ⟨h1, h2⟩ | ⟨j, x, h1, h2, h3⟩
  · have e1 : f key = none := by
      cases hfk : f key with
      | none => rfl
      | some v =>
        obtain ⟨x, hx, hxk, -⟩ := (hf key v).1 hfk
        exact absurd hxk (h2 x hx)
    rw [e1]
    constructor <;> (unfold Instr.lookup; simp [run_underlying T.t, MapKept.run_getObj_map hb, MapKept.run_checkKey T.k hkey, MapKept.run_findKey T.k h1, run_zero, Result.andThen, Sem.run_bind])
  · have e1 : f key = some x.val := (hf key x.val).2 ⟨x, List.mem_of_getElem? h2, h3, rfl⟩
    rw [e1]
    constructor <;> (unfold Instr.lookup; simp [run_underlying T.t, MapKept.run_getObj_map hb, MapKept.run_checkKey T.k hkey, MapKept.run_findKey T.k h1, Result.andThen, Sem.run_bind])
/-- v, ok := m[k] -/
theorem mlk {t kt e : Nat} {z : Value} [MapT P t kt e] [ZeroT P e z] (h : MapF w b f) {key : Int} (k : K (match f key with | some v => .tuple #[v, .bool true] | none => .tuple #[z, .bool false]) w) : RunP P (Instr.lookup t (.map (some b)) (.int .i64 key) true) K w := rn _ _ (look_f h key).1 k
theorem mlk1 {t kt e : Nat} {z : Value} [MapT P t kt e] [ZeroT P e z] (h : MapF w b f) {key : Int} (k : K (match f key with | some v => v | none => z) w) : RunP P (Instr.lookup t (.map (some b)) (.int .i64 key) false) K w := rn _ _ (look_f h key).2 k
theorem mlk0 {t kt e : Nat} {z : Value} [T : MapT P t kt e] [ZeroT P e z] {key : Int} (k : K (.tuple #[z, .bool false]) w) : RunP P (Instr.lookup t (.map none) (.int .i64 key) true) K w := by
  refine rn _ w ?_ k
  have hkey : MapKept.IsKey (.int .i64) (.int .i64 key) := rfl
  unfold Instr.lookup
  simp [run_underlying T.t, MapKept.run_checkKey T.k hkey, MapKept.run_findKey (l := []) T.k rfl, run_zero, Result.andThen, Sem.run_bind]
theorem split_at {α : Type} {l : List α} {j : Nat} {x : α} (h : l[j]? = some x) : l = l.take j ++ x :: l.drop (j + 1) ∧ j < l.length := by
  obtain ⟨hj, rfl⟩ := List.getElem?_eq_some_iff.1 h
  exact ⟨by rw [List.getElem_cons_drop, List.take_append_drop], hj⟩
/-- m[k] = v -/
theorem mup {K : World → Prop} {t kt e : Nat} [T : MapT P t kt e] (h : MapF w b f) {key : Int} {v : Value} (k : ∀ w', MapF w' b (updF f key (some v)) → Upd [b] w w' → w'.heap.size = w.heap.size → K w') : RunU P (Instr.mapUpdate t (.map (some b)) (.int .i64 key) v) K w := by
  obtain ⟨es, clock, hb, hk, hn, hf⟩ := h
  have hkey : MapKept.IsKey (.int .i64) (.int .i64 key) := rfl
  rcases MapKept.findNow_spec hkey es.toList 0 (keys_is hk) with ⟨h1, h2⟩ | ⟨j, x, h1, h2, h3⟩
  · refine ⟨⟨{ w with heap := w.heap.setIfInBounds b (.map (es.push { key := .int .i64 key, val := v, born := clock }) (clock + 1)) }, ?_, k _ ⟨_, _, (MapKept.heap_set hb).1, ?_, ?_, ?_⟩ (upd_set (o := .map es clock)) (by simp)⟩⟩
    · unfold Instr.mapUpdate
      simp [run_underlying T.t, MapKept.run_getObj_map hb, MapKept.run_checkKey T.k hkey, MapKept.run_findKey T.k h1, MapKept.run_setObj_map _ hb, Result.andThen, Sem.run_bind]
    · intro x hx
      simp only [Array.toList_push, List.mem_append, List.mem_singleton] at hx
      rcases hx with hx | rfl
      · exact hk x hx
      · exact ⟨key, rfl⟩
    · simp only [Array.toList_push, List.map_append, List.map_cons, List.map_nil]
      refine List.nodup_append.2 ⟨hn, by simp, fun a ha c hc => ?_⟩
      obtain ⟨x, hx, rfl⟩ := List.mem_map.1 ha
      rw [List.mem_singleton.1 hc]
      exact h2 x hx
    · intro q u
      simp only [Array.toList_push, List.mem_append, List.mem_singleton]
      unfold updF
      by_cases hq : q = key
      · subst hq
        rw [if_pos rfl]
        constructor
        · intro e; cases e; exact ⟨_, .inr rfl, rfl, rfl⟩
        · rintro ⟨x, hx | rfl, hxk, hxv⟩
          · exact absurd hxk (h2 x hx)
          · exact congrArg some hxv
      · rw [if_neg hq, hf q u]
        constructor
        · rintro ⟨x, hx, r⟩; exact ⟨x, .inl hx, r⟩
        · rintro ⟨x, hx | rfl, hxk, hxv⟩
          · exact ⟨x, hx, hxk, hxv⟩
          · exact absurd (by injection hxk with _ e; exact e.symm) hq
  · obtain ⟨hsp, hj⟩ := split_at h2
    have hjs : j < es.size := by simpa using hj
    have hm : (es.modify j fun e => { e with key := .int .i64 key, val := v }).toList = es.toList.take j ++ { x with key := .int .i64 key, val := v } :: es.toList.drop (j + 1) := by
      rw [Array.toList_modify]
      have e1 : es.toList.modify j (fun e => { e with key := .int .i64 key, val := v }) = es.toList.set j { x with key := .int .i64 key, val := v } := by
        apply List.ext_getElem?
        intro i
        rw [List.getElem?_modify, List.getElem?_set]
        by_cases hi : j = i
        · subst hi
          rw [h2]; simp [hjs]
        · simp [hi]
      rw [e1, List.set_eq_take_append_cons_drop, if_pos hj]
    have hx : es[j]? = some x := by simpa using h2
    refine ⟨⟨{ w with heap := w.heap.setIfInBounds b (.map (es.modify j fun e => { e with key := .int .i64 key, val := v }) clock) }, ?_, k _ ⟨_, _, (MapKept.heap_set hb).1, ?_, ?_, ?_⟩ (upd_set (o := .map es clock)) (by simp)⟩⟩
    · unfold Instr.mapUpdate
      simp [run_underlying T.t, MapKept.run_getObj_map hb, MapKept.run_checkKey T.k hkey, MapKept.run_findKey T.k h1, hx, h3, MapKept.run_keyThatStays hkey, MapKept.run_setObj_map _ hb, Result.andThen, Sem.run_bind]
    · rw [hm]
      intro y hy
      simp only [List.mem_append, List.mem_cons] at hy
      rcases hy with hy | rfl | hy
      · exact hk y (List.mem_of_mem_take hy)
      · exact ⟨key, rfl⟩
      · exact hk y (List.mem_of_mem_drop hy)
    · rw [hm]
      rw [hsp] at hn
      simp only [List.map_append, List.map_cons] at hn ⊢
      rw [h3] at hn
      exact hn
    · intro q u
      rw [hm]
      rw [hsp] at hn
      simp only [List.map_append, List.map_cons] at hn
      rw [h3] at hn
      obtain ⟨n1, n2, n3⟩ := List.nodup_append.1 hn
      obtain ⟨n4, n5⟩ := List.nodup_cons.1 n2
      have o1 : ∀ y ∈ es.toList.take j, y.key ≠ .int .i64 key := fun y hy e => n3 _ (List.mem_map.2 ⟨y, hy, rfl⟩) _ List.mem_cons_self e
      have o2 : ∀ y ∈ es.toList.drop (j + 1), y.key ≠ .int .i64 key := fun y hy e => n4 (List.mem_map.2 ⟨y, hy, e⟩)
      simp only [List.mem_append, List.mem_cons]
      unfold updF
      by_cases hq : q = key
      · subst hq
        rw [if_pos rfl]
        constructor
        · intro e; cases e; exact ⟨_, .inr (.inl rfl), rfl, rfl⟩
        · rintro ⟨y, hy | rfl | hy, hyk, hyv⟩
          · exact absurd hyk (o1 y hy)
          · exact congrArg some hyv
          · exact absurd hyk (o2 y hy)
      · rw [if_neg hq, hf q u]
        constructor
        · rintro ⟨y, hy, hyk, hyv⟩
          rw [hsp] at hy
          simp only [List.mem_append, List.mem_cons] at hy
          rcases hy with hy | rfl | hy
          · exact ⟨y, .inl hy, hyk, hyv⟩
          · rw [h3] at hyk
            exact absurd (by injection hyk with _ e; exact e.symm) hq
          · exact ⟨y, .inr (.inr hy), hyk, hyv⟩
        · rintro ⟨y, hy | rfl | hy, hyk, hyv⟩
          · exact ⟨y, List.mem_of_mem_take hy, hyk, hyv⟩
          · exact absurd (by injection hyk with _ e; exact e.symm) hq
          · exact ⟨y, List.mem_of_mem_drop hy, hyk, hyv⟩
/-- delete(m, k) -/
theorem mdl {t kt e ty : Nat} [T : MapT P t kt e] (h : MapF w b f) {key : Int} (k : ∀ w', MapF w' b (updF f key none) → Upd [b] w w' → w'.heap.size = w.heap.size → K (.tuple #[]) w') : RunP P (Builtin.delete_ #[t, kt] ty #[.map (some b), .int .i64 key]) K w := by
  obtain ⟨es, clock, hb, hk, hn, hf⟩ := h
  have hkey : MapKept.IsKey (.int .i64) (.int .i64 key) := rfl
  rcases MapKept.findNow_spec hkey es.toList 0 (keys_is hk) with ⟨h1, h2⟩ | ⟨j, x, h1, h2, h3⟩
  · refine rn (.tuple #[]) { w with heap := w.heap.setIfInBounds b (.map es clock) } ?_ (k _ ⟨es, clock, (MapKept.heap_set hb).1, hk, hn, ?_⟩ (upd_set (o := .map es clock)) (by simp))
    · unfold Builtin.delete_
      simp [run_underlying T.t, MapKept.run_getObj_map hb, MapKept.run_checkKey T.k hkey, MapKept.run_findKey T.k h1, MapKept.run_setObj_map _ hb, Result.andThen, Sem.run_bind]
    · intro q u
      unfold updF
      by_cases hq : q = key
      · subst hq
        rw [if_pos rfl]
        constructor
        · intro e; cases e
        · rintro ⟨x, hx, hxk, -⟩; exact absurd hxk (h2 x hx)
      · rw [if_neg hq]; exact hf q u
  · obtain ⟨hsp, hj⟩ := split_at h2
    have hjs : j < es.size := by simpa using hj
    have hm : (es.eraseIdxIfInBounds j).toList = es.toList.take j ++ es.toList.drop (j + 1) := by
      unfold Array.eraseIdxIfInBounds
      rw [dif_pos hjs, Array.toList_eraseIdx, List.eraseIdx_eq_take_drop_succ]
    refine rn (.tuple #[]) { w with heap := w.heap.setIfInBounds b (.map (es.eraseIdxIfInBounds j) clock) } ?_ (k _ ⟨_, _, (MapKept.heap_set hb).1, ?_, ?_, ?_⟩ (upd_set (o := .map es clock)) (by simp))
    · unfold Builtin.delete_
      simp [run_underlying T.t, MapKept.run_getObj_map hb, MapKept.run_checkKey T.k hkey, MapKept.run_findKey T.k h1, MapKept.run_setObj_map _ hb, Result.andThen, Sem.run_bind]
    · rw [hm]
      intro y hy
      simp only [List.mem_append] at hy
      rcases hy with hy | hy
      · exact hk y (List.mem_of_mem_take hy)
      · exact hk y (List.mem_of_mem_drop hy)
    · rw [hm]
      rw [hsp] at hn
      simp only [List.map_append, List.map_cons] at hn ⊢
      obtain ⟨n1, n2, n3⟩ := List.nodup_append.1 hn
      exact List.nodup_append.2 ⟨n1, (List.nodup_cons.1 n2).2, fun a ha c hc => n3 a ha c (List.mem_cons_of_mem _ hc)⟩
    · intro q u
      rw [hm]
      rw [hsp] at hn
      simp only [List.map_append, List.map_cons] at hn
      rw [h3] at hn
      obtain ⟨n1, n2, n3⟩ := List.nodup_append.1 hn
      obtain ⟨n4, n5⟩ := List.nodup_cons.1 n2
      have o1 : ∀ y ∈ es.toList.take j, y.key ≠ .int .i64 key := fun y hy e => n3 _ (List.mem_map.2 ⟨y, hy, rfl⟩) _ List.mem_cons_self e
      have o2 : ∀ y ∈ es.toList.drop (j + 1), y.key ≠ .int .i64 key := fun y hy e => n4 (List.mem_map.2 ⟨y, hy, e⟩)
      simp only [List.mem_append]
      unfold updF
      by_cases hq : q = key
      · subst hq
        rw [if_pos rfl]
        constructor
        · intro e; cases e
        · rintro ⟨y, hy | hy, hyk, -⟩
          · exact absurd hyk (o1 y hy)
          · exact absurd hyk (o2 y hy)
      · rw [if_neg hq, hf q u]
        constructor
        · rintro ⟨y, hy, hyk, hyv⟩
          rw [hsp] at hy
          simp only [List.mem_append, List.mem_cons] at hy
          rcases hy with hy | rfl | hy
          · exact ⟨y, .inl hy, hyk, hyv⟩
          · rw [h3] at hyk
            exact absurd (by injection hyk with _ e; exact e.symm) hq
          · exact ⟨y, .inr hy, hyk, hyv⟩
        · rintro ⟨y, hy | hy, hyk, hyv⟩
          · exact ⟨y, List.mem_of_mem_take hy, hyk, hyv⟩
          · exact ⟨y, List.mem_of_mem_drop hy, hyk, hyv⟩
end
end Go.Proofs.YtbnbbafffihapaaGreat

/- skip: a queue's view; Row, Live, Dead. -/
namespace Go.Proofs.YtbnbbafffihapaaGreat
open Go.RowKit
attribute [local irreducible] Instr.loadAt Instr.storeAt Instr.fieldAt Instr.indexAt Instr.sliceAt Instr.buildSlice Instr.box Instr.alloc Builtin.append_ Builtin.len_ Builtin.min_ Builtin.max_ Calls Instr.build Instr.makeSlice binSem convert Instr.index Instr.range Instr.next
def deadV (c : Cf) (W : List Int) (s : Int × Bool) : Bool := if c.A = 2 then s.2 else markW (atV c W s.1 1)
def zVw : Array Value := #[.int .i64 0, .int .i64 0, .int .i64 0, .int .i64 0, .int .i64 0, .int .i64 0, .int .i64 0, .int .i64 0, .int .i64 0, .int .i64 0, .int .i64 0, .int .i64 0, .int .i64 0, .int .i64 0, .int .i64 0, .slice none 0 0]
/-- a machine that may be looked at -/
structure Qm (w : World) (X : Mc) : Prop where
  m : Mach w X
  r : rightC X.c
  l : X.s.W.length = (sizeP X.c.A X.c.T X.c.N X.c.L).toNat
  u : ∀ x ∈ X.s.W, u64R x
theorem Qm.upd0 {w w' : World} {X : Mc} (h : Qm w X) (hu : Upd [] w w') : Qm w' X := ⟨h.m.upd0 hu, h.r, h.l, h.u⟩
theorem size_lt {c : Cf} (hr : rightC c) : 0 ≤ sizeP c.A c.T c.N c.L ∧ sizeP c.A c.T c.N c.L ≤ 924 := by have := size_bd hr; omega
theorem stopsV_at (l : List (Int × Bool)) : ∀ (k : Nat), k < l.length → (stopsV l)[k * 2]? = some (.int .i64 (l.getD k (0, false)).1) ∧ (stopsV l)[k * 2 + 1]? = some (.bool (l.getD k (0, false)).2) := by
  induction l with
  | nil => intro k hk; simp at hk
  | cons s l ih =>
    intro k hk
    have e : stopsV (s :: l) = .int .i64 s.1 :: .bool s.2 :: stopsV l := rfl
    rw [e]
    cases k with
    | zero => exact ⟨rfl, rfl⟩
    | succ k =>
      have := ih k (by simpa using hk)
      rw [show (k + 1) * 2 = k * 2 + 2 by omega]
      exact this
theorem stop_ld {w : World} {K : Value → World → Prop} {b o cap : Nat} {l : List (Int × Bool)} (h : Sl w TSt 2 (.slice (some ⟨b, o, none⟩) l.length cap) l.length (stopsV l)) (k : Nat) (hk : k < l.length)
    (kk : K (.agg #[.int .i64 (l.getD k (0, false)).1, .bool (l.getD k (0, false)).2]) w) : RunP Tryz.prog (Instr.loadAt TSt (.pointer (some ⟨b, o + k * 2, none⟩))) K w := by
  obtain ⟨h1, h2⟩ := stopsV_at l k hk
  refine lda [.int .i64 (l.getD k (0, false)).1, .bool (l.getD k (0, false)).2] rfl (fun j v hv => ?_) kk
  have hc := h.cells rfl
  match j, hv with
  | 0, hv =>
    cases hv
    rw [show o + k * 2 + 0 = o + k * 2 from rfl, (hc (k * 2) (by omega)).1]; exact h1
  | 1, hv =>
    cases hv
    rw [show o + k * 2 + 1 = o + (k * 2 + 1) by omega, (hc (k * 2 + 1) (by omega)).1]; exact h2
  | j + 2, hv => cases hv
section
variable {w w' : World} {c : Cf} {v : Value} {W : List Int} {X : Mc}
def pairT : MT := .rd 0 (.rd 1 (.rd 4 (.rd 5 (.fk 2 (.rd 3 (.fk 6 (.rd 7 (.rd 8 (.ef 9 .done))) (.ef 9 (.ef 6 (.rd 7 (.rd 8 .done)))))) (.ef 9 (.ef 2 (.rd 3 (.ef 6 (.rd 7 (.rd 8 .done))))))))))
def pairV (c : Cf) (W : List Int) (n : Int) : List Value := [.int .u32 (atV c W n 0 / 4294967296), .int .u32 (if c.A = 1 then IntKind.u32.wrap (atV c W n 1 / 2) else IntKind.u32.wrap (atV c W n 1))]
end
end Go.Proofs.YtbnbbafffihapaaGreat

/- skip: Row, Live, Dead. -/
namespace Go.Proofs.YtbnbbafffihapaaGreat
open Go.RowKit
attribute [local irreducible] Instr.loadAt Instr.storeAt Instr.fieldAt Instr.indexAt Instr.sliceAt Instr.buildSlice Instr.box Instr.alloc Builtin.append_ Builtin.len_ Builtin.min_ Builtin.max_ Calls Instr.build Instr.makeSlice binSem convert Instr.index Instr.range Instr.next
section
variable {w w' : World} {c : Cf} {v : Value} {W : List Int} {X : Mc}
theorem zVw_one : zVw.toList.all (·.oneCell') = true := by decide +kernel
set_option maxRecDepth 10000 in
theorem of_nil (w : World) : Fn Tryz.prog 27 #[.pointer none] w fun r w' => r = .tuple #[.agg zVw, .bool false] ∧ Upd [] w w' := by
  refine fn_enter Tryz.func27 rfl rfl ?_
  refine al zVw (fun _ => by kernel_rfl) fun w1 hb1 hu1 hs1 => ?_
  refine ptr_eq0 ?_
  refine bd zVw (fun _ => by kernel_rfl) ?_
  refine stw hb1 rfl rfl zVw_one fun w2 hb2 hu2 hs2 => ?_
  refine rlw hb2 rfl ?_
  exact ⟨rfl, hu1.step hu2 (by simp)⟩
set_option maxRecDepth 10000 in
theorem of_q (h : Qm w X) : Fn Tryz.prog 27 #[ptrV X.m] w fun r w' => Upd [] w w' ∧ ((X.c.A = 0 ∧ r = .tuple #[.agg zVw, .bool false]) ∨ (X.c.A ≠ 0 ∧ ∃ v, r = .tuple #[.agg (viewC X.c v), .bool true] ∧ VwAt w' X.c v X.s.W)) := by
  have hsz := size_lt h.r
  refine fn_enter Tryz.func27 rfl rfl ?_
  refine al zVw (fun _ => by kernel_rfl) fun w1 hb1 hu1 hs1 => ?_
  have h1 := h.upd0 hu1
  refine ptr_eq ?_
  refine cl (plan_mm h1.m) ?_
  rintro _ w2 ⟨rfl, hu2⟩
  refine cl (conf_c2 X.c w2) ?_
  rintro _ w3 ⟨rfl, hu3⟩
  refine fl (v := .int .i64 X.c.A) (by obtain ⟨A, T, N, L, B, P, S⟩ := X.c; rfl) ?_
  have hU3 := (hu1.trans hu2).trans hu3
  have hb3 := (hb1.upd hu2 (by simp)).upd hu3 (by simp)
  refine cd (fun hA => ?_) (fun hA => ?_)
  · refine bd zVw (fun _ => by kernel_rfl) ?_
    refine stw hb3 rfl rfl zVw_one fun w4 hb4 hu4 hs4 => ?_
    refine rlw hb4 rfl ?_
    exact ⟨hU3.step hu4 (by simp), .inl ⟨hA, rfl⟩⟩
  · have h3 := h.upd0 hU3
    refine cl (plan_mm h3.m) ?_
    rintro _ w4 ⟨rfl, hu4⟩
    have h4 := h3.upd0 hu4
    refine cl (mem_mm h4.m) ?_
    rintro _ w4 ⟨rfl, rfl⟩
    have hl := h.l
    refine cl (words_c h4.m.mem (by omega)) ?_
    rintro r w5 ⟨hsl, hu5, hfr⟩
    have hb5 := (hb3.upd hu4 (by simp)).upd hu5 (by simp)
    have hU5 := (hU3.trans hu4).trans hu5
    obtain ⟨va, vk, rfl, -⟩ := hsl.form
    have hV : VwAt w5 X.c (.slice va X.s.W.length vk) X.s.W := ⟨h.r, hsl, hl, h.u⟩
    generalize X.s.W.length = vn at *
    refine bd (viewC X.c (.slice va vn vk)) (fun _ => by obtain ⟨A, T, N, L, B, P, S⟩ := X.c; kernel_rfl) ?_
    refine stw hb5 rfl (viewC_len _ _) (viewC_one _ _ _ _) fun w6 hb6 hu6 hs6 => ?_
    refine rlw hb6 (viewC_len _ _) ?_
    exact ⟨hU5.step hu6 (by simp), .inr ⟨hA, _, rfl, ⟨hV.r, hV.s.upd hu6 (fun g hg hm => by
      have := hfr g hg
      have := List.mem_singleton.1 hm
      have := hs1
      have := hu2.size
      have := hu3.size
      have := hu4.size
      omega), hV.l, hV.u⟩⟩⟩
/-- what a loop over a row's nodes holds -/
theorem Gr.cell {w0 w : World} {b o cap : Nat} {l : List (Int × Bool)} (h : Gr w0 w TSt 2 (.slice (some ⟨b, o, none⟩) l.length cap) l.length (stopsV l)) : Sl w TSt 2 (.slice (some ⟨b, o, none⟩) l.length cap) l.length (stopsV l) := h.s
theorem Gr.rebase {w0 w1 w : World} {e n : Nat} {v : Value} {len : Nat} {xs : List Value} (h : Gr w1 w e n v len xs) (hu : Upd [] w0 w1) : Gr w0 w e n v len xs := ⟨h.s, h.f.mono hu.size⟩
/-- the row's nodes, as numbers -/
def rowI (c : Cf) (W : List Int) (i : Int) : List Int := if c.A = 0 ∨ i < 0 ∨ i ≥ c.L then [] else (rowV c W i).map (·.1)
set_option maxRecDepth 10000 in
theorem row_q (h : Qm w X) (i : Int) (hi : -9223372036854775808 ≤ i ∧ i ≤ 9223372036854775807) : Fn Tryz.prog 15 #[ptrV X.m, .int .i64 i] w fun r w' => Gr w w' 3 1 r (rowI X.c X.s.W i).length ((rowI X.c X.s.W i).map (.int .i64)) ∧ Upd [] w w' := by
  have hr := h.r
  have hL := (plan_bd (A := X.c.A) (T := X.c.T) (N := X.c.N) (L := X.c.L) (B := X.c.B) (P := X.c.P) (S := X.c.S) hr).2.2.2.2.2.1
  have hN := N_bd hr
  refine fn_enter Tryz.func15 rfl rfl ?_
  refine cl (of_q h) ?_
  rintro r w1 ⟨hu1, (⟨hA, rfl⟩ | ⟨hA, v, rfl, hV⟩)⟩
  · refine al zVw (fun _ => by kernel_rfl) fun w2 hb2 hu2 hs2 => ?_
    refine stw hb2 rfl rfl zVw_one fun w3 hb3 hu3 hs3 => ?_
    have hU3 : Upd [] w w3 := (hu1.trans hu2).step hu3 (by have := hu1.size; simp; omega)
    exact ⟨by rw [rowI, if_pos (.inl hA)]; exact Gr.nil_ _ _ _ _, hU3⟩
  refine al zVw (fun _ => by kernel_rfl) fun w2 hb2 hu2 hs2 => ?_
  obtain ⟨va, vn, vk, rfl⟩ := hV.form
  refine stw hb2 rfl (viewC_len _ _) (viewC_one _ _ _ _) fun w3 hb3 hu3 hs3 => ?_
  have hU3 : Upd [] w w3 := (hu1.trans hu2).step hu3 (by have := hu1.size; simp; omega)
  have hb3 : Blk w3 w1.heap.size TVw (viewC X.c (.slice va vn vk)) := hb3
  have hV3 : VwAt w3 X.c (.slice va vn vk) X.s.W := ⟨hV.r, (hV.s.upd hu2 (by simp)).upd hu3 (fun g hg hm => by
    have := hV.s.lt g hg
    have := List.mem_singleton.1 hm
    omega), hV.l, hV.u⟩
  generalize hvb : w1.heap.size = vb at *
  refine cd (fun h0 => ?_) (fun h0 => ?_)
  · exact ⟨by rw [rowI, if_pos (.inr (.inl h0))]; exact Gr.nil_ _ _ _ _, hU3⟩
  refine fa ?_
  refine vplan hb3 ?_
  refine cl (conf_c2 X.c w3) ?_
  rintro _ w4 ⟨rfl, hu4⟩
  refine fl (v := .int .i64 X.c.L) (by obtain ⟨A, T, N, L, B, P, S⟩ := X.c; rfl) ?_
  have hU4 := hU3.trans hu4
  have hb4 := hb3.upd hu4 (by simp)
  have hV4 := hV3.upd0 hu4
  refine cd (fun h1 => ?_) (fun h1 => ?_)
  · exact ⟨by rw [rowI, if_pos (.inr (.inr h1))]; exact Gr.nil_ _ _ _ _, hU4⟩
  rw [rowI, if_neg (by omega)]
  refine ldw hb4 (viewC_len _ _) ?_
  refine cl (row_c hV4 i ⟨by omega, by omega⟩) ?_
  rintro rv w5 ⟨hG, hu5⟩
  have hU5 := hU4.trans hu5
  have hRl : (rowV X.c X.s.W i).length ≤ X.c.N.toNat := rowF_len _ _ _ _ _
  generalize rowV X.c X.s.W i = R at *
  obtain ⟨ra, rk, rfl, -⟩ := hG.s.form
  refine len_sl ?_
  refine loop_rule [31, 32] [7, 33] (fun vs w' m => ∃ (k : Nat) (lv : Value), vs = [lv, .int .i64 (k : Int)] ∧ k ≤ R.length ∧ m = R.length - k ∧ Gr w5 w' 3 1 lv k (((R.take k).map (·.1)).map (.int .i64)) ∧ Upd [] w5 w') rfl [.slice none 0 0, .int .i64 0] R.length rfl
    ⟨0, _, rfl, by omega, rfl, Gr.nil_ _ _ _ _, .refl _ _⟩ ?_
  rintro _ w6 m ⟨k, lv, rfl, hk, rfl, hGl, hu56⟩
  refine cd (fun hlt => ?_) (fun hlt => ?_)
  · have hlt : k < R.length := by omega
    obtain ⟨b, o, cap, he, -⟩ := hG.s.some_ (by omega)
    cases he
    have hG6 := (hG.upd0 hu56).s
    refine ix k rfl hlt ?_
    refine stop_ld hG6 k hlt ?_
    refine al #[.int .i64 0, .bool false] (fun _ => by kernel_rfl) fun w7 hb7 hu7 hs7 => ?_
    refine stw hb7 rfl rfl rfl fun w8 hb8 hu8 hs8 => ?_
    have hu68 : Upd [] w6 w8 := hu7.step hu8 (by simp)
    refine fa ?_
    refine ldb hb8 rfl ?_
    refine bs #[.int .i64 (R.getD k (0, false)).1] (fun _ => by kernel_rfl) fun w9 hb9 hu9 hs9 => ?_
    have hGl9 := (hGl.upd0 hu68).upd0 hu9
    refine apg hGl9.s hb9 rfl rfl (by decide) (by simp only [maxLen]; omega) (by omega) fun lv2 wa hsa hGa => ?_
    obtain ⟨hga, hUa⟩ := hGl9.app ((hu56.trans hu68).trans hu9) hsa hGa
    refine ar64 (by omega) ?_
    refine round_mk [lv2, .int .i64 ((k + 1 : Nat) : Int)] (R.length - (k + 1)) rfl rfl ⟨k + 1, lv2, rfl, by omega, rfl, ?_, hUa⟩ (by omega)
    · rw [show R.take (k + 1) = R.take k ++ [R.getD k (0, false)] by rw [List.take_add_one, List.getElem?_eq_getElem hlt]; simp [List.getD, hlt]]
      simpa using hga
  · have hk : k = R.length := by omega
    subst hk
    rw [List.take_length] at hGl
    exact ⟨by rw [List.length_map]; exact hGl.rebase hU5, hU5.trans hu56⟩
end
end Go.Proofs.YtbnbbafffihapaaGreat

/- skip: Dead, Live, the map of those that live. -/
namespace Go.Proofs.YtbnbbafffihapaaGreat
open Go.RowKit
attribute [local irreducible] Instr.loadAt Instr.storeAt Instr.fieldAt Instr.indexAt Instr.sliceAt Instr.buildSlice Instr.box Instr.alloc Builtin.append_ Builtin.len_ Builtin.min_ Builtin.max_ Calls Instr.build Instr.makeSlice binSem convert Instr.index Instr.range Instr.next
end Go.Proofs.YtbnbbafffihapaaGreat

/- Contracts: seqs.Of, seqs.Only, seqs.First, seqs.Some (of words, and of lists of words). -/
namespace Go.Proofs.YtbnbbafffihapaaGreat
open Go.RowKit
attribute [local irreducible] Instr.loadAt Instr.storeAt Instr.fieldAt Instr.indexAt Instr.sliceAt Instr.buildSlice Instr.box Instr.alloc Builtin.append_ Builtin.len_ Builtin.min_ Builtin.max_ Calls Instr.build Instr.makeSlice binSem convert Instr.index Instr.range Instr.next
end Go.Proofs.YtbnbbafffihapaaGreat

/- level.Rising, level.Nested. -/
namespace Go.Proofs.YtbnbbafffihapaaGreat
open Go.RowKit
attribute [local irreducible] Instr.loadAt Instr.storeAt Instr.fieldAt Instr.indexAt Instr.sliceAt Instr.buildSlice Instr.box Instr.alloc Builtin.append_ Builtin.len_ Builtin.min_ Builtin.max_ Calls Instr.build Instr.makeSlice binSem convert Instr.index Instr.range Instr.next
end Go.Proofs.YtbnbbafffihapaaGreat

/- skip: right, Sound. -/
namespace Go.Proofs.YtbnbbafffihapaaGreat
open Go.RowKit
attribute [local irreducible] Instr.loadAt Instr.storeAt Instr.fieldAt Instr.indexAt Instr.sliceAt Instr.buildSlice Instr.box Instr.alloc Builtin.append_ Builtin.len_ Builtin.min_ Builtin.max_ Calls Instr.build Instr.makeSlice binSem convert Instr.index Instr.range Instr.next
end Go.Proofs.YtbnbbafffihapaaGreat

/- skip: machines of both algorithms; First, Lay. -/
namespace Go.Proofs.YtbnbbafffihapaaGreat
open Go.RowKit
attribute [local irreducible] Instr.loadAt Instr.storeAt Instr.fieldAt Instr.indexAt Instr.sliceAt Instr.buildSlice Instr.box Instr.alloc Builtin.append_ Builtin.len_ Builtin.min_ Builtin.max_ Calls Instr.build Instr.makeSlice binSem convert Instr.index Instr.range Instr.next
def cA (A N : Int) : Cf := ⟨A, 1, N, 4, 1, 1, 1⟩
def inA (A : Int) : Prop := A = 1 ∨ A = 2
def MX (A : Int) (N : Nat) (W : List Int) (k : Int) (a : Bool) (t : PT) : PS := ⟨cA A N, W, k, none, a, false, [t]⟩
theorem MX_2 (N : Nat) (W : List Int) (k : Int) (a : Bool) (t : PT) : MX 2 N W k a t = MM N W k a t := rfl
section
variable {A : Int} {N : Nat} {W : List Int} {k : Int} {a : Bool} {t t' : PT}
theorem MX_ok {x : Nat} (h : x < W.length) : (MX A N W k a t).okP (x : Int) := ⟨by omega, by show (x : Int) < (W.length : Int); omega⟩
theorem MX_store {x : Nat} (h : x < W.length) (v : Int) : (MX A N W k a t).store (x : Int) v = MX A N (W.set x v) (k + 1) true t := by
  unfold PS.store
  rw [if_pos (MX_ok h), if_pos (MX_ok h), decide_eq_true (MX_ok h)]; rfl
theorem MX_load {x : Nat} (h : x < W.length) : (MX A N W k a t).load (x : Int) = MX A N W (k + 1) true t := by
  unfold PS.load
  rw [if_pos (MX_ok h), decide_eq_true (MX_ok h)]; rfl
theorem MX_ldv {x : Nat} (h : x < W.length) : (MX A N W k a t).ldv (x : Int) = W.getD x 0 := by
  unfold PS.ldv PS.rd
  rw [if_pos (MX_ok h)]; rfl
theorem linksP_A (hA : inA A) : linksP A 1 4 = 18 := by rcases hA with rfl | rfl <;> rfl
theorem widthP_A (hA : inA A) : widthP A 4 = 9 := by rcases hA with rfl | rfl <;> rfl
theorem nthP_A (hA : inA A) : nthP A 4 = 0 := by rcases hA with rfl | rfl <;> rfl
theorem slotsP_A (hA : inA A) : slotsP A 4 = 10 := by rcases hA with rfl | rfl <;> rfl
theorem sizeP_cA (hA : inA A) (N : Nat) : (sizeP A 1 (N : Int) 4).toNat = 18 + 10 * N := by
  unfold sizeP treeP nodesP
  rw [linksP_A hA, widthP_A hA, nthP_A hA]
  omega
theorem cA_right (hA : inA A) (h3 : 3 ≤ N) (h20 : N ≤ 20) : rightC (cA A N) := by
  unfold cA rightC
  rcases hA with rfl | rfl <;> simp [within] <;> omega
theorem MX_Ok (hA : inA A) {b : Int} (h3 : 3 ≤ N) (h20 : N ≤ 20) (hu : ∀ x ∈ W, u64R x) (hl : W.length = 18 + 10 * N) (hk : 0 ≤ k ∧ k ≤ b) : (MX A N W k a t).Ok b :=
  ⟨cA_right hA h3 h20, by show ([] : List Int).length ≤ 64; decide, hk.1, hk.2, hu, by rw [show (MX A N W k a t).W.length = W.length from rfl, hl]; exact (sizeP_cA hA N).symm⟩
end
theorem node_cA {A : Int} (hA : inA A) {N n f : Int} (h1 : 1 ≤ n) (h2 : n ≤ N) (h3 : 0 ≤ f) (h4 : f ≤ 8) : (cA A N).node n f = 18 + N + (n - 1) * 9 + f := by
  unfold Cf.node cA nodeA
  show (if (1 ≤ n ∧ n ≤ N) ∧ 0 ≤ f ∧ f ≤ widthP A 4 - 1 then nodesP A 1 N 4 + (n - 1) * widthP A 4 + f else -1) = _
  rw [widthP_A hA, if_pos ⟨⟨h1, h2⟩, h3, by omega⟩]
  unfold nodesP
  rw [linksP_A hA]
theorem adr_nodeA {A : Int} (hA : inA A) {N i f : Nat} (hi : i + 2 ≤ N) (hf : f < 9) : (cA A (N : Int)).node (predN i) (f : Int) = (adr N i f : Int) := by
  have : 1 ≤ predN i ∧ predN i ≤ N := by unfold predN; split <;> omega
  rw [node_cA hA this.1 this.2 (by omega) (by omega)]
  unfold adr
  omega
/-- the nodes, as their links tell them -/
def lnk (A : Int) (l : List Nd) : List Nd := if A = 2 then l else l.map fun x => { x with dead := false }
theorem lnk_len (A : Int) (l : List Nd) : (lnk A l).length = l.length := by unfold lnk; split <;> simp
theorem lnk_at (A : Int) (l : List Nd) (i : Nat) : (ndAt (lnk A l) i).key = (ndAt l i).key ∧ (ndAt (lnk A l) i).tall = (ndAt l i).tall ∧ (ndAt (lnk A l) i).dead = if A = 2 then (ndAt l i).dead else false := by
  unfold lnk
  by_cases h : A = 2
  · rw [if_pos h, if_pos h]; exact ⟨rfl, rfl, rfl⟩
  · rw [if_neg h, if_neg h]
    unfold ndAt
    rcases Nat.lt_or_ge i l.length with hi | hi
    · simp [List.getD, hi]
    · simp [List.getD, hi]
theorem NdsOk.lnk {l : List Nd} {N : Nat} (h : NdsOk l N) (A : Int) : NdsOk (lnk A l) N := ⟨by rw [lnk_len]; exact h.few, h.n20, h.n3, fun i hi => by
  rw [lnk_len] at hi
  obtain ⟨e1, e2, -⟩ := lnk_at A l i
  rw [e1, e2]; exact h.u64 i hi⟩
/-- a node's value, as it is laid -/
def vwd (A : Int) (x : Nd) : Int := if A = 1 then 2 * x.val + (if x.dead then 1 else 0) else x.val
/-- values and heights are laid -/
def VT (W : List Int) (N : Nat) (A : Int) (l : List Nd) (o : Nat) : Prop := ∀ j, j < o → W.getD (adr N (j + 1) 1) 0 = vwd A (ndAt l j) ∧ W.getD (adr N (j + 1) 3) 0 = (ndAt l j).tall
theorem VT.ne {W : List Int} {N : Nat} {A : Int} {l : List Nd} {o : Nat} (h : VT W N A l o) {i f : Nat} (hf : f < 9) (hn : (f ≠ 1 ∧ f ≠ 3) ∨ o < i) (x : Int) : VT (W.set (adr N i f) x) N A l o := fun j hj => by
  rw [getD_set_ne' (adr_ne hf (by omega) (by omega)), getD_set_ne' (adr_ne hf (by omega) (by omega))]; exact h j hj
theorem VT.add {W : List Int} {N : Nat} {A : Int} {l : List Nd} {o : Nat} (h : VT W N A l o) (hl : W.length = 18 + 10 * N) (ho : o + 3 ≤ N) {x y : Int} (hx : x = vwd A (ndAt l o)) (hy : y = (ndAt l o).tall) : VT ((W.set (adr N (o + 1) 1) x).set (adr N (o + 1) 3) y) N A l (o + 1) := fun j hj => by
  have hb : ∀ f, f < 9 → adr N (o + 1) f < W.length := fun f hf => by rw [hl]; exact adr_lt (by omega) hf
  by_cases hq : j = o
  · subst hq
    rw [getD_set_ne' (adr_ne (by omega) (by omega) (.inr (by omega))), getD_set_eq (hb 1 (by omega)), getD_set_eq (by rw [List.length_set]; exact hb 3 (by omega))]
    exact ⟨hx, hy⟩
  · rw [getD_set_ne' (adr_ne (by omega) (by omega) (.inl (by omega))), getD_set_ne' (adr_ne (by omega) (by omega) (.inl (by omega))), getD_set_ne' (adr_ne (by omega) (by omega) (.inl (by omega))), getD_set_ne' (adr_ne (by omega) (by omega) (.inl (by omega)))]
    exact h j (by omega)
/-- while nodes are laid: the machine, the plan's copy, the last ones -/
structure LyA (A : Int) (w0 w w' : World) (X : Mc) (N : Nat) (t : PT) (pb lb : Nat) (L : List Int) (W : List Int) (k : Int) : Prop where
  ev : ∃ Y a, Post w X w' Y ∧ Kin X Y ∧ Y.abs = MX A N W k a t ∧ Aside w' Y pb 45 (planC (cA A N)) ∧ Aside w' Y lb 3 (lastA L)
section
variable {A : Int} {w0 w w' : World} {X : Mc} {N : Nat} {t : PT} {k : Int} {l : List Nd}
theorem LyA.upd0 {w1 w2 : World} {pb lb : Nat} {L W : List Int} (h : LyA A w0 w w1 X N t pb lb L W k) (hu : Upd [] w1 w2) : LyA A w0 w w2 X N t pb lb L W k := by
  obtain ⟨Y, a, p, kk, ha, A1, A2⟩ := h.ev
  exact ⟨Y, a, p.upd0 hu, kk, ha, A1.upd0 hu, A2.upd0 hu⟩
theorem LyA.up {w1 : World} {pb lb : Nat} {L W : List Int} (h : LyA A w0 w w1 X N t pb lb L W k) (hN : New w0 w X) : Upd [] w0 w1 := by
  obtain ⟨Y, a, p, -⟩ := h.ev
  exact (hN.post p).up
theorem LyA.pb {w1 : World} {pb lb : Nat} {L W : List Int} (h : LyA A w0 w w1 X N t pb lb L W k) : Blk w1 pb 45 (planC (cA A N)) := let ⟨_, _, _, _, _, A, _⟩ := h.ev; A.b
theorem LyA.lb {w1 : World} {pb lb : Nat} {L W : List Int} (h : LyA A w0 w w1 X N t pb lb L W k) : Blk w1 lb 3 (lastA L) := let ⟨_, _, _, _, _, _, A⟩ := h.ev; A.b
/-- a store of the law's -/
theorem LyA.store (hA : inA A) {w1 : World} {pb lb : Nat} {L W : List Int} (h : LyA A w0 w w1 X N t pb lb L W k) (hc : X.s.on = false ∧ X.s.L = []) (h3 : 3 ≤ N) (h20 : N ≤ 20) (hu : ∀ x ∈ W, u64R x) (hl : W.length = 18 + 10 * N) (hk : 0 ≤ k ∧ k ≤ 890000) (a : Nat) (ha : a < W.length) (x : Int) :
    Fn Tryz.prog 18 #[ptrV X.m, .int .i64 (a : Int), .int .u64 x] w1 fun _ w2 => LyA A w0 w w2 X N t pb lb L (W.set a x) (k + 1) := by
  obtain ⟨Y, b, p, kk, hab, A1, A2⟩ := h.ev
  have hg : Good Y 900000 := ⟨by rw [hab]; exact MX_Ok hA h3 h20 hu hl (by omega), kk.calm hc⟩
  have hs := store_p p.ok hg (by omega) (a : Int) x
  rw [show Y.m = X.m from kk.m, hab, MX_store ha] at hs
  exact hs.mono fun _ w2 ⟨u, he, Z, p2, k2, a2, _⟩ => ⟨u, he, Z, true, p.trans p2, kk.trans k2, a2, A1.post p2, A2.post p2⟩
/-- the row of the last ones is written -/
theorem LyA.put {w1 w2 : World} {pb lb : Nat} {L W : List Int} (h : LyA A w0 w w1 X N t pb lb L W k) {L' : List Int} (hb : Blk w2 lb 3 (lastA L')) (hu : Upd [lb] w1 w2) (hne : pb ≠ lb) (hlb : w.heap.size ≤ lb) : LyA A w0 w w2 X N t pb lb L' W k := by
  obtain ⟨Y, a, p, kk, ha, A1, A2⟩ := h.ev
  have hm : Mach w2 Y := p.ok.aside A2.n hu
  exact ⟨Y, a, ⟨hm, ⟨p.to.up.step hu (fun x hx => by rw [List.mem_singleton.1 hx]; exact .inr hlb), p.to.sub⟩⟩, kk, ha, ⟨A1.b.upd hu (by simpa using hne), A1.n⟩, ⟨hb, A2.n⟩⟩
set_option maxHeartbeats 2000000 in
set_option maxRecDepth 10000 in
theorem layX_1 {q : Int} (hq : q % 2 = 0) {Wz : List Int} {a : Bool} {v : Value} (hN : New w0 w X) (hc : X.s.on = false ∧ X.s.L = []) (ha : X.abs = MX 1 N Wz k a t) (hP0 : Part Wz N (lnk 1 l) 0 0 0 [1, 1, 1, 1]) (hk : NdsOk l N) (hv : valOk l) (hl : RdNd w0 v l) (hkb : 0 ≤ k ∧ k ≤ 100000) :
    Fn Tryz.prog 17 #[ptrV X.m, .int .i64 q, v] w fun _ w' => ∃ W' k' a', Ev w X w' (MX 1 N W' k' a' t) ∧ Lays W' N (lnk 1 l) ∧ VT W' N 1 l l.length ∧ (∀ x ∈ W', u64R x) ∧ 0 ≤ k' ∧ k' ≤ k + 400 := by
  have hA : inA 1 := by unfold inA; decide
  have hkl : NdsOk (lnk 1 l) N := hk.lnk 1
  have hlen : (lnk 1 l).length = l.length := lnk_len 1 l
  have hkey : ∀ i, (ndAt (lnk 1 l) i).key = (ndAt l i).key := fun i => (lnk_at 1 l i).1
  have htall : ∀ i, (ndAt (lnk 1 l) i).tall = (ndAt l i).tall := fun i => (lnk_at 1 l i).2.1
  have hdead : ∀ i, (ndAt (lnk 1 l) i).dead = false := fun i => (lnk_at 1 l i).2.2
  generalize lnk 1 l = l' at *
  obtain ⟨va, vc, rfl, hv1, hv2⟩ := hl.form
  have hfew := hk.few
  have hn20 := hk.n20
  have hcr : rightC (cA 1 (N : Int)) := cA_right hA hk.n3 hk.n20
  have hcX : X.c = cA 1 (N : Int) := congrArg PS.c ha
  refine fn_enter Tryz.func17 rfl rfl ?_
  refine cl (plan_mm hN.ok) ?_
  rintro _ w1 ⟨rfl, hu1⟩
  rw [hcX]
  refine al z15 (fun _ => by kernel_rfl) fun w2 hb2 hu2 hs2 => ?_
  refine stw hb2 rfl (planC_len (cA 1 N)) (planC_one (cA 1 N)) fun w3 hb3 hu3 hs3 => ?_
  have hb3 : Blk w3 w1.heap.size 45 (planC (cA 1 N)) := hb3
  have z1 := hu1.size
  have hU3 : Upd [] w w3 := (hu1.trans hu2).step hu3 (by simp; omega)
  refine bs (lastA [1, 1, 1, 1]) (fun _ => by kernel_rfl) fun w4 hb4 hu4 hs4 => ?_
  have hb4 : Blk w4 w3.heap.size 3 (lastA [1, 1, 1, 1]) := hb4
  have hU4 := hU3.trans hu4
  have hlt : ∀ q ∈ X.feet, q < w.heap.size := fun q hq => hN.ok.lt q hq
  have I4 : LyA 1 w0 w w4 X N t w1.heap.size w3.heap.size [1, 1, 1, 1] Wz k :=
    ⟨X, a, .of0 hN.ok hU4, .refl X, ha, ⟨hb3.upd hu4 (by simp), fun hq => by have := hlt _ hq; omega⟩, ⟨hb4, fun hq => by have := hlt _ hq; have := hU3.size; omega⟩⟩
  have hne : w1.heap.size ≠ w3.heap.size := by omega
  have hlb : w.heap.size ≤ w3.heap.size := hU3.size
  clear hb2 hb3 hb4 hu2 hu3 hu4 hU3 hU4 hlt
  generalize w1.heap.size = pb at *
  generalize w3.heap.size = lb at *
  refine loop_rule [0, 1, 2, 6, 7] [8] (fun vs w' m => ∃ (i : Nat) (W : List Int) (k' : Int) (L : List Int), vs = [.int .i64 (i : Int)] ∧ i ≤ l.length ∧ m = l.length - i ∧ LyA 1 w0 w w' X N t pb lb L W k' ∧ Part W N l' i 0 i L ∧ VT W N 1 l i ∧ k' ≤ k + 8 * i ∧ 0 ≤ k') rfl [.int .i64 0] l.length rfl
    ⟨0, Wz, k, _, rfl, by omega, rfl, I4, hP0, (fun j hj => by omega), by omega, by omega⟩ ?_
  rintro _ w5 m ⟨i, W, k5, L, rfl, hi, rfl, I, hP, hVT, hk5, hk50⟩
  refine len_sl ?_
  refine cd (fun hlt => ?_) (fun hlt => ?_)
  · have hlt : i < l.length := by omega
    obtain ⟨b, o, cap, he, -⟩ := hl.some_ (by omega)
    cases he
    have hu := hk.u64 i hlt
    have hvi := hv (ndAt l i) (by simp [List.getD, hlt])
    refine ar64 (by omega) ?_
    refine draw_mix 14 [(0, true), (1, true), (2, true), (4, true), (5, true), (6, true), (7, true), (8, true), (9, true), (10, true), (11, true), (12, true), (13, true), (3, false)] (fun w' => Upd [] w5 w') (by decide +kernel) (Upd.refl [] w5).drew ?_
    refine rq (.agg (planC (cA 1 N))) (fun w' hw' => ldw (I.upd0 hw').pb (planC_len _) ⟨rfl, rfl⟩) ?_
    refine q_ix i rfl hlt ?_
    refine q_fa ?_
    refine q_ld (v := .int .u32 (ndAt l i).key) (fun w' hw' => by rw [(hl.upd0 ((I.upd0 hw').up hN)).nd rfl i hlt 0 (by omega)]; rfl) ?_
    refine rq (.int .u64 (ndAt l i).key) (fun _ _ => cv (arU (by omega) ⟨rfl, rfl⟩)) ?_
    refine q_arU (by omega) ?_
    refine rq (.int .u64 (i : Int)) (fun _ _ => cv (arU (by omega) ⟨rfl, rfl⟩)) ?_
    refine q_arU (by omega) ?_
    refine cl (node_a2 hcr ((i : Int) + 3) 0 w5.drew) ?_
    rintro _ w6 ⟨rfl, hu6⟩
    have hu6 : Upd [] w5 w6 := (Upd.refl [] w5).drew.trans hu6
    refine ⟨hu6, ?_⟩
    have e0 : ∀ f : Nat, f < 9 → (cA 1 (N : Int)).node ((i : Int) + 3) (f : Int) = (adr N (i + 1) f : Int) := fun f hf => by rw [← predN_s, adr_nodeA hA (by omega) hf]
    rw [show (cA 1 (N : Int)).node ((i : Int) + 3) 0 = (adr N (i + 1) 0 : Int) from e0 0 (by omega)]
    have haL : ∀ f : Nat, f < 9 → adr N (i + 1) f < 18 + 10 * N := fun f hf => adr_lt (by omega) hf
    refine cl ((I.upd0 hu6).store hA hc hk.n3 hk.n20 hP.u hP.len ⟨by omega, by omega⟩ (adr N (i + 1) 0) (by rw [hP.len]; exact haL 0 (by omega)) _) ?_
    rintro _ w7 I7
    have hP7 := hP.ord (o := i) (x := (ndAt l i).key * 4294967296 + i) (by omega) ⟨by omega, by omega⟩ (by rw [hkey])
    have hVT7 := hVT.ne (i := i + 1) (f := 0) (by omega) (.inl ⟨by omega, by omega⟩) ((ndAt l i).key * 4294967296 + i)
    refine ix i rfl hlt ?_
    refine fa ?_
    refine ld (v := .int .u32 (ndAt l i).val) (by rw [(hl.upd0 (I7.up hN)).nd rfl i hlt 1 (by omega)]; rfl) ?_
    refine cv ?_
    refine arU (by omega) ?_
    refine and64 0 (by omega) ?_
    refine arU (by omega) ?_
    refine ix i rfl hlt ?_
    refine fa ?_
    cases hdd : (ndAt l i).dead with
    | true =>
      refine ld (v := .bool true) (by rw [(hl.upd0 (I7.up hN)).nd rfl i hlt 3 (by omega), ndL, hdd]; rfl) ?_
      refine arU (by omega) ?_
      refine ldw I7.pb (planC_len _) ?_
      refine cl (node_a2 hcr ((i : Int) + 3) 1 w7) ?_
      rintro _ w8 ⟨rfl, hu8⟩
      rw [show (cA 1 (N : Int)).node ((i : Int) + 3) 1 = (adr N (i + 1) 1 : Int) from e0 1 (by omega)]
      refine cl ((I7.upd0 hu8).store hA hc hk.n3 hk.n20 hP7.u hP7.len ⟨by omega, by omega⟩ (adr N (i + 1) 1) (by rw [hP7.len]; exact haL 1 (by omega)) _) ?_
      rintro _ w9 I9
      have hP9 := hP7.other (f := 1) (i + 1) (.inl rfl) (x := (2 * (ndAt l i).val + 1)) ⟨by omega, by omega⟩
      refine draw_mix 10 [(0, true), (1, true), (2, true), (4, true), (5, true), (6, true), (7, true), (8, true), (9, true), (3, false)] (fun w' => Upd [] w9 w') (by decide +kernel) (Upd.refl [] w9).drew ?_
      refine rq (.agg (planC (cA 1 N))) (fun w' hw' => ldw (I9.upd0 hw').pb (planC_len _) ⟨rfl, rfl⟩) ?_
      refine q_ix i rfl hlt ?_
      refine q_fa ?_
      refine q_ld (v := .int .i64 (ndAt l i).tall) (fun w' hw' => by rw [(hl.upd0 ((I9.upd0 hw').up hN)).nd rfl i hlt 2 (by omega)]; rfl) ?_
      refine rq (.int .u64 (ndAt l i).tall) (fun _ _ => cv (arU (by omega) ⟨rfl, rfl⟩)) ?_
      refine cl (node_a2 hcr ((i : Int) + 3) 3 w9.drew) ?_
      rintro _ w10 ⟨rfl, hu10⟩
      have hu10 : Upd [] w9 w10 := (Upd.refl [] w9).drew.trans hu10
      refine ⟨hu10, ?_⟩
      rw [show (cA 1 (N : Int)).node ((i : Int) + 3) 3 = (adr N (i + 1) 3 : Int) from e0 3 (by omega)]
      refine cl ((I9.upd0 hu10).store hA hc hk.n3 hk.n20 hP9.u hP9.len ⟨by omega, by omega⟩ (adr N (i + 1) 3) (by rw [hP9.len]; exact haL 3 (by omega)) _) ?_
      rintro _ w11 I11
      have hP11 := hP9.other (f := 3) (i + 1) (.inr rfl) (x := (ndAt l i).tall) ⟨by omega, by omega⟩
      have hVT11 := hVT7.add hP7.len (by omega) (x := (2 * (ndAt l i).val + 1)) (y := (ndAt l i).tall) (by unfold vwd; rw [if_pos rfl, hdd]; rfl) rfl
      obtain ⟨T, hT⟩ : ∃ T : Nat, (ndAt l i).tall = (T : Int) := ⟨_, (Int.toNat_of_nonneg (by omega)).symm⟩
      refine loop_rule [0, 1, 2, 6, 7, 8, 9] [11] (fun vs w' m => ∃ (rr : Nat) (W : List Int) (k' : Int) (L : List Int), vs = [.int .i64 (rr : Int)] ∧ rr ≤ T ∧ m = T - rr ∧ LyA 1 w0 w w' X N t pb lb L W k' ∧ Part W N l' i rr (i + 1) L ∧ VT W N 1 l (i + 1) ∧ k' ≤ k + 8 * i + 3 + rr ∧ 0 ≤ k') rfl [.int .i64 0] T rfl
        ⟨0, _, k5 + 1 + 1 + 1, L, rfl, by omega, rfl, I11, hP11, hVT11, by omega, by omega⟩ ?_
      clear hP hP7 hP9 hP11 I I7 I9 I11 hk5 hk50 hVT hVT7 hVT11
      rintro _ w12 m ⟨rr, W, k12, L, rfl, hrr, rfl, I, hP, hVT, hk12, hk120⟩
      refine ix i rfl hlt ?_
      refine fa ?_
      refine ld (v := .int .i64 (T : Int)) (by rw [(hl.upd0 (I.up hN)).nd rfl i hlt 2 (by omega), ← hT]; rfl) ?_
      refine cd (fun hrT => ?_) (fun hrT => ?_)
      · have hr4 : rr < 4 := by omega
        obtain ⟨g, hg, hg2, -⟩ := hP.last rr hr4
        have hgl : g ≤ l.length := by unfold cnt at hg2; split at hg2 <;> omega
        have hgb : 1 ≤ predN g ∧ predN g ≤ N := by unfold predN; split <;> omega
        have eg : (cA 1 (N : Int)).node (predN g) (5 + (rr : Int)) = (adr N g (5 + rr) : Int) := by rw [show (5 : Int) + (rr : Int) = ((5 + rr : Nat) : Int) by omega, adr_nodeA hA (by omega) (by omega)]
        have hag : adr N g (5 + rr) < 18 + 10 * N := adr_lt (by omega) (by omega)
        have hLl := hP.L4
        refine cv ?_
        refine arU (by omega) ?_
        refine arU (by omega) ?_
        refine and64 0 (by omega) ?_
        refine draw_mix 10 [(0, true), (1, true), (2, true), (3, true), (4, true), (5, true), (6, true), (7, true), (9, true), (8, false)] (fun w' => Upd [] w12 w') (by decide +kernel) (Upd.refl [] w12).drew ?_
        refine rq (.agg (planC (cA 1 N))) (fun w' hw' => ldw (I.upd0 hw').pb (planC_len _) ⟨rfl, rfl⟩) ?_
        refine q_ix rr rfl hr4 ?_
        refine q_ld (v := .int .i64 (L.getD rr 0)) (fun w' hw' => by rw [(I.upd0 hw').lb.cell, show 0 + rr * 1 = rr by omega]; exact lastA_at L rr (by omega)) ?_
        refine q_ar64 (by omega) ?_
        rw [hg]
        refine cl (node_a2 hcr (predN g) (5 + ((rr : Nat) : Int)) w12.drew) ?_
        rintro _ w13 ⟨rfl, hu13⟩
        have hu13 : Upd [] w12 w13 := (Upd.refl [] w12).drew.trans hu13
        refine ⟨hu13, ?_⟩
        rw [eg]
        refine cl ((I.upd0 hu13).store hA hc hk.n3 hk.n20 hP.u hP.len ⟨by omega, by omega⟩ (adr N g (5 + rr)) (by rw [hP.len]; exact hag) (2 * ((i : Int) + 3))) ?_
        rintro _ w14 I14
        have hP14 := hP.row hkl (by omega) hr4 (by rw [htall]; omega) hg (x := 2 * ((i : Int) + 3)) ⟨by omega, by omega⟩ (by rw [hdead, if_neg (fun hh => by cases hh.2)]; omega)
        refine ix rr rfl hr4 ?_
        refine st I14.lb (by unfold lastA; simp; omega) rfl fun w15 hb15 hu15 hs15 => ?_
        rw [show 0 + rr * 1 = rr by omega, lastA_set] at hb15
        have I15 := I14.put hb15 hu15 hne hlb
        refine ar64 (by omega) ?_
        exact round_mk [.int .i64 ((rr + 1 : Nat) : Int)] (T - (rr + 1)) rfl rfl ⟨rr + 1, _, k12 + 1, _, rfl, by omega, rfl, I15, hP14, hVT.ne (by omega) (.inl ⟨by omega, by omega⟩) _, by omega, by omega⟩ (by omega)
      · obtain rfl : rr = T := by omega
        refine ar64 (by omega) ?_
        exact round_mk [.int .i64 ((i + 1 : Nat) : Int)] (l.length - (i + 1)) rfl rfl ⟨i + 1, W, k12, L, rfl, by omega, rfl, I, hP.next (by omega) (by rw [htall]; exact hT.symm), hVT, by omega, hk120⟩ (by omega)
    | false =>
      refine ld (v := .bool false) (by rw [(hl.upd0 (I7.up hN)).nd rfl i hlt 3 (by omega), ndL, hdd]; rfl) ?_
      refine ldw I7.pb (planC_len _) ?_
      refine cl (node_a2 hcr ((i : Int) + 3) 1 w7) ?_
      rintro _ w8 ⟨rfl, hu8⟩
      rw [show (cA 1 (N : Int)).node ((i : Int) + 3) 1 = (adr N (i + 1) 1 : Int) from e0 1 (by omega)]
      refine cl ((I7.upd0 hu8).store hA hc hk.n3 hk.n20 hP7.u hP7.len ⟨by omega, by omega⟩ (adr N (i + 1) 1) (by rw [hP7.len]; exact haL 1 (by omega)) _) ?_
      rintro _ w9 I9
      have hP9 := hP7.other (f := 1) (i + 1) (.inl rfl) (x := (2 * (ndAt l i).val)) ⟨by omega, by omega⟩
      refine draw_mix 10 [(0, true), (1, true), (2, true), (4, true), (5, true), (6, true), (7, true), (8, true), (9, true), (3, false)] (fun w' => Upd [] w9 w') (by decide +kernel) (Upd.refl [] w9).drew ?_
      refine rq (.agg (planC (cA 1 N))) (fun w' hw' => ldw (I9.upd0 hw').pb (planC_len _) ⟨rfl, rfl⟩) ?_
      refine q_ix i rfl hlt ?_
      refine q_fa ?_
      refine q_ld (v := .int .i64 (ndAt l i).tall) (fun w' hw' => by rw [(hl.upd0 ((I9.upd0 hw').up hN)).nd rfl i hlt 2 (by omega)]; rfl) ?_
      refine rq (.int .u64 (ndAt l i).tall) (fun _ _ => cv (arU (by omega) ⟨rfl, rfl⟩)) ?_
      refine cl (node_a2 hcr ((i : Int) + 3) 3 w9.drew) ?_
      rintro _ w10 ⟨rfl, hu10⟩
      have hu10 : Upd [] w9 w10 := (Upd.refl [] w9).drew.trans hu10
      refine ⟨hu10, ?_⟩
      rw [show (cA 1 (N : Int)).node ((i : Int) + 3) 3 = (adr N (i + 1) 3 : Int) from e0 3 (by omega)]
      refine cl ((I9.upd0 hu10).store hA hc hk.n3 hk.n20 hP9.u hP9.len ⟨by omega, by omega⟩ (adr N (i + 1) 3) (by rw [hP9.len]; exact haL 3 (by omega)) _) ?_
      rintro _ w11 I11
      have hP11 := hP9.other (f := 3) (i + 1) (.inr rfl) (x := (ndAt l i).tall) ⟨by omega, by omega⟩
      have hVT11 := hVT7.add hP7.len (by omega) (x := (2 * (ndAt l i).val)) (y := (ndAt l i).tall) (by unfold vwd; rw [if_pos rfl, hdd]; simp) rfl
      obtain ⟨T, hT⟩ : ∃ T : Nat, (ndAt l i).tall = (T : Int) := ⟨_, (Int.toNat_of_nonneg (by omega)).symm⟩
      refine loop_rule [0, 1, 2, 6, 7, 8, 9] [11] (fun vs w' m => ∃ (rr : Nat) (W : List Int) (k' : Int) (L : List Int), vs = [.int .i64 (rr : Int)] ∧ rr ≤ T ∧ m = T - rr ∧ LyA 1 w0 w w' X N t pb lb L W k' ∧ Part W N l' i rr (i + 1) L ∧ VT W N 1 l (i + 1) ∧ k' ≤ k + 8 * i + 3 + rr ∧ 0 ≤ k') rfl [.int .i64 0] T rfl
        ⟨0, _, k5 + 1 + 1 + 1, L, rfl, by omega, rfl, I11, hP11, hVT11, by omega, by omega⟩ ?_
      clear hP hP7 hP9 hP11 I I7 I9 I11 hk5 hk50 hVT hVT7 hVT11
      rintro _ w12 m ⟨rr, W, k12, L, rfl, hrr, rfl, I, hP, hVT, hk12, hk120⟩
      refine ix i rfl hlt ?_
      refine fa ?_
      refine ld (v := .int .i64 (T : Int)) (by rw [(hl.upd0 (I.up hN)).nd rfl i hlt 2 (by omega), ← hT]; rfl) ?_
      refine cd (fun hrT => ?_) (fun hrT => ?_)
      · have hr4 : rr < 4 := by omega
        obtain ⟨g, hg, hg2, -⟩ := hP.last rr hr4
        have hgl : g ≤ l.length := by unfold cnt at hg2; split at hg2 <;> omega
        have hgb : 1 ≤ predN g ∧ predN g ≤ N := by unfold predN; split <;> omega
        have eg : (cA 1 (N : Int)).node (predN g) (5 + (rr : Int)) = (adr N g (5 + rr) : Int) := by rw [show (5 : Int) + (rr : Int) = ((5 + rr : Nat) : Int) by omega, adr_nodeA hA (by omega) (by omega)]
        have hag : adr N g (5 + rr) < 18 + 10 * N := adr_lt (by omega) (by omega)
        have hLl := hP.L4
        refine cv ?_
        refine arU (by omega) ?_
        refine arU (by omega) ?_
        refine and64 0 (by omega) ?_
        refine draw_mix 10 [(0, true), (1, true), (2, true), (3, true), (4, true), (5, true), (6, true), (7, true), (9, true), (8, false)] (fun w' => Upd [] w12 w') (by decide +kernel) (Upd.refl [] w12).drew ?_
        refine rq (.agg (planC (cA 1 N))) (fun w' hw' => ldw (I.upd0 hw').pb (planC_len _) ⟨rfl, rfl⟩) ?_
        refine q_ix rr rfl hr4 ?_
        refine q_ld (v := .int .i64 (L.getD rr 0)) (fun w' hw' => by rw [(I.upd0 hw').lb.cell, show 0 + rr * 1 = rr by omega]; exact lastA_at L rr (by omega)) ?_
        refine q_ar64 (by omega) ?_
        rw [hg]
        refine cl (node_a2 hcr (predN g) (5 + ((rr : Nat) : Int)) w12.drew) ?_
        rintro _ w13 ⟨rfl, hu13⟩
        have hu13 : Upd [] w12 w13 := (Upd.refl [] w12).drew.trans hu13
        refine ⟨hu13, ?_⟩
        rw [eg]
        refine cl ((I.upd0 hu13).store hA hc hk.n3 hk.n20 hP.u hP.len ⟨by omega, by omega⟩ (adr N g (5 + rr)) (by rw [hP.len]; exact hag) (2 * ((i : Int) + 3))) ?_
        rintro _ w14 I14
        have hP14 := hP.row hkl (by omega) hr4 (by rw [htall]; omega) hg (x := 2 * ((i : Int) + 3)) ⟨by omega, by omega⟩ (by rw [hdead, if_neg (fun hh => by cases hh.2)]; omega)
        refine ix rr rfl hr4 ?_
        refine st I14.lb (by unfold lastA; simp; omega) rfl fun w15 hb15 hu15 hs15 => ?_
        rw [show 0 + rr * 1 = rr by omega, lastA_set] at hb15
        have I15 := I14.put hb15 hu15 hne hlb
        refine ar64 (by omega) ?_
        exact round_mk [.int .i64 ((rr + 1 : Nat) : Int)] (T - (rr + 1)) rfl rfl ⟨rr + 1, _, k12 + 1, _, rfl, by omega, rfl, I15, hP14, hVT.ne (by omega) (.inl ⟨by omega, by omega⟩) _, by omega, by omega⟩ (by omega)
      · obtain rfl : rr = T := by omega
        refine ar64 (by omega) ?_
        exact round_mk [.int .i64 ((i + 1 : Nat) : Int)] (l.length - (i + 1)) rfl rfl ⟨i + 1, W, k12, L, rfl, by omega, rfl, I, hP.next (by omega) (by rw [htall]; exact hT.symm), hVT, by omega, hk120⟩ (by omega)
  obtain rfl : i = l.length := by omega
  rw [← hlen] at hP
  refine loop_rule [0, 6, 7] [13] (fun vs w' m => ∃ (kk : Nat) (W : List Int) (k' : Int), vs = [.int .i64 (kk : Int)] ∧ kk ≤ 4 ∧ m = 4 - kk ∧ LyA 1 w0 w w' X N t pb lb L W k' ∧ Part W N l' l'.length 0 l'.length L ∧ VT W N 1 l l.length ∧ (∀ k f : Nat, k < kk → f ≤ l'.length → (f = 0 ∨ (k : Int) < (ndAt l' (f - 1)).tall) → W.getD (adr N f (5 + k)) 0 = wd l' k f) ∧ k' ≤ k + 8 * l.length + kk ∧ 0 ≤ k') rfl [.int .i64 0] 4 rfl
    ⟨0, W, k5, rfl, by omega, rfl, I, hP, hVT, fun k f h => by omega, by omega, hk50⟩ ?_
  clear hP I hk5 hk50 hVT
  rintro _ w12 m ⟨kk, W, k12, rfl, hkk, rfl, I, hP, hVT, hdone, hk12, hk120⟩
  refine cd (fun hk4 => ?_) (fun hk4 => ?_)
  · have hr4 : kk < 4 := by omega
    obtain ⟨g, hg, hg2, -⟩ := hP.last kk hr4
    have hgl : g ≤ l.length := by unfold cnt at hg2; split at hg2 <;> omega
    have eg : (cA 1 (N : Int)).node (predN g) (5 + (kk : Int)) = (adr N g (5 + kk) : Int) := by rw [show (5 : Int) + (kk : Int) = ((5 + kk : Nat) : Int) by omega, adr_nodeA hA (by omega) (by omega)]
    have hag : adr N g (5 + kk) < 18 + 10 * N := adr_lt (by omega) (by omega)
    have hLl := hP.L4
    refine draw_mix 9 [(0, true), (1, true), (2, true), (3, true), (4, true), (5, true), (6, true), (7, true), (8, false)] (fun w' => Upd [] w12 w') (by decide +kernel) (Upd.refl [] w12).drew ?_
    refine rq (.agg (planC (cA 1 N))) (fun w' hw' => ldw (I.upd0 hw').pb (planC_len _) ⟨rfl, rfl⟩) ?_
    refine q_ix kk rfl hr4 ?_
    refine q_ld (v := .int .i64 (L.getD kk 0)) (fun w' hw' => by rw [(I.upd0 hw').lb.cell, show 0 + kk * 1 = kk by omega]; exact lastA_at L kk (by omega)) ?_
    refine q_ar64 (by omega) ?_
    rw [hg]
    refine cl (node_a2 hcr (predN g) (5 + (kk : Int)) w12.drew) ?_
    rintro _ w13 ⟨rfl, hu13⟩
    have hu13 : Upd [] w12 w13 := (Upd.refl [] w12).drew.trans hu13
    refine ⟨hu13, ?_⟩
    rw [eg]
    refine cl ((I.upd0 hu13).store hA hc hk.n3 hk.n20 hP.u hP.len ⟨by omega, by omega⟩ (adr N g (5 + kk)) (by rw [hP.len]; exact hag) 4) ?_
    rintro _ w14 I14
    obtain ⟨t1, t2⟩ := hP.tail hkl kk hr4 hdone hg
    refine ar64 (by omega) ?_
    exact round_mk [.int .i64 ((kk + 1 : Nat) : Int)] (4 - (kk + 1)) rfl rfl ⟨kk + 1, _, k12 + 1, rfl, by omega, rfl, I14, t1, hVT.ne (by omega) (.inl ⟨by omega, by omega⟩) _, t2, by omega, by omega⟩ (by omega)
  · obtain rfl : kk = 4 := by omega
    obtain ⟨Y, a', p, kn, hab, -⟩ := I.ev
    exact ⟨W, k12, a', ⟨Y, p, kn, hab⟩, hP.lays hkl hdone, hVT, hP.u, hk120, by omega⟩
set_option maxHeartbeats 2000000 in
set_option maxRecDepth 10000 in
theorem layX_2 {q : Int} (hq : q % 2 = 1) {Wz : List Int} {a : Bool} {v : Value} (hN : New w0 w X) (hc : X.s.on = false ∧ X.s.L = []) (ha : X.abs = MX 2 N Wz k a t) (hP0 : Part Wz N (lnk 2 l) 0 0 0 [1, 1, 1, 1]) (hk : NdsOk l N) (hv : valOk l) (hl : RdNd w0 v l) (hkb : 0 ≤ k ∧ k ≤ 100000) :
    Fn Tryz.prog 17 #[ptrV X.m, .int .i64 q, v] w fun _ w' => ∃ W' k' a', Ev w X w' (MX 2 N W' k' a' t) ∧ Lays W' N (lnk 2 l) ∧ VT W' N 2 l l.length ∧ (∀ x ∈ W', u64R x) ∧ 0 ≤ k' ∧ k' ≤ k + 400 := by
  have hA : inA 2 := by unfold inA; decide
  have hkl : NdsOk (lnk 2 l) N := hk.lnk 2
  have hlen : (lnk 2 l).length = l.length := lnk_len 2 l
  have hkey : ∀ i, (ndAt (lnk 2 l) i).key = (ndAt l i).key := fun i => (lnk_at 2 l i).1
  have htall : ∀ i, (ndAt (lnk 2 l) i).tall = (ndAt l i).tall := fun i => (lnk_at 2 l i).2.1
  have hdead : ∀ i, (ndAt (lnk 2 l) i).dead = (ndAt l i).dead := fun i => (lnk_at 2 l i).2.2
  generalize lnk 2 l = l' at *
  obtain ⟨va, vc, rfl, hv1, hv2⟩ := hl.form
  have hfew := hk.few
  have hn20 := hk.n20
  have hcr : rightC (cA 2 (N : Int)) := cA_right hA hk.n3 hk.n20
  have hcX : X.c = cA 2 (N : Int) := congrArg PS.c ha
  refine fn_enter Tryz.func17 rfl rfl ?_
  refine cl (plan_mm hN.ok) ?_
  rintro _ w1 ⟨rfl, hu1⟩
  rw [hcX]
  refine al z15 (fun _ => by kernel_rfl) fun w2 hb2 hu2 hs2 => ?_
  refine stw hb2 rfl (planC_len (cA 2 N)) (planC_one (cA 2 N)) fun w3 hb3 hu3 hs3 => ?_
  have hb3 : Blk w3 w1.heap.size 45 (planC (cA 2 N)) := hb3
  have z1 := hu1.size
  have hU3 : Upd [] w w3 := (hu1.trans hu2).step hu3 (by simp; omega)
  refine bs (lastA [1, 1, 1, 1]) (fun _ => by kernel_rfl) fun w4 hb4 hu4 hs4 => ?_
  have hb4 : Blk w4 w3.heap.size 3 (lastA [1, 1, 1, 1]) := hb4
  have hU4 := hU3.trans hu4
  have hlt : ∀ q ∈ X.feet, q < w.heap.size := fun q hq => hN.ok.lt q hq
  have I4 : LyA 2 w0 w w4 X N t w1.heap.size w3.heap.size [1, 1, 1, 1] Wz k :=
    ⟨X, a, .of0 hN.ok hU4, .refl X, ha, ⟨hb3.upd hu4 (by simp), fun hq => by have := hlt _ hq; omega⟩, ⟨hb4, fun hq => by have := hlt _ hq; have := hU3.size; omega⟩⟩
  have hne : w1.heap.size ≠ w3.heap.size := by omega
  have hlb : w.heap.size ≤ w3.heap.size := hU3.size
  clear hb2 hb3 hb4 hu2 hu3 hu4 hU3 hU4 hlt
  generalize w1.heap.size = pb at *
  generalize w3.heap.size = lb at *
  refine loop_rule [0, 1, 2, 6, 7] [8] (fun vs w' m => ∃ (i : Nat) (W : List Int) (k' : Int) (L : List Int), vs = [.int .i64 (i : Int)] ∧ i ≤ l.length ∧ m = l.length - i ∧ LyA 2 w0 w w' X N t pb lb L W k' ∧ Part W N l' i 0 i L ∧ VT W N 2 l i ∧ k' ≤ k + 8 * i ∧ 0 ≤ k') rfl [.int .i64 0] l.length rfl
    ⟨0, Wz, k, _, rfl, by omega, rfl, I4, hP0, (fun j hj => by omega), by omega, by omega⟩ ?_
  rintro _ w5 m ⟨i, W, k5, L, rfl, hi, rfl, I, hP, hVT, hk5, hk50⟩
  refine len_sl ?_
  refine cd (fun hlt => ?_) (fun hlt => ?_)
  · have hlt : i < l.length := by omega
    obtain ⟨b, o, cap, he, -⟩ := hl.some_ (by omega)
    cases he
    have hu := hk.u64 i hlt
    have hvi := hv (ndAt l i) (by simp [List.getD, hlt])
    refine ar64 (by omega) ?_
    refine draw_mix 14 [(0, true), (1, true), (2, true), (4, true), (5, true), (6, true), (7, true), (8, true), (9, true), (10, true), (11, true), (12, true), (13, true), (3, false)] (fun w' => Upd [] w5 w') (by decide +kernel) (Upd.refl [] w5).drew ?_
    refine rq (.agg (planC (cA 2 N))) (fun w' hw' => ldw (I.upd0 hw').pb (planC_len _) ⟨rfl, rfl⟩) ?_
    refine q_ix i rfl hlt ?_
    refine q_fa ?_
    refine q_ld (v := .int .u32 (ndAt l i).key) (fun w' hw' => by rw [(hl.upd0 ((I.upd0 hw').up hN)).nd rfl i hlt 0 (by omega)]; rfl) ?_
    refine rq (.int .u64 (ndAt l i).key) (fun _ _ => cv (arU (by omega) ⟨rfl, rfl⟩)) ?_
    refine q_arU (by omega) ?_
    refine rq (.int .u64 (i : Int)) (fun _ _ => cv (arU (by omega) ⟨rfl, rfl⟩)) ?_
    refine q_arU (by omega) ?_
    refine cl (node_a2 hcr ((i : Int) + 3) 0 w5.drew) ?_
    rintro _ w6 ⟨rfl, hu6⟩
    have hu6 : Upd [] w5 w6 := (Upd.refl [] w5).drew.trans hu6
    refine ⟨hu6, ?_⟩
    have e0 : ∀ f : Nat, f < 9 → (cA 2 (N : Int)).node ((i : Int) + 3) (f : Int) = (adr N (i + 1) f : Int) := fun f hf => by rw [← predN_s, adr_nodeA hA (by omega) hf]
    rw [show (cA 2 (N : Int)).node ((i : Int) + 3) 0 = (adr N (i + 1) 0 : Int) from e0 0 (by omega)]
    have haL : ∀ f : Nat, f < 9 → adr N (i + 1) f < 18 + 10 * N := fun f hf => adr_lt (by omega) hf
    refine cl ((I.upd0 hu6).store hA hc hk.n3 hk.n20 hP.u hP.len ⟨by omega, by omega⟩ (adr N (i + 1) 0) (by rw [hP.len]; exact haL 0 (by omega)) _) ?_
    rintro _ w7 I7
    have hP7 := hP.ord (o := i) (x := (ndAt l i).key * 4294967296 + i) (by omega) ⟨by omega, by omega⟩ (by rw [hkey])
    have hVT7 := hVT.ne (i := i + 1) (f := 0) (by omega) (.inl ⟨by omega, by omega⟩) ((ndAt l i).key * 4294967296 + i)
    refine ix i rfl hlt ?_
    refine fa ?_
    refine ld (v := .int .u32 (ndAt l i).val) (by rw [(hl.upd0 (I7.up hN)).nd rfl i hlt 1 (by omega)]; rfl) ?_
    refine cv ?_
    refine arU (by omega) ?_
    refine and64 1 (by omega) ?_
    refine ldw I7.pb (planC_len _) ?_
    refine cl (node_a2 hcr ((i : Int) + 3) 1 w7) ?_
    rintro _ w8 ⟨rfl, hu8⟩
    rw [show (cA 2 (N : Int)).node ((i : Int) + 3) 1 = (adr N (i + 1) 1 : Int) from e0 1 (by omega)]
    refine cl ((I7.upd0 hu8).store hA hc hk.n3 hk.n20 hP7.u hP7.len ⟨by omega, by omega⟩ (adr N (i + 1) 1) (by rw [hP7.len]; exact haL 1 (by omega)) _) ?_
    rintro _ w9 I9
    have hP9 := hP7.other (f := 1) (i + 1) (.inl rfl) (x := (ndAt l i).val) ⟨by omega, by omega⟩
    refine draw_mix 10 [(0, true), (1, true), (2, true), (4, true), (5, true), (6, true), (7, true), (8, true), (9, true), (3, false)] (fun w' => Upd [] w9 w') (by decide +kernel) (Upd.refl [] w9).drew ?_
    refine rq (.agg (planC (cA 2 N))) (fun w' hw' => ldw (I9.upd0 hw').pb (planC_len _) ⟨rfl, rfl⟩) ?_
    refine q_ix i rfl hlt ?_
    refine q_fa ?_
    refine q_ld (v := .int .i64 (ndAt l i).tall) (fun w' hw' => by rw [(hl.upd0 ((I9.upd0 hw').up hN)).nd rfl i hlt 2 (by omega)]; rfl) ?_
    refine rq (.int .u64 (ndAt l i).tall) (fun _ _ => cv (arU (by omega) ⟨rfl, rfl⟩)) ?_
    refine cl (node_a2 hcr ((i : Int) + 3) 3 w9.drew) ?_
    rintro _ w10 ⟨rfl, hu10⟩
    have hu10 : Upd [] w9 w10 := (Upd.refl [] w9).drew.trans hu10
    refine ⟨hu10, ?_⟩
    rw [show (cA 2 (N : Int)).node ((i : Int) + 3) 3 = (adr N (i + 1) 3 : Int) from e0 3 (by omega)]
    refine cl ((I9.upd0 hu10).store hA hc hk.n3 hk.n20 hP9.u hP9.len ⟨by omega, by omega⟩ (adr N (i + 1) 3) (by rw [hP9.len]; exact haL 3 (by omega)) _) ?_
    rintro _ w11 I11
    have hP11 := hP9.other (f := 3) (i + 1) (.inr rfl) (x := (ndAt l i).tall) ⟨by omega, by omega⟩
    have hVT11 := hVT7.add hP7.len (by omega) (x := (ndAt l i).val) (y := (ndAt l i).tall) (rfl) rfl
    obtain ⟨T, hT⟩ : ∃ T : Nat, (ndAt l i).tall = (T : Int) := ⟨_, (Int.toNat_of_nonneg (by omega)).symm⟩
    refine loop_rule [0, 1, 2, 6, 7, 8, 9] [11] (fun vs w' m => ∃ (rr : Nat) (W : List Int) (k' : Int) (L : List Int), vs = [.int .i64 (rr : Int)] ∧ rr ≤ T ∧ m = T - rr ∧ LyA 2 w0 w w' X N t pb lb L W k' ∧ Part W N l' i rr (i + 1) L ∧ VT W N 2 l (i + 1) ∧ k' ≤ k + 8 * i + 3 + rr ∧ 0 ≤ k') rfl [.int .i64 0] T rfl
      ⟨0, _, k5 + 1 + 1 + 1, L, rfl, by omega, rfl, I11, hP11, hVT11, by omega, by omega⟩ ?_
    clear hP hP7 hP9 hP11 I I7 I9 I11 hk5 hk50 hVT hVT7 hVT11
    rintro _ w12 m ⟨rr, W, k12, L, rfl, hrr, rfl, I, hP, hVT, hk12, hk120⟩
    refine ix i rfl hlt ?_
    refine fa ?_
    refine ld (v := .int .i64 (T : Int)) (by rw [(hl.upd0 (I.up hN)).nd rfl i hlt 2 (by omega), ← hT]; rfl) ?_
    refine cd (fun hrT => ?_) (fun hrT => ?_)
    · have hr4 : rr < 4 := by omega
      obtain ⟨g, hg, hg2, -⟩ := hP.last rr hr4
      have hgl : g ≤ l.length := by unfold cnt at hg2; split at hg2 <;> omega
      have hgb : 1 ≤ predN g ∧ predN g ≤ N := by unfold predN; split <;> omega
      have eg : (cA 2 (N : Int)).node (predN g) (5 + (rr : Int)) = (adr N g (5 + rr) : Int) := by rw [show (5 : Int) + (rr : Int) = ((5 + rr : Nat) : Int) by omega, adr_nodeA hA (by omega) (by omega)]
      have hag : adr N g (5 + rr) < 18 + 10 * N := adr_lt (by omega) (by omega)
      have hLl := hP.L4
      refine cv ?_
      refine arU (by omega) ?_
      refine arU (by omega) ?_
      refine and64 1 (by omega) ?_
      by_cases r0 : rr = 0
      · subst r0
        refine ix i rfl hlt ?_
        refine fa ?_
        refine ld (v := .bool (ndAt l i).dead) (by rw [(hl.upd0 (I.up hN)).nd rfl i hlt 3 (by omega)]; rfl) ?_
        cases hdd : (ndAt l i).dead with
        | true =>
          refine arU (by omega) ?_
          refine draw_mix 10 [(0, true), (1, true), (2, true), (3, true), (4, true), (5, true), (6, true), (7, true), (9, true), (8, false)] (fun w' => Upd [] w12 w') (by decide +kernel) (Upd.refl [] w12).drew ?_
          refine rq (.agg (planC (cA 2 N))) (fun w' hw' => ldw (I.upd0 hw').pb (planC_len _) ⟨rfl, rfl⟩) ?_
          refine q_ix 0 rfl hr4 ?_
          refine q_ld (v := .int .i64 (L.getD 0 0)) (fun w' hw' => by rw [(I.upd0 hw').lb.cell, show 0 + 0 * 1 = 0 by omega]; exact lastA_at L 0 (by omega)) ?_
          refine q_ar64 (by omega) ?_
          rw [hg]
          refine cl (node_a2 hcr (predN g) (5 + ((0 : Nat) : Int)) w12.drew) ?_
          rintro _ w13 ⟨rfl, hu13⟩
          have hu13 : Upd [] w12 w13 := (Upd.refl [] w12).drew.trans hu13
          refine ⟨hu13, ?_⟩
          rw [eg]
          refine cl ((I.upd0 hu13).store hA hc hk.n3 hk.n20 hP.u hP.len ⟨by omega, by omega⟩ (adr N g (5 + 0)) (by rw [hP.len]; exact hag) (2 * ((i : Int) + 3) + 1)) ?_
          rintro _ w14 I14
          have hP14 := hP.row hkl (by omega) hr4 (by rw [htall]; omega) hg (x := 2 * ((i : Int) + 3) + 1) ⟨by omega, by omega⟩ (by rw [hdead, if_pos ⟨rfl, hdd⟩])
          refine ix 0 rfl hr4 ?_
          refine st I14.lb (by unfold lastA; simp; omega) rfl fun w15 hb15 hu15 hs15 => ?_
          rw [show 0 + 0 * 1 = 0 by omega, lastA_set] at hb15
          have I15 := I14.put hb15 hu15 hne hlb
          refine ar64 (by omega) ?_
          exact round_mk [.int .i64 ((0 + 1 : Nat) : Int)] (T - (0 + 1)) rfl rfl ⟨0 + 1, _, k12 + 1, _, rfl, by omega, rfl, I15, hP14, hVT.ne (by omega) (.inl ⟨by omega, by omega⟩) _, by omega, by omega⟩ (by omega)
        | false =>
          refine draw_mix 10 [(0, true), (1, true), (2, true), (3, true), (4, true), (5, true), (6, true), (7, true), (9, true), (8, false)] (fun w' => Upd [] w12 w') (by decide +kernel) (Upd.refl [] w12).drew ?_
          refine rq (.agg (planC (cA 2 N))) (fun w' hw' => ldw (I.upd0 hw').pb (planC_len _) ⟨rfl, rfl⟩) ?_
          refine q_ix 0 rfl hr4 ?_
          refine q_ld (v := .int .i64 (L.getD 0 0)) (fun w' hw' => by rw [(I.upd0 hw').lb.cell, show 0 + 0 * 1 = 0 by omega]; exact lastA_at L 0 (by omega)) ?_
          refine q_ar64 (by omega) ?_
          rw [hg]
          refine cl (node_a2 hcr (predN g) (5 + ((0 : Nat) : Int)) w12.drew) ?_
          rintro _ w13 ⟨rfl, hu13⟩
          have hu13 : Upd [] w12 w13 := (Upd.refl [] w12).drew.trans hu13
          refine ⟨hu13, ?_⟩
          rw [eg]
          refine cl ((I.upd0 hu13).store hA hc hk.n3 hk.n20 hP.u hP.len ⟨by omega, by omega⟩ (adr N g (5 + 0)) (by rw [hP.len]; exact hag) (2 * ((i : Int) + 3))) ?_
          rintro _ w14 I14
          have hP14 := hP.row hkl (by omega) hr4 (by rw [htall]; omega) hg (x := 2 * ((i : Int) + 3)) ⟨by omega, by omega⟩ (by rw [hdead, if_neg (fun hh => by rw [hdd] at hh; cases hh.2)]; omega)
          refine ix 0 rfl hr4 ?_
          refine st I14.lb (by unfold lastA; simp; omega) rfl fun w15 hb15 hu15 hs15 => ?_
          rw [show 0 + 0 * 1 = 0 by omega, lastA_set] at hb15
          have I15 := I14.put hb15 hu15 hne hlb
          refine ar64 (by omega) ?_
          exact round_mk [.int .i64 ((0 + 1 : Nat) : Int)] (T - (0 + 1)) rfl rfl ⟨0 + 1, _, k12 + 1, _, rfl, by omega, rfl, I15, hP14, hVT.ne (by omega) (.inl ⟨by omega, by omega⟩) _, by omega, by omega⟩ (by omega)
      · refine cN (by omega) ?_
        refine draw_mix 10 [(0, true), (1, true), (2, true), (3, true), (4, true), (5, true), (6, true), (7, true), (9, true), (8, false)] (fun w' => Upd [] w12 w') (by decide +kernel) (Upd.refl [] w12).drew ?_
        refine rq (.agg (planC (cA 2 N))) (fun w' hw' => ldw (I.upd0 hw').pb (planC_len _) ⟨rfl, rfl⟩) ?_
        refine q_ix rr rfl hr4 ?_
        refine q_ld (v := .int .i64 (L.getD rr 0)) (fun w' hw' => by rw [(I.upd0 hw').lb.cell, show 0 + rr * 1 = rr by omega]; exact lastA_at L rr (by omega)) ?_
        refine q_ar64 (by omega) ?_
        rw [hg]
        refine cl (node_a2 hcr (predN g) (5 + ((rr : Nat) : Int)) w12.drew) ?_
        rintro _ w13 ⟨rfl, hu13⟩
        have hu13 : Upd [] w12 w13 := (Upd.refl [] w12).drew.trans hu13
        refine ⟨hu13, ?_⟩
        rw [eg]
        refine cl ((I.upd0 hu13).store hA hc hk.n3 hk.n20 hP.u hP.len ⟨by omega, by omega⟩ (adr N g (5 + rr)) (by rw [hP.len]; exact hag) (2 * ((i : Int) + 3))) ?_
        rintro _ w14 I14
        have hP14 := hP.row hkl (by omega) hr4 (by rw [htall]; omega) hg (x := 2 * ((i : Int) + 3)) ⟨by omega, by omega⟩ (by rw [if_neg (fun hh => r0 hh.1)]; omega)
        refine ix rr rfl hr4 ?_
        refine st I14.lb (by unfold lastA; simp; omega) rfl fun w15 hb15 hu15 hs15 => ?_
        rw [show 0 + rr * 1 = rr by omega, lastA_set] at hb15
        have I15 := I14.put hb15 hu15 hne hlb
        refine ar64 (by omega) ?_
        exact round_mk [.int .i64 ((rr + 1 : Nat) : Int)] (T - (rr + 1)) rfl rfl ⟨rr + 1, _, k12 + 1, _, rfl, by omega, rfl, I15, hP14, hVT.ne (by omega) (.inl ⟨by omega, by omega⟩) _, by omega, by omega⟩ (by omega)
    · obtain rfl : rr = T := by omega
      refine ar64 (by omega) ?_
      exact round_mk [.int .i64 ((i + 1 : Nat) : Int)] (l.length - (i + 1)) rfl rfl ⟨i + 1, W, k12, L, rfl, by omega, rfl, I, hP.next (by omega) (by rw [htall]; exact hT.symm), hVT, by omega, hk120⟩ (by omega)
  obtain rfl : i = l.length := by omega
  rw [← hlen] at hP
  refine loop_rule [0, 6, 7] [13] (fun vs w' m => ∃ (kk : Nat) (W : List Int) (k' : Int), vs = [.int .i64 (kk : Int)] ∧ kk ≤ 4 ∧ m = 4 - kk ∧ LyA 2 w0 w w' X N t pb lb L W k' ∧ Part W N l' l'.length 0 l'.length L ∧ VT W N 2 l l.length ∧ (∀ k f : Nat, k < kk → f ≤ l'.length → (f = 0 ∨ (k : Int) < (ndAt l' (f - 1)).tall) → W.getD (adr N f (5 + k)) 0 = wd l' k f) ∧ k' ≤ k + 8 * l.length + kk ∧ 0 ≤ k') rfl [.int .i64 0] 4 rfl
    ⟨0, W, k5, rfl, by omega, rfl, I, hP, hVT, fun k f h => by omega, by omega, hk50⟩ ?_
  clear hP I hk5 hk50 hVT
  rintro _ w12 m ⟨kk, W, k12, rfl, hkk, rfl, I, hP, hVT, hdone, hk12, hk120⟩
  refine cd (fun hk4 => ?_) (fun hk4 => ?_)
  · have hr4 : kk < 4 := by omega
    obtain ⟨g, hg, hg2, -⟩ := hP.last kk hr4
    have hgl : g ≤ l.length := by unfold cnt at hg2; split at hg2 <;> omega
    have eg : (cA 2 (N : Int)).node (predN g) (5 + (kk : Int)) = (adr N g (5 + kk) : Int) := by rw [show (5 : Int) + (kk : Int) = ((5 + kk : Nat) : Int) by omega, adr_nodeA hA (by omega) (by omega)]
    have hag : adr N g (5 + kk) < 18 + 10 * N := adr_lt (by omega) (by omega)
    have hLl := hP.L4
    refine draw_mix 9 [(0, true), (1, true), (2, true), (3, true), (4, true), (5, true), (6, true), (7, true), (8, false)] (fun w' => Upd [] w12 w') (by decide +kernel) (Upd.refl [] w12).drew ?_
    refine rq (.agg (planC (cA 2 N))) (fun w' hw' => ldw (I.upd0 hw').pb (planC_len _) ⟨rfl, rfl⟩) ?_
    refine q_ix kk rfl hr4 ?_
    refine q_ld (v := .int .i64 (L.getD kk 0)) (fun w' hw' => by rw [(I.upd0 hw').lb.cell, show 0 + kk * 1 = kk by omega]; exact lastA_at L kk (by omega)) ?_
    refine q_ar64 (by omega) ?_
    rw [hg]
    refine cl (node_a2 hcr (predN g) (5 + (kk : Int)) w12.drew) ?_
    rintro _ w13 ⟨rfl, hu13⟩
    have hu13 : Upd [] w12 w13 := (Upd.refl [] w12).drew.trans hu13
    refine ⟨hu13, ?_⟩
    rw [eg]
    refine cl ((I.upd0 hu13).store hA hc hk.n3 hk.n20 hP.u hP.len ⟨by omega, by omega⟩ (adr N g (5 + kk)) (by rw [hP.len]; exact hag) 4) ?_
    rintro _ w14 I14
    obtain ⟨t1, t2⟩ := hP.tail hkl kk hr4 hdone hg
    refine ar64 (by omega) ?_
    exact round_mk [.int .i64 ((kk + 1 : Nat) : Int)] (4 - (kk + 1)) rfl rfl ⟨kk + 1, _, k12 + 1, rfl, by omega, rfl, I14, t1, hVT.ne (by omega) (.inl ⟨by omega, by omega⟩) _, t2, by omega, by omega⟩ (by omega)
  · obtain rfl : kk = 4 := by omega
    obtain ⟨Y, a', p, kn, hab, -⟩ := I.ev
    exact ⟨W, k12, a', ⟨Y, p, kn, hab⟩, hP.lays hkl hdone, hVT, hP.u, hk120, by omega⟩
end
end Go.Proofs.YtbnbbafffihapaaGreat

/- skip: First of both algorithms; lives; the rows of nodes that are laid. -/
namespace Go.Proofs.YtbnbbafffihapaaGreat
open Go.RowKit
attribute [local irreducible] Instr.loadAt Instr.storeAt Instr.fieldAt Instr.indexAt Instr.sliceAt Instr.buildSlice Instr.box Instr.alloc Builtin.append_ Builtin.len_ Builtin.min_ Builtin.max_ Calls Instr.build Instr.makeSlice binSem convert Instr.index Instr.range Instr.next
def S0 (A : Int) (N : Nat) : MS := layS A 1 (N : Int) 4 (newMS (sizeP A 1 (N : Int) 4).toNat)
def WX (A : Int) (N : Nat) : List Int := (S0 A N).W
def okS (A : Int) (N : Nat) : Prop := (WX A N).length = 18 + 10 * N ∧ (∀ x ∈ WX A N, u64R x) ∧ (0 ≤ (S0 A N).k ∧ (S0 A N).k ≤ 1000) ∧ (S0 A N).on = false ∧ (S0 A N).L = []
theorem okS_1_20 : okS 1 20 := by unfold okS; decide +kernel
theorem okS_2_20 : okS 2 20 := by unfold okS; decide +kernel
theorem okS_1_5 : okS 1 5 := by unfold okS; decide +kernel
structure FstX (A : Int) (w w' : World) (X : Mc) (N : Nat) (k : Int) (t : PT) : Prop where
  new : New w w' X
  abs : X.abs = MX A N (WX A N) k false t
  calm : X.s.on = false ∧ X.s.L = []
  fs : t.fs = []
  lens : t.P.length = 4 ∧ t.S.length = 4 ∧ t.W.length = 4
  k0 : 0 ≤ k ∧ k ≤ 1000
  wl : (WX A N).length = 18 + 10 * N
  wu : ∀ x ∈ WX A N, u64R x
set_option maxRecDepth 10000 in
theorem fstx_c {A q : Int} {N : Nat} (hA : inA A) (hq : 1 + q % 2 = A) (h : N = 20 ∨ N = 5) (ho : okS A N) (w : World) : Fn Tryz.prog 16 #[.int .i64 q, .int .i64 (N : Int)] w fun r w' => ∃ X k t, r = ptrV X.m ∧ FstX A w w' X N k t := by
  have hA12 : 1 ≤ A ∧ A ≤ 2 := by unfold inA at hA; omega
  refine fn_enter Tryz.func16 rfl rfl ?_
  refine and64 (q % 2) rfl ?_
  refine ar64 (by omega) ?_
  rw [hq]
  refine mn2 ?_
  refine val (N : Int) (by rcases h with rfl | rfl <;> rfl) ?_
  refine mx2 ?_
  refine val (N : Int) (by rcases h with rfl | rfl <;> rfl) ?_
  refine bd (cf7 ⟨A, 1, (N : Int), 4, 1, 1, 1⟩) (fun _ => by kernel_rfl) ?_
  refine cl (core_new2 (draws := []) false (RdK.nil_ w .u8) (by decide)) ?_
  rintro _ w1 ⟨-, hyes⟩
  have hr : rightC ⟨A, 1, (N : Int), 4, 1, 1, 1⟩ := cA_right (A := A) hA (N := N) (by omega) (by omega)
  obtain ⟨m, mp, mv, lv, fp, fv, gs, tv, ths, rfl, hN, hl, hz, hgs, -⟩ := hyes hr
  obtain rfl := hgs rfl
  obtain ⟨t0, rfl⟩ : ∃ t0, ths = [t0] := by
    cases ths with
    | nil => simp at hl
    | cons x r =>
      cases r with
      | nil => exact ⟨x, rfl⟩
      | cons y r => simp at hl; omega
  obtain ⟨g, pv, sv, wv, rfl⟩ := hz t0 (by simp)
  obtain ⟨o1, o2, o3, o4⟩ := ho
  exact ⟨_, _, _, rfl, hN, rfl, o4, rfl, ⟨by simp [absT, thZ], by simp [absT, thZ], by simp [absT, thZ]⟩, o3, o1, o2⟩
/-- a machine of the call's own, of one thread, of either algorithm -/
structure LX (A : Int) (w w' : World) (X : Mc) (N : Nat) (W : List Int) (k : Int) (a : Bool) (t : PT) : Prop where
  new : New w w' X
  abs : X.abs = MX A N W k a t
  calm : X.s.on = false ∧ X.s.L = []
section
variable {A : Int} {w w' w'' w0 : World} {X : Mc} {N : Nat} {W : List Int} {k : Int} {a : Bool} {t : PT}
theorem LX.upd0 (h : LX A w w' X N W k a t) (hu : Upd [] w' w'') : LX A w w'' X N W k a t := ⟨⟨h.new.ok.upd0 hu, h.new.up.trans hu, h.new.fr⟩, h.abs, h.calm⟩
theorem LX.ev (h : LX A w w' X N W k a t) {W' : List Int} {k' : Int} {a' : Bool} {t' : PT} (e : Ev w' X w'' (MX A N W' k' a' t')) : ∃ Y, LX A w w'' Y N W' k' a' t' ∧ Y.m = X.m ∧ Post w' X w'' Y := by
  obtain ⟨Y, p, kn, ha⟩ := e
  exact ⟨Y, ⟨h.new.post p, ha, kn.calm h.calm⟩, kn.m, p⟩
theorem LX.rebase (h : LX A w w' X N W k a t) (hu : Upd [] w0 w) : LX A w0 w' X N W k a t := ⟨h.new.rebase hu, h.abs, h.calm⟩
theorem LX.c_ (h : LX A w w' X N W k a t) : X.c = cA A (N : Int) := congrArg PS.c h.abs
theorem LX.w_ (h : LX A w w' X N W k a t) : X.s.W = W := congrArg PS.W h.abs
theorem LX.g_ (h : LX A w w' X N W k a t) : gvOf X.gs = .pointer none := by
  have h1 : X.gs.map absG = none := congrArg PS.gh h.abs
  have h2 : X.gs = none := by simpa using h1
  rw [h2]; rfl
theorem LX.q (h : LX A w w' X N W k a t) (hA : inA A) (h3 : 3 ≤ N) (h20 : N ≤ 20) (hl : W.length = 18 + 10 * N) (hu : ∀ x ∈ W, u64R x) : Qm w' X :=
  ⟨h.new.ok, by rw [h.c_]; exact cA_right hA h3 h20, by rw [h.w_, h.c_, hl]; exact (sizeP_cA hA N).symm, by rw [h.w_]; exact hu⟩
theorem FstX.lx (h : FstX A w w' X N k t) : LX A w w' X N (WX A N) k false t := ⟨h.new, h.abs, h.calm⟩
end
end Go.Proofs.YtbnbbafffihapaaGreat

/- skip: the rows of nodes that are laid (plain). -/
namespace Go.Proofs.YtbnbbafffihapaaGreat
open Go.RowKit
attribute [local irreducible] Instr.loadAt Instr.storeAt Instr.fieldAt Instr.indexAt Instr.sliceAt Instr.buildSlice Instr.box Instr.alloc Builtin.append_ Builtin.len_ Builtin.min_ Builtin.max_ Calls Instr.build Instr.makeSlice binSem convert Instr.index Instr.range Instr.next
def tallP (l : List Nd) (k : Nat) (i : Nat) : Bool := decide ((k : Int) < (ndAt l i).tall)
def fromIx (l : List Nd) (k g : Nat) : List Nat := (List.range' g (l.length - g)).filter (tallP l k)
theorem fromIx_nx {l : List Nd} {k : Nat} : ∀ (n g : Nat), l.length - g = n → g ≤ l.length → (nx l k g < l.length → fromIx l k g = nx l k g :: fromIx l k (nx l k g + 1)) ∧ (¬ nx l k g < l.length → fromIx l k g = []) := by
  intro n
  induction n with
  | zero =>
    intro g hn hg
    rw [nx_end (show ¬ g < l.length by omega)]
    refine ⟨fun h => by omega, fun _ => ?_⟩
    unfold fromIx
    rw [hn]; rfl
  | succ n ih =>
    intro g hn hg
    have hlt : g < l.length := by omega
    have hr : fromIx l k g = if tallP l k g then g :: fromIx l k (g + 1) else fromIx l k (g + 1) := by
      unfold fromIx
      rw [hn, List.range'_succ, List.filter_cons, show l.length - (g + 1) = n by omega]
    by_cases ht : (k : Int) < (ndAt l g).tall
    · rw [nx_hit hlt ht, hr, if_pos (by unfold tallP; exact decide_eq_true ht)]
      exact ⟨fun _ => rfl, fun h => absurd hlt h⟩
    · rw [nx_skip hlt ht, hr, if_neg (by unfold tallP; simpa using ht)]
      exact ih (g + 1) (by omega) (by omega)
def tallIx (l : List Nd) (k : Nat) : List Nat := (List.range l.length).filter (tallP l k)
theorem fromIx_0 (l : List Nd) (k : Nat) : fromIx l k 0 = tallIx l k := by
  unfold fromIx tallIx
  rw [Nat.sub_zero, List.range_eq_range']
def stN (l : List Nd) (k : Nat) (i : Nat) : Int × Bool := ((i : Int) + 3, markN l k i)
theorem atV_node {A : Int} (hA : inA A) {W : List Int} {i f : Nat} (hi : i + 2 ≤ 20) (hf : f < 9) : atV (cA A ((20 : Nat) : Int)) W (predN i) (f : Int) = W.getD (adr 20 i f) 0 := by
  unfold atV
  rw [adr_nodeA hA (N := 20) hi hf, if_neg (by omega), Int.toNat_natCast]
section
variable {A : Int} {W : List Int} {l : List Nd} {k : Nat}
theorem rowF_lays (hA : inA A) (hL : Lays W 20 l) (hk : k < 4) : ∀ (m g : Nat), g ≤ l.length → (g = 0 ∨ (k : Int) < (ndAt l (g - 1)).tall) → l.length - g ≤ m → rowF (cA A ((20 : Nat) : Int)) W (k : Int) m (wd l k g) = (fromIx l k g).map (stN l k) := by
  have hfew := hL.few
  intro m
  induction m with
  | zero =>
    intro g hg _ hm
    rw [rowF]
    have : fromIx l k g = [] := by unfold fromIx; rw [show l.length - g = 0 by omega]; rfl
    rw [this]; rfl
  | succ m ih =>
    intro g hg ht hm
    obtain ⟨h1, h2⟩ := fromIx_nx (l := l) (k := k) _ g rfl hg
    obtain ⟨q1, q2, q3⟩ := wd_ptr l (by omega) k g
    have hge := nx_ge (l := l) (k := k) g hg
    rw [rowF, q1, q2]
    by_cases hj : nx l k g < l.length
    · have hn : nodeN l (nx l k g) = (nx l k g : Int) + 3 := if_pos hj
      rw [hn, if_neg (by omega), h1 hj, List.map_cons]
      have hat : atV (cA A ((20 : Nat) : Int)) W ((nx l k g : Int) + 3) (5 + (k : Int)) = wd l k (nx l k g + 1) := by
        rw [← predN_s, show (5 : Int) + (k : Int) = ((5 + k : Nat) : Int) by omega, atV_node hA (by omega) (by omega)]
        exact hL.link k (nx l k g + 1) hk (by omega) (.inr (by rw [Nat.add_sub_cancel]; exact hge.2.2 hj))
      rw [hat, ih (nx l k g + 1) (by omega) (.inr (by rw [Nat.add_sub_cancel]; exact hge.2.2 hj)) (by omega)]
      rfl
    · have hn : nodeN l (nx l k g) = 2 := if_neg hj
      rw [hn, if_pos (by omega), h2 hj]; rfl
theorem rowV_lays (hA : inA A) (hL : Lays W 20 l) (hk : k < 4) : rowV (cA A ((20 : Nat) : Int)) W (k : Int) = (tallIx l k).map (stN l k) := by
  have hfew := hL.few
  unfold rowV
  have h0 : atV (cA A ((20 : Nat) : Int)) W 1 (5 + (k : Int)) = wd l k 0 := by
    rw [show (1 : Int) = predN 0 from rfl, show (5 : Int) + (k : Int) = ((5 + k : Nat) : Int) by omega, atV_node hA (by omega) (by omega)]
    exact hL.link k 0 hk (by omega) (.inl rfl)
  rw [h0, ← fromIx_0]
  exact rowF_lays hA hL hk _ 0 (by omega) (.inl rfl) (by show _ ≤ ((20 : Nat) : Int).toNat; omega)
end
theorem tallP_lnk (A : Int) (l : List Nd) (k : Nat) : tallP (lnk A l) k = tallP l k := by
  funext i
  unfold tallP
  rw [(lnk_at A l i).2.1]
theorem tallIx_lnk (A : Int) (l : List Nd) (k : Nat) : tallIx (lnk A l) k = tallIx l k := by
  unfold tallIx
  rw [lnk_len, tallP_lnk]
/-- how many before -/
def rk (p : Nat → Bool) (i : Nat) : Nat := ((List.range i).filter p).length
theorem rk_s (p : Nat → Bool) (i : Nat) : rk p (i + 1) = rk p i + if p i then 1 else 0 := by
  unfold rk
  rw [List.range_succ, List.filter_append, List.length_append]
  cases h : p i <;> simp [h]
theorem rk_le (p : Nat → Bool) (i : Nat) : rk p i ≤ i := by
  unfold rk
  refine Nat.le_trans (List.length_filter_le _ _) ?_
  rw [List.length_range]; exact Nat.le_refl _
theorem filter_at (p : Nat → Bool) {n i : Nat} (hi : i < n) (hp : p i = true) : ((List.range n).filter p)[rk p i]? = some i := by
  have e0 : List.range n = List.range i ++ i :: List.range' (i + 1) (n - i - 1) := by
    rw [List.range_eq_range', List.range_eq_range', show n = i + (n - i - 1 + 1) by omega, ← List.range'_append, List.range'_succ]
    simp
  rw [e0, List.filter_append, List.filter_cons_of_pos hp]
  unfold rk
  rw [List.getElem?_append_right (Nat.le_refl _), Nat.sub_self]
  rfl
theorem rk_lt (p : Nat → Bool) {n i : Nat} (hi : i < n) (hp : p i = true) : rk p i < rk p n := by
  have := filter_at p hi hp
  unfold rk at *
  rcases Nat.lt_or_ge ((List.range i).filter p).length ((List.range n).filter p).length with h | h
  · exact h
  · rw [List.getElem?_eq_none h] at this; cases this
/-- what is laid -/
structure Laid (W : List Int) (A : Int) (l : List Nd) : Prop where
  a : inA A
  ly : Lays W 20 (lnk A l)
  vt : VT W 20 A l l.length
  u : NdU l
  u64 : ∀ x ∈ W, u64R x
section
variable {A : Int} {W : List Int} {l : List Nd} {k : Nat}
theorem Laid.few (h : Laid W A l) : l.length ≤ 18 := by have := h.ly.few; rw [lnk_len] at this; omega
theorem Laid.tall (h : Laid W A l) {i : Nat} (hi : i < l.length) : 1 ≤ (ndAt l i).tall ∧ (ndAt l i).tall ≤ 4 := by
  have := (h.ly.u64 i (by rw [lnk_len]; exact hi)).2
  rw [(lnk_at A l i).2.1] at this; exact this
theorem Laid.row (h : Laid W A l) (hk : k < 4) : rowV (cA A ((20 : Nat) : Int)) W (k : Int) = (tallIx l k).map (stN (lnk A l) k) := by
  rw [rowV_lays h.a h.ly hk, tallIx_lnk]
theorem Laid.rowi (h : Laid W A l) (hk : k < 4) : rowI (cA A ((20 : Nat) : Int)) W (k : Int) = (tallIx l k).map fun (i : Nat) => (i : Int) + 3 := by
  have hA : A ≠ 0 := by have := h.a; unfold inA at this; omega
  unfold rowI
  rw [if_neg (by
    rintro (h1 | h1 | h1)
    · exact hA h1
    · omega
    · have : (4 : Int) ≤ (k : Int) := h1
      omega), h.row hk, List.map_map]
  rfl
theorem Laid.dead (h : Laid W A l) {i : Nat} (hi : i < l.length) : deadV (cA A ((20 : Nat) : Int)) W (stN (lnk A l) 0 i) = (ndAt l i).dead := by
  have hfew := h.few
  obtain ⟨-, -, hd⟩ := lnk_at A l i
  rcases h.a with rfl | rfl
  · unfold deadV
    show (if (1 : Int) = 2 then _ else markW (atV (cA 1 ((20 : Nat) : Int)) W ((i : Int) + 3) 1)) = _
    rw [if_neg (by decide), ← predN_s, show (1 : Int) = ((1 : Nat) : Int) from rfl, atV_node (A := ((1 : Nat) : Int)) (.inl rfl) (by omega) (by omega), (h.vt i hi).1]
    unfold vwd markW
    rw [if_pos rfl]
    cases (ndAt l i).dead
    · exact decide_eq_false (by simp)
    · exact decide_eq_true (by simp)
  · unfold deadV
    show (if (2 : Int) = 2 then markN (lnk 2 l) 0 i else _) = _
    rw [if_pos rfl]
    unfold markN
    rw [hd, if_pos rfl, lnk_len, decide_eq_true hi]; rfl
theorem Laid.key (h : Laid W A l) {i : Nat} (hi : i < l.length) : atV (cA A ((20 : Nat) : Int)) W ((i : Int) + 3) 0 = (ndAt l i).key * 4294967296 + i := by
  have hfew := h.few
  rw [← predN_s, show (0 : Int) = ((0 : Nat) : Int) from rfl, atV_node h.a (by omega) (by omega)]
  have := h.ly.order i (by rw [lnk_len]; exact hi)
  rw [(lnk_at A l i).1] at this
  rw [← this]
  unfold adr
  rw [predN_nat, if_neg (by omega), show i + 1 + 2 - 1 = i + 2 by omega, Nat.add_zero]
theorem Laid.tl (h : Laid W A l) {i : Nat} (hi : i < l.length) : atV (cA A ((20 : Nat) : Int)) W ((i : Int) + 3) 3 = (ndAt l i).tall := by
  have hfew := h.few
  rw [← predN_s, show (3 : Int) = ((3 : Nat) : Int) from rfl, atV_node h.a (by omega) (by omega)]
  exact (h.vt i hi).2
theorem Laid.pair (h : Laid W A l) {i : Nat} (hi : i < l.length) : pairV (cA A ((20 : Nat) : Int)) W ((i : Int) + 3) = [.int .u32 (ndAt l i).key, .int .u32 (ndAt l i).val] := by
  have hfew := h.few
  have hu := h.u.at_ hi
  have hv : atV (cA A ((20 : Nat) : Int)) W ((i : Int) + 3) 1 = vwd A (ndAt l i) := by
    rw [← predN_s, show (1 : Int) = ((1 : Nat) : Int) from rfl, atV_node h.a (by omega) (by omega)]
    exact (h.vt i hi).1
  unfold pairV
  rw [h.key hi, hv]
  have e1 : ((ndAt l i).key * 4294967296 + (i : Int)) / 4294967296 = (ndAt l i).key := by omega
  rw [e1]
  have e2 : (if (cA A ((20 : Nat) : Int)).A = 1 then IntKind.u32.wrap (vwd A (ndAt l i) / 2) else IntKind.u32.wrap (vwd A (ndAt l i))) = (ndAt l i).val := by
    show (if A = 1 then _ else _) = _
    unfold vwd
    by_cases h1 : A = 1
    · rw [if_pos h1, if_pos h1]
      have : (2 * (ndAt l i).val + (if (ndAt l i).dead = true then 1 else 0)) / 2 = (ndAt l i).val := by split <;> omega
      rw [this, IntKind.wrap_u32]; omega
    · rw [if_neg h1, if_neg h1, IntKind.wrap_u32]; omega
  rw [e2]
def liveP (l : List Nd) (i : Nat) : Bool := !(ndAt l i).dead
def deadP (l : List Nd) (i : Nat) : Bool := (ndAt l i).dead
theorem tallIx_0 (h : Laid W A l) : tallIx l 0 = List.range l.length := by
  unfold tallIx
  rw [List.filter_eq_self]
  intro i hi
  have := (h.tall (List.mem_range.1 hi)).1
  unfold tallP
  exact decide_eq_true (by omega)
end
theorem flat2_at {α : Type} (f : α → List Value) (hf : ∀ x, ∃ a b, f x = [a, b]) : ∀ (L : List α) (k : Nat) (x : α), L[k]? = some x → (L.flatMap f)[k * 2]? = (f x)[0]? ∧ (L.flatMap f)[k * 2 + 1]? = (f x)[1]? := by
  intro L
  induction L with
  | nil => intro k x h; cases h
  | cons y L ih =>
    intro k x h
    obtain ⟨a, b, e⟩ := hf y
    have e1 : (y :: L).flatMap f = a :: b :: L.flatMap f := by simp [e]
    rw [e1]
    cases k with
    | zero =>
      have : y = x := Option.some.inj h
      subst this
      rw [e]; exact ⟨rfl, rfl⟩
    | succ k =>
      rw [show (k + 1) * 2 = k * 2 + 2 by omega]
      exact ih k x h
end Go.Proofs.YtbnbbafffihapaaGreat

