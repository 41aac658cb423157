/- Joined: Ra V22 Rb Rc Rd Re Rf Rg Rh Ri Rj. -/
import Derived.Test.YtbnbbafffihapaaJ4
import Derived.Test.YtbnbbafffihapaaV17
import Derived.MapKept
import Derived.Test.YtbnbbafffihapaaJ2
import Derived.Test.YtbnbbafffihapaaJ3
import Derived.Test.YtbnbbafffihapaaJ5
/- A queue's view (skip): words, rows. -/
namespace Go.Proofs.Ytbnbbafffihapaa
open Go.RowKit
attribute [local irreducible] Instr.loadAt Instr.storeAt Instr.fieldAt Instr.indexAt Instr.sliceAt Instr.buildSlice Instr.box Instr.alloc Builtin.append_ Builtin.len_ Builtin.min_ Builtin.max_ Calls Instr.build Instr.makeSlice binSem convert Instr.index Instr.range Instr.next
abbrev TVw : Nat := 85
abbrev TSt : Nat := 92
abbrev TSts : Nat := 89
theorem node_bd {c : Cf} (hr : rightC c) (n f : Int) : c.node n f = -1 ∨ (0 ≤ c.node n f ∧ c.node n f < sizeP c.A c.T c.N c.L) := by
  obtain ⟨A, T, N, L, B, P, S⟩ := c
  obtain ⟨b1, b2, b3, b4, b5, b6, b7, b8, b9, b10, b11, b12⟩ := plan_bd hr
  unfold Cf.node nodeA
  split
  · rename_i h
    have h : (1 ≤ n ∧ n ≤ N) ∧ 0 ≤ f ∧ f ≤ widthP A L - 1 := h
    right
    have h1 : 0 * widthP A L ≤ (n - 1) * widthP A L := Int.mul_le_mul_of_nonneg_right (by omega) (by omega)
    have h2 : ((n - 1) + 1) * widthP A L ≤ N * widthP A L := Int.mul_le_mul_of_nonneg_right (by omega) (by omega)
    rw [Int.add_mul, Int.one_mul] at h2
    generalize (n - 1) * widthP A L = z at *
    show 0 ≤ nodesP A T N L + z + f ∧ nodesP A T N L + z + f < sizeP A T N L
    omega
  · exact .inl rfl
def viewC (c : Cf) (v : Value) : Array Value := ((planC c).toList ++ [v]).toArray
theorem viewC_len (c : Cf) (v : Value) : (viewC c v).toList.length = 16 := by obtain ⟨A, T, N, L, B, P, S⟩ := c; rfl
theorem viewC_one (c : Cf) (a : Option Addr) (n k : Nat) : (viewC c (.slice a n k)).toList.all (·.oneCell') = true := by obtain ⟨A, T, N, L, B, P, S⟩ := c; rfl
theorem viewC_at (c : Cf) (v : Value) (j : Nat) (x : Value) (h : (planC c).toList[j]? = some x) : (viewC c v)[j]? = some x := by
  unfold viewC
  have hj : j < (planC c).toList.length := by
    rcases Nat.lt_or_ge j (planC c).toList.length with h1 | h1
    · exact h1
    · rw [List.getElem?_eq_none h1] at h; cases h
  rw [List.getElem?_toArray, List.getElem?_append_left hj]; exact h
theorem viewC_v (c : Cf) (v : Value) : (viewC c v)[15]? = some v := by obtain ⟨A, T, N, L, B, P, S⟩ := c; rfl
/-- a node's word -/
def atV (c : Cf) (W : List Int) (n f : Int) : Int := if c.node n f < 0 then 0 else W.getD (c.node n f).toNat 0
theorem atV_u {c : Cf} {W : List Int} (hu : ∀ x ∈ W, u64R x) (n f : Int) : u64R (atV c W n f) := by
  unfold atV
  split
  · exact ⟨by decide, by decide⟩
  · exact u64_getD hu _
/-- a view in memory -/
structure VwAt (w : World) (c : Cf) (v : Value) (W : List Int) : Prop where
  r : rightC c
  s : Sl w 47 1 v W.length (W.map (.int .u64))
  l : W.length = (sizeP c.A c.T c.N c.L).toNat
  u : ∀ x ∈ W, u64R x
section
variable {w w' : World} {c : Cf} {v : Value} {W : List Int}
theorem VwAt.upd0 (h : VwAt w c v W) (hu : Upd [] w w') : VwAt w' c v W := ⟨h.r, h.s.upd hu (by simp), h.l, h.u⟩
theorem VwAt.form (h : VwAt w c v W) : ∃ a n k, v = .slice a n k := by
  obtain ⟨a, cap, he, -⟩ := h.s.form
  exact ⟨a, _, cap, he⟩
/-- the plan of a view in a block -/
theorem vplan {K : Value → World → Prop} {b T : Nat} (hb : Blk w b T (viewC c v)) (k : K (.agg (planC c)) w) : RunP Try.prog (Instr.loadAt 58 (.pointer (some ⟨b, 0, none⟩))) K w :=
  lda (planC c).toList (planC_len c) (fun j x hx => by rw [Nat.zero_add, hb.cell]; exact viewC_at c v j x hx) (by simpa using k)
set_option maxRecDepth 10000 in
theorem at_c (h : VwAt w c v W) (n f : Int) : Fn Try.prog 76 #[.agg (viewC c v), .int .i64 n, .int .i64 f] w fun r w' => r = .int .u64 (atV c W n f) ∧ Upd [] w w' := by
  obtain ⟨va, vn, vk, rfl⟩ := h.form
  refine fn_enter Try.func76 rfl rfl ?_
  refine bx fun w1 hb1 hu1 hs1 => ?_
  have hb1 : Blk w1 w.heap.size TVw (viewC c (.slice va vn vk)) := hb1
  refine fa ?_
  refine vplan hb1 ?_
  refine cl (node_a2 h.r n f w1) ?_
  rintro _ w2 ⟨rfl, hu2⟩
  have hU2 := hu1.trans hu2
  have hbd := node_bd h.r n f
  have hl := h.l
  refine cd (fun hneg => ?_) (fun hneg => ?_)
  · exact ⟨by unfold atV; rw [if_pos hneg]; rfl, hU2⟩
  · refine fa ?_
    refine ldb (hb1.upd hu2 (by simp)) (viewC_v c _) ?_
    have h2 := h.upd0 hU2
    obtain ⟨b, o, cap, he, -⟩ := h2.s.some_ (by omega)
    cases he
    refine ix (c.node n f).toNat (by omega) (by omega) ?_
    refine ld (v := .int .u64 (W.getD (c.node n f).toNat 0)) (h2.s.getD_ rfl _ (by omega)) ?_
    exact ⟨by unfold atV; rw [if_neg hneg]; rfl, hU2⟩
end
def stopsV (l : List (Int × Bool)) : List Value := l.flatMap fun s => [.int .i64 s.1, .bool s.2]
theorem stopsV_snoc (l : List (Int × Bool)) (s : Int × Bool) : stopsV (l ++ [s]) = stopsV l ++ [.int .i64 s.1, .bool s.2] := by simp [stopsV]
/-- a row's nodes, from a word on -/
def rowF (c : Cf) (W : List Int) (i : Int) : Nat → Int → List (Int × Bool)
  | 0, _ => []
  | m + 1, x => if ptrW x ≤ 2 then [] else (ptrW x, markW x) :: rowF c W i m (atV c W (ptrW x) (5 + i))
def rowV (c : Cf) (W : List Int) (i : Int) : List (Int × Bool) := rowF c W i c.N.toNat (atV c W 1 (5 + i))
theorem rowF_len (c : Cf) (W : List Int) (i : Int) (m : Nat) : ∀ x, (rowF c W i m x).length ≤ m := by
  induction m with
  | zero => intro x; exact Nat.le_refl _
  | succ m ih =>
    intro x
    unfold rowF
    split
    · exact Nat.zero_le _
    · exact Nat.succ_le_succ (ih _)
/-- a list of the call's own -/
structure Gr (w0 w : World) (e n : Nat) (v : Value) (len : Nat) (xs : List Value) : Prop where
  s : Sl w e n v len xs
  f : Fresh w0 v
theorem Gr.upd0 {w0 w w' : World} {e n : Nat} {v : Value} {len : Nat} {xs : List Value} (h : Gr w0 w e n v len xs) (hu : Upd [] w w') : Gr w0 w' e n v len xs := ⟨h.s.upd hu (by simp), h.f⟩
theorem Gr.nil_ (w0 w : World) (e n : Nat) : Gr w0 w e n (.slice none 0 0) 0 [] := ⟨Sl.nil_ _ _ _, Fresh.nil_ _⟩
/-- behind an append -/
theorem Gr.app {w0 w w1 w2 : World} {e n : Nat} {v v' : Value} {len len' : Nat} {xs xs' : List Value} (h : Gr w0 w e n v len xs) (hU : Upd [] w0 w1) (hs : Sl w2 e n v' len' xs') (hG : Grow w1 w2 v v') : Gr w0 w2 e n v' len' xs' ∧ Upd [] w0 w2 := by
  refine ⟨⟨hs, fun g hg => ?_⟩, hU.step hG.up fun g hg => ?_⟩
  · rcases hG.own g hg with h1 | h1
    · exact h.f g h1
    · have := hU.size; omega
  · exact .inr (h.f g (by simpa using hg))
section
variable {w w' : World} {c : Cf} {v : Value} {W : List Int}
set_option maxRecDepth 10000 in
theorem row_c (h : VwAt w c v W) (i : Int) (hi : 0 ≤ i ∧ i ≤ 100) : Fn Try.prog 42 #[.agg (viewC c v), .int .i64 i] w fun r w' => Gr w w' TSt 2 r (rowV c W i).length (stopsV (rowV c W i)) ∧ Upd [] w w' := by
  obtain ⟨va, vn, vk, rfl⟩ := h.form
  have hN : 1 ≤ c.N ∧ c.N ≤ 64 := N_bd h.r
  refine fn_enter Try.func42 rfl rfl ?_
  refine bx fun w1 hb1 hu1 hs1 => ?_
  have hb1 : Blk w1 w.heap.size TVw (viewC c (.slice va vn vk)) := hb1
  refine ldw hb1 (viewC_len _ _) ?_
  refine ar64 (by omega) ?_
  refine cl (at_c (h.upd0 hu1) 1 (5 + i)) ?_
  rintro _ w2 ⟨rfl, hu2⟩
  have hU2 := hu1.trans hu2
  have hb2 := hb1.upd hu2 (by simp)
  refine fa ?_
  refine vplan hb2 ?_
  refine cl (conf_c2 c w2) ?_
  rintro _ w3 ⟨rfl, hu3⟩
  refine fl (v := .int .i64 c.N) (by obtain ⟨A, T, N, L, B, P, S⟩ := c; rfl) ?_
  have hU3 := hU2.trans hu3
  have hb3 := hb2.upd hu3 (by simp)
  unfold rowV
  obtain ⟨M, hM⟩ : ∃ M : Nat, c.N = (M : Int) := ⟨_, (Int.toNat_of_nonneg (by omega)).symm⟩
  rw [hM, Int.toNat_natCast]
  have hx0 := atV_u (c := c) h.u 1 (5 + i)
  generalize hL : rowF c W i M (atV c W 1 (5 + i)) = L
  have hLl : L.length ≤ M := by rw [← hL]; exact rowF_len _ _ _ _ _
  generalize atV c W 1 (5 + i) = x0 at *
  refine loop_rule [1, 2, 14] [5, 6, 15] (fun vs w' m => ∃ (k : Nat) (lv : Value) (l : List (Int × Bool)) (x : Int), vs = [lv, .int .u64 x, .int .i64 (k : Int)] ∧ k ≤ M ∧ m = M - k ∧ l.length = k ∧ L = l ++ rowF c W i (M - k) x ∧ u64R x ∧ Gr w w' TSt 2 lv l.length (stopsV l) ∧ Upd [] w w' ∧ Blk w' w.heap.size TVw (viewC c (.slice va vn vk))) rfl [.slice none 0 0, .int .u64 x0, .int .i64 0] M rfl
    ⟨0, _, [], x0, rfl, by omega, rfl, rfl, by rw [← hL]; rfl, hx0, Gr.nil_ _ _ _ _, hU3, hb3⟩ ?_
  rintro _ w4 m ⟨k, lv, l, x, rfl, hk, rfl, hlk, hLe, hx, hG, hU4, hb4⟩
  have h4 := h.upd0 hU4
  refine cd (fun hlt => ?_) (fun hlt => ?_)
  · obtain ⟨q, hq⟩ : ∃ q, M - k = q + 1 := ⟨M - k - 1, by omega⟩
    rw [hq, rowF] at hLe
    refine cl (wptr_c hx w4) ?_
    rintro _ w4 ⟨rfl, rfl⟩
    refine cd (fun h2 => ?_) (fun h2 => ?_)
    · rw [if_pos h2, List.append_nil] at hLe
      rw [hLe]
      exact ⟨hG, hU4⟩
    · rw [if_neg h2] at hLe
      refine cl (wptr_c hx w4) ?_
      rintro _ w4 ⟨rfl, rfl⟩
      refine cl (wmark_c hx w4) ?_
      rintro _ w4 ⟨rfl, rfl⟩
      refine bd #[.int .i64 (ptrW x), .bool (markW x)] (fun _ => by kernel_rfl) ?_
      refine bs #[.int .i64 (ptrW x), .bool (markW x)] (fun _ => by kernel_rfl) fun w5 hb5 hu5 hs5 => ?_
      refine apg (hG.upd0 hu5).s hb5 rfl rfl (by decide) (by simp only [maxLen]; omega) (by omega) fun lv2 w6 hs6 hG6 => ?_
      obtain ⟨hg6, hU6⟩ := (hG.upd0 hu5).app (hU4.trans hu5) hs6 hG6
      have hvb : w.heap.size ∉ lv.ownBlock.toList := fun hm => by
        have hm' : lv.ownBlock = some w.heap.size := by simpa using hm
        exact absurd hm' (hG.s.blk_ne hb4 (by decide))
      have hb6 := (hb4.upd hu5 (by simp)).upd hG6.up hvb
      have h6 := h.upd0 hU6
      have hp := ptrW_bd (x := x)
      refine draw_all (fun w' => Upd [] w6 w') (by decide +kernel) (Upd.refl [] w6).drew ?_
      refine rq (.agg (viewC c (.slice va vn vk))) (fun w' hw' => ldw (hb6.upd hw' (by simp)) (viewC_len _ _) ⟨rfl, rfl⟩) ?_
      refine q_cl (.int .i64 (ptrW x)) (fun w' hw' => (wptr_c hx w').mono fun _ _ ⟨u, he, h1, h2⟩ => ⟨u, he, h1, by rw [h2]; exact hw'⟩) ?_
      refine q_ar64 (by omega) ?_
      refine q_cl (.int .u64 (atV c W (ptrW x) (5 + i))) (fun w' hw' => (at_c (h6.upd0 hw') (ptrW x) (5 + i)).mono fun _ _ ⟨u, he, h1, h2⟩ => ⟨u, he, h1, hw'.trans h2⟩) ?_
      intro w7 hu7
      refine ar64 (by omega) ?_
      refine round_mk [lv2, .int .u64 (atV c W (ptrW x) (5 + i)), .int .i64 ((k + 1 : Nat) : Int)] (M - (k + 1)) rfl rfl ⟨k + 1, lv2, l ++ [(ptrW x, markW x)], _, rfl, by omega, rfl, by simp [hlk], ?_, atV_u h.u _ _, ?_, hU6.trans hu7, hb6.upd hu7 (by simp)⟩ (by omega)
      · rw [hLe, show M - (k + 1) = q by omega]; simp
      · rw [stopsV_snoc, List.length_append]
        exact hg6.upd0 hu7
  · rw [show M - k = 0 by omega, rowF, List.append_nil] at hLe
    rw [hLe]
    exact ⟨hG, hU4⟩
end
end Go.Proofs.Ytbnbbafffihapaa

/- Maps whose keys are ints. -/
namespace Go.Proofs.Ytbnbbafffihapaa
open Go.RowKit
attribute [local irreducible] Instr.loadAt Instr.storeAt Instr.fieldAt Instr.indexAt Instr.sliceAt Instr.buildSlice Instr.box Instr.alloc Builtin.append_ Builtin.len_ Builtin.min_ Builtin.max_ Calls Instr.build Instr.makeSlice binSem convert Instr.index Instr.range Instr.next

attribute [local irreducible] Instr.lookup Instr.mapUpdate Instr.makeMap Builtin.delete_ zeroValue
class MapT (P : Program) (t : Nat) (k : outParam Nat) (e : outParam Nat) : Prop where
  t : P.underlying t = some (.map k e)
  k : P.underlying k = some (.int .i64)
class ZeroT (P : Program) (e : Nat) (z : outParam Value) : Prop where
  h : (P.info? e).map (fun i => i.zero) = some (some z)
/-- block b is a map that holds f -/
def MapF (w : World) (b : Nat) (f : Int → Option Value) : Prop :=
  ∃ es clock, w.heap[b]? = some (.map es clock) ∧ (∀ x ∈ es.toList, ∃ k, x.key = .int .i64 k) ∧ (es.toList.map (·.key)).Nodup ∧ ∀ k v, f k = some v ↔ ∃ x ∈ es.toList, x.key = .int .i64 k ∧ x.val = v
def updF (f : Int → Option Value) (k : Int) (v : Option Value) : Int → Option Value := fun j => if j = k then v else f j
section
variable {w w' : World} {b : Nat} {f : Int → Option Value}
theorem MapF.lt (h : MapF w b f) : b < w.heap.size := by
  obtain ⟨es, clock, hb, -⟩ := h
  exact (Array.getElem?_eq_some_iff.1 hb).1
theorem MapF.upd {S : List Nat} (h : MapF w b f) (hu : Upd S w w') (hS : b ∉ S) : MapF w' b f := by
  have hlt := h.lt
  obtain ⟨es, clock, hb, r⟩ := h
  exact ⟨es, clock, (hu.block b hlt hS).trans hb, r⟩
theorem MapF.drew (h : MapF w b f) : MapF w.drew b f := h
theorem keys_is {es : Array MapEntry} (h : ∀ x ∈ es.toList, ∃ k, x.key = .int .i64 k) : ∀ x ∈ es.toList, MapKept.IsKey (.int .i64) x.key := fun x hx => by
  obtain ⟨k, e⟩ := h x hx
  rw [e]; rfl
theorem upd_set {w : World} {r : Nat} {o o' : Obj} : Upd [r] w { w with heap := w.heap.setIfInBounds r o' } := by
  refine ⟨rfl, rfl, rfl, by simp, fun k hk hn => ?_⟩
  have hne : r ≠ k := fun e => hn (by simp [e])
  simp [hne]
theorem run_zero {P : Program} {e : Nat} {z : Value} [h : ZeroT P e z] (w : World) : (zeroValue e).run P w = .ok z w := by
  have h := h.h
  cases hi : P.info? e with
  | none => rw [hi] at h; cases h
  | some i =>
    rw [hi] at h
    have hz : i.zero = some z := Option.some.inj h
    unfold zeroValue typeInfo
    simp [hi, hz, Result.andThen, Sem.run_bind]
end
section
variable {P : Program} {K : Value → World → Prop} {w : World} {b : Nat} {f : Int → Option Value}
theorem mkm {t : Nat} (k : ∀ w', MapF w' w.heap.size (fun _ => none) → Upd [] w w' → w'.heap.size = w.heap.size + 1 → K (.map (some w.heap.size)) w') : RunP P (Instr.makeMap t none) K w := by
  refine rn (.map (some w.heap.size)) (w.alloc (.map #[] 0)) (by unfold Instr.makeMap; simp [Result.andThen]) (k _ ⟨#[], 0, (MapKept.heap_alloc w _).1, by simp, by simp, by simp⟩ ((Upd.refl [] w).alloc _) ?_)
  show (w.heap.push _).size = _
  simp
theorem look_f {t kt e : Nat} {z : Value} [T : MapT P t kt e] [ZeroT P e z] (h : MapF w b f) (key : Int) : (Instr.lookup t (.map (some b)) (.int .i64 key) true).run P w = .ok (match f key with | some v => .tuple #[v, .bool true] | none => .tuple #[z, .bool false]) w ∧ (Instr.lookup t (.map (some b)) (.int .i64 key) false).run P w = .ok (match f key with | some v => v | none => z) w := by
  obtain ⟨es, clock, hb, hk, hn, hf⟩ := h
  have hkey : MapKept.IsKey (.int .i64) (.int .i64 key) := rfl
  rcases MapKept.findNow_spec hkey es.toList 0 (keys_is hk) with ⟨h1, h2⟩ | ⟨j, x, h1, h2, h3⟩
  · have e1 : f key = none := by
      cases hfk : f key with
      | none => rfl
      | some v =>
        obtain ⟨x, hx, hxk, -⟩ := (hf key v).1 hfk
        exact absurd hxk (h2 x hx)
    rw [e1]
    constructor <;> (unfold Instr.lookup; simp [run_underlying T.t, MapKept.run_getObj_map hb, MapKept.run_checkKey T.k hkey, MapKept.run_findKey T.k h1, run_zero, Result.andThen, Sem.run_bind])
  · have e1 : f key = some x.val := (hf key x.val).2 ⟨x, List.mem_of_getElem? h2, h3, rfl⟩
    rw [e1]
    constructor <;> (unfold Instr.lookup; simp [run_underlying T.t, MapKept.run_getObj_map hb, MapKept.run_checkKey T.k hkey, MapKept.run_findKey T.k h1, Result.andThen, Sem.run_bind])
/-- v, ok := m[k] -/
theorem mlk {t kt e : Nat} {z : Value} [MapT P t kt e] [ZeroT P e z] (h : MapF w b f) {key : Int} (k : K (match f key with | some v => .tuple #[v, .bool true] | none => .tuple #[z, .bool false]) w) : RunP P (Instr.lookup t (.map (some b)) (.int .i64 key) true) K w := rn _ _ (look_f h key).1 k
theorem mlk1 {t kt e : Nat} {z : Value} [MapT P t kt e] [ZeroT P e z] (h : MapF w b f) {key : Int} (k : K (match f key with | some v => v | none => z) w) : RunP P (Instr.lookup t (.map (some b)) (.int .i64 key) false) K w := rn _ _ (look_f h key).2 k
theorem mlk0 {t kt e : Nat} {z : Value} [T : MapT P t kt e] [ZeroT P e z] {key : Int} (k : K (.tuple #[z, .bool false]) w) : RunP P (Instr.lookup t (.map none) (.int .i64 key) true) K w := by
  refine rn _ w ?_ k
  have hkey : MapKept.IsKey (.int .i64) (.int .i64 key) := rfl
  unfold Instr.lookup
  simp [run_underlying T.t, MapKept.run_checkKey T.k hkey, MapKept.run_findKey (l := []) T.k rfl, run_zero, Result.andThen, Sem.run_bind]
theorem split_at {α : Type} {l : List α} {j : Nat} {x : α} (h : l[j]? = some x) : l = l.take j ++ x :: l.drop (j + 1) ∧ j < l.length := by
  obtain ⟨hj, rfl⟩ := List.getElem?_eq_some_iff.1 h
  exact ⟨by rw [List.getElem_cons_drop, List.take_append_drop], hj⟩
/-- m[k] = v -/
theorem mup {K : World → Prop} {t kt e : Nat} [T : MapT P t kt e] (h : MapF w b f) {key : Int} {v : Value} (k : ∀ w', MapF w' b (updF f key (some v)) → Upd [b] w w' → w'.heap.size = w.heap.size → K w') : RunU P (Instr.mapUpdate t (.map (some b)) (.int .i64 key) v) K w := by
  obtain ⟨es, clock, hb, hk, hn, hf⟩ := h
  have hkey : MapKept.IsKey (.int .i64) (.int .i64 key) := rfl
  rcases MapKept.findNow_spec hkey es.toList 0 (keys_is hk) with ⟨h1, h2⟩ | ⟨j, x, h1, h2, h3⟩
  · refine ⟨⟨{ w with heap := w.heap.setIfInBounds b (.map (es.push { key := .int .i64 key, val := v, born := clock }) (clock + 1)) }, ?_, k _ ⟨_, _, (MapKept.heap_set hb).1, ?_, ?_, ?_⟩ (upd_set (o := .map es clock)) (by simp)⟩⟩
    · unfold Instr.mapUpdate
      simp [run_underlying T.t, MapKept.run_getObj_map hb, MapKept.run_checkKey T.k hkey, MapKept.run_findKey T.k h1, MapKept.run_setObj_map _ hb, Result.andThen, Sem.run_bind]
    · intro x hx
      simp only [Array.toList_push, List.mem_append, List.mem_singleton] at hx
      rcases hx with hx | rfl
      · exact hk x hx
      · exact ⟨key, rfl⟩
    · simp only [Array.toList_push, List.map_append, List.map_cons, List.map_nil]
      refine List.nodup_append.2 ⟨hn, by simp, fun a ha c hc => ?_⟩
      obtain ⟨x, hx, rfl⟩ := List.mem_map.1 ha
      rw [List.mem_singleton.1 hc]
      exact h2 x hx
    · intro q u
      simp only [Array.toList_push, List.mem_append, List.mem_singleton]
      unfold updF
      by_cases hq : q = key
      · subst hq
        rw [if_pos rfl]
        constructor
        · intro e; cases e; exact ⟨_, .inr rfl, rfl, rfl⟩
        · rintro ⟨x, hx | rfl, hxk, hxv⟩
          · exact absurd hxk (h2 x hx)
          · exact congrArg some hxv
      · rw [if_neg hq, hf q u]
        constructor
        · rintro ⟨x, hx, r⟩; exact ⟨x, .inl hx, r⟩
        · rintro ⟨x, hx | rfl, hxk, hxv⟩
          · exact ⟨x, hx, hxk, hxv⟩
          · exact absurd (by injection hxk with _ e; exact e.symm) hq
  · obtain ⟨hsp, hj⟩ := split_at h2
    have hjs : j < es.size := by simpa using hj
    have hm : (es.modify j fun e => { e with key := .int .i64 key, val := v }).toList = es.toList.take j ++ { x with key := .int .i64 key, val := v } :: es.toList.drop (j + 1) := by
      rw [Array.toList_modify]
      have e1 : es.toList.modify j (fun e => { e with key := .int .i64 key, val := v }) = es.toList.set j { x with key := .int .i64 key, val := v } := by
        apply List.ext_getElem?
        intro i
        rw [List.getElem?_modify, List.getElem?_set]
        by_cases hi : j = i
        · subst hi
          rw [h2]; simp [hjs]
        · simp [hi]
      rw [e1, List.set_eq_take_append_cons_drop, if_pos hj]
    have hx : es[j]? = some x := by simpa using h2
    refine ⟨⟨{ w with heap := w.heap.setIfInBounds b (.map (es.modify j fun e => { e with key := .int .i64 key, val := v }) clock) }, ?_, k _ ⟨_, _, (MapKept.heap_set hb).1, ?_, ?_, ?_⟩ (upd_set (o := .map es clock)) (by simp)⟩⟩
    · unfold Instr.mapUpdate
      simp [run_underlying T.t, MapKept.run_getObj_map hb, MapKept.run_checkKey T.k hkey, MapKept.run_findKey T.k h1, hx, h3, MapKept.run_keyThatStays hkey, MapKept.run_setObj_map _ hb, Result.andThen, Sem.run_bind]
    · rw [hm]
      intro y hy
      simp only [List.mem_append, List.mem_cons] at hy
      rcases hy with hy | rfl | hy
      · exact hk y (List.mem_of_mem_take hy)
      · exact ⟨key, rfl⟩
      · exact hk y (List.mem_of_mem_drop hy)
    · rw [hm]
      rw [hsp] at hn
      simp only [List.map_append, List.map_cons] at hn ⊢
      rw [h3] at hn
      exact hn
    · intro q u
      rw [hm]
      rw [hsp] at hn
      simp only [List.map_append, List.map_cons] at hn
      rw [h3] at hn
      obtain ⟨n1, n2, n3⟩ := List.nodup_append.1 hn
      obtain ⟨n4, n5⟩ := List.nodup_cons.1 n2
      have o1 : ∀ y ∈ es.toList.take j, y.key ≠ .int .i64 key := fun y hy e => n3 _ (List.mem_map.2 ⟨y, hy, rfl⟩) _ List.mem_cons_self e
      have o2 : ∀ y ∈ es.toList.drop (j + 1), y.key ≠ .int .i64 key := fun y hy e => n4 (List.mem_map.2 ⟨y, hy, e⟩)
      simp only [List.mem_append, List.mem_cons]
      unfold updF
      by_cases hq : q = key
      · subst hq
        rw [if_pos rfl]
        constructor
        · intro e; cases e; exact ⟨_, .inr (.inl rfl), rfl, rfl⟩
        · rintro ⟨y, hy | rfl | hy, hyk, hyv⟩
          · exact absurd hyk (o1 y hy)
          · exact congrArg some hyv
          · exact absurd hyk (o2 y hy)
      · rw [if_neg hq, hf q u]
        constructor
        · rintro ⟨y, hy, hyk, hyv⟩
          rw [hsp] at hy
          simp only [List.mem_append, List.mem_cons] at hy
          rcases hy with hy | rfl | hy
          · exact ⟨y, .inl hy, hyk, hyv⟩
          · rw [h3] at hyk
            exact absurd (by injection hyk with _ e; exact e.symm) hq
          · exact ⟨y, .inr (.inr hy), hyk, hyv⟩
        · rintro ⟨y, hy | rfl | hy, hyk, hyv⟩
          · exact ⟨y, List.mem_of_mem_take hy, hyk, hyv⟩
          · exact absurd (by injection hyk with _ e; exact e.symm) hq
          · exact ⟨y, List.mem_of_mem_drop hy, hyk, hyv⟩
/-- delete(m, k) -/
theorem mdl {t kt e ty : Nat} [T : MapT P t kt e] (h : MapF w b f) {key : Int} (k : ∀ w', MapF w' b (updF f key none) → Upd [b] w w' → w'.heap.size = w.heap.size → K (.tuple #[]) w') : RunP P (Builtin.delete_ #[t, kt] ty #[.map (some b), .int .i64 key]) K w := by
  obtain ⟨es, clock, hb, hk, hn, hf⟩ := h
  have hkey : MapKept.IsKey (.int .i64) (.int .i64 key) := rfl
  rcases MapKept.findNow_spec hkey es.toList 0 (keys_is hk) with ⟨h1, h2⟩ | ⟨j, x, h1, h2, h3⟩
  · refine rn (.tuple #[]) { w with heap := w.heap.setIfInBounds b (.map es clock) } ?_ (k _ ⟨es, clock, (MapKept.heap_set hb).1, hk, hn, ?_⟩ (upd_set (o := .map es clock)) (by simp))
    · unfold Builtin.delete_
      simp [run_underlying T.t, MapKept.run_getObj_map hb, MapKept.run_checkKey T.k hkey, MapKept.run_findKey T.k h1, MapKept.run_setObj_map _ hb, Result.andThen, Sem.run_bind]
    · intro q u
      unfold updF
      by_cases hq : q = key
      · subst hq
        rw [if_pos rfl]
        constructor
        · intro e; cases e
        · rintro ⟨x, hx, hxk, -⟩; exact absurd hxk (h2 x hx)
      · rw [if_neg hq]; exact hf q u
  · obtain ⟨hsp, hj⟩ := split_at h2
    have hjs : j < es.size := by simpa using hj
    have hm : (es.eraseIdxIfInBounds j).toList = es.toList.take j ++ es.toList.drop (j + 1) := by
      unfold Array.eraseIdxIfInBounds
      rw [dif_pos hjs, Array.toList_eraseIdx, List.eraseIdx_eq_take_drop_succ]
    refine rn (.tuple #[]) { w with heap := w.heap.setIfInBounds b (.map (es.eraseIdxIfInBounds j) clock) } ?_ (k _ ⟨_, _, (MapKept.heap_set hb).1, ?_, ?_, ?_⟩ (upd_set (o := .map es clock)) (by simp))
    · unfold Builtin.delete_
      simp [run_underlying T.t, MapKept.run_getObj_map hb, MapKept.run_checkKey T.k hkey, MapKept.run_findKey T.k h1, MapKept.run_setObj_map _ hb, Result.andThen, Sem.run_bind]
    · rw [hm]
      intro y hy
      simp only [List.mem_append] at hy
      rcases hy with hy | hy
      · exact hk y (List.mem_of_mem_take hy)
      · exact hk y (List.mem_of_mem_drop hy)
    · rw [hm]
      rw [hsp] at hn
      simp only [List.map_append, List.map_cons] at hn ⊢
      obtain ⟨n1, n2, n3⟩ := List.nodup_append.1 hn
      exact List.nodup_append.2 ⟨n1, (List.nodup_cons.1 n2).2, fun a ha c hc => n3 a ha c (List.mem_cons_of_mem _ hc)⟩
    · intro q u
      rw [hm]
      rw [hsp] at hn
      simp only [List.map_append, List.map_cons] at hn
      rw [h3] at hn
      obtain ⟨n1, n2, n3⟩ := List.nodup_append.1 hn
      obtain ⟨n4, n5⟩ := List.nodup_cons.1 n2
      have o1 : ∀ y ∈ es.toList.take j, y.key ≠ .int .i64 key := fun y hy e => n3 _ (List.mem_map.2 ⟨y, hy, rfl⟩) _ List.mem_cons_self e
      have o2 : ∀ y ∈ es.toList.drop (j + 1), y.key ≠ .int .i64 key := fun y hy e => n4 (List.mem_map.2 ⟨y, hy, e⟩)
      simp only [List.mem_append]
      unfold updF
      by_cases hq : q = key
      · subst hq
        rw [if_pos rfl]
        constructor
        · intro e; cases e
        · rintro ⟨y, hy | hy, hyk, -⟩
          · exact absurd hyk (o1 y hy)
          · exact absurd hyk (o2 y hy)
      · rw [if_neg hq, hf q u]
        constructor
        · rintro ⟨y, hy, hyk, hyv⟩
          rw [hsp] at hy
          simp only [List.mem_append, List.mem_cons] at hy
          rcases hy with hy | rfl | hy
          · exact ⟨y, .inl hy, hyk, hyv⟩
          · rw [h3] at hyk
            exact absurd (by injection hyk with _ e; exact e.symm) hq
          · exact ⟨y, .inr hy, hyk, hyv⟩
        · rintro ⟨y, hy | hy, hyk, hyv⟩
          · exact ⟨y, List.mem_of_mem_take hy, hyk, hyv⟩
          · exact ⟨y, List.mem_of_mem_drop hy, hyk, hyv⟩
end
end Go.Proofs.Ytbnbbafffihapaa

/- skip: a queue's view; Row, Live, Dead. -/
namespace Go.Proofs.Ytbnbbafffihapaa
open Go.RowKit
attribute [local irreducible] Instr.loadAt Instr.storeAt Instr.fieldAt Instr.indexAt Instr.sliceAt Instr.buildSlice Instr.box Instr.alloc Builtin.append_ Builtin.len_ Builtin.min_ Builtin.max_ Calls Instr.build Instr.makeSlice binSem convert Instr.index Instr.range Instr.next
def deadV (c : Cf) (W : List Int) (s : Int × Bool) : Bool := if c.A = 2 then s.2 else markW (atV c W s.1 1)
def zVw : Array Value := #[.int .i64 0, .int .i64 0, .int .i64 0, .int .i64 0, .int .i64 0, .int .i64 0, .int .i64 0, .int .i64 0, .int .i64 0, .int .i64 0, .int .i64 0, .int .i64 0, .int .i64 0, .int .i64 0, .int .i64 0, .slice none 0 0]
/-- a machine that may be looked at -/
structure Qm (w : World) (X : Mc) : Prop where
  m : Mach w X
  r : rightC X.c
  l : X.s.W.length = (sizeP X.c.A X.c.T X.c.N X.c.L).toNat
  u : ∀ x ∈ X.s.W, u64R x
theorem Qm.upd0 {w w' : World} {X : Mc} (h : Qm w X) (hu : Upd [] w w') : Qm w' X := ⟨h.m.upd0 hu, h.r, h.l, h.u⟩
theorem size_lt {c : Cf} (hr : rightC c) : 0 ≤ sizeP c.A c.T c.N c.L ∧ sizeP c.A c.T c.N c.L ≤ 924 := by have := size_bd hr; omega
theorem stopsV_at (l : List (Int × Bool)) : ∀ (k : Nat), k < l.length → (stopsV l)[k * 2]? = some (.int .i64 (l.getD k (0, false)).1) ∧ (stopsV l)[k * 2 + 1]? = some (.bool (l.getD k (0, false)).2) := by
  induction l with
  | nil => intro k hk; simp at hk
  | cons s l ih =>
    intro k hk
    have e : stopsV (s :: l) = .int .i64 s.1 :: .bool s.2 :: stopsV l := rfl
    rw [e]
    cases k with
    | zero => exact ⟨rfl, rfl⟩
    | succ k =>
      have := ih k (by simpa using hk)
      rw [show (k + 1) * 2 = k * 2 + 2 by omega]
      exact this
theorem stop_ld {w : World} {K : Value → World → Prop} {b o cap : Nat} {l : List (Int × Bool)} (h : Sl w TSt 2 (.slice (some ⟨b, o, none⟩) l.length cap) l.length (stopsV l)) (k : Nat) (hk : k < l.length)
    (kk : K (.agg #[.int .i64 (l.getD k (0, false)).1, .bool (l.getD k (0, false)).2]) w) : RunP Try.prog (Instr.loadAt TSt (.pointer (some ⟨b, o + k * 2, none⟩))) K w := by
  obtain ⟨h1, h2⟩ := stopsV_at l k hk
  refine lda [.int .i64 (l.getD k (0, false)).1, .bool (l.getD k (0, false)).2] rfl (fun j v hv => ?_) kk
  have hc := h.cells rfl
  match j, hv with
  | 0, hv =>
    cases hv
    rw [show o + k * 2 + 0 = o + k * 2 from rfl, (hc (k * 2) (by omega)).1]; exact h1
  | 1, hv =>
    cases hv
    rw [show o + k * 2 + 1 = o + (k * 2 + 1) by omega, (hc (k * 2 + 1) (by omega)).1]; exact h2
  | j + 2, hv => cases hv
section
variable {w w' : World} {c : Cf} {v : Value} {W : List Int} {X : Mc}
theorem gone_c {x : Int} (hx : u64R x) (w : World) : Fn Try.prog 79 #[.int .u64 x] w fun r w' => r = .bool (markW x) ∧ w' = w := by
  refine fn_enter Try.func79 rfl rfl ?_
  refine and1 hx ?_
  exact ⟨rfl, rfl⟩
theorem okey_c {x : Int} (hx : u64R x) (w : World) : Fn Try.prog 80 #[.int .u64 x] w fun r w' => r = .int .u32 (x / 4294967296) ∧ w' = w := by
  have h1 := hx.1
  have h2 := hx.2
  refine fn_enter Try.func80 rfl rfl ?_
  refine sh_r (by decide) ?_
  refine val (x / 4294967296) (by rw [show min (32 : Int).toNat IntKind.u64.bits = 32 by decide, Int.fdiv_eq_ediv_of_nonneg _ (by decide)]; rfl) ?_
  refine cv ?_
  refine val (x / 4294967296) (by rw [IntKind.wrap_u32]; omega) ?_
  exact ⟨rfl, rfl⟩
theorem oval_c {x : Int} (hx : u64R x) (w : World) : Fn Try.prog 81 #[.int .u64 x] w fun r w' => r = .int .u32 (IntKind.u32.wrap (x / 2)) ∧ w' = w := by
  have h1 := hx.1
  have h2 := hx.2
  refine fn_enter Try.func81 rfl rfl ?_
  refine sh_r (by decide) ?_
  refine val (x / 2) (by rw [show min (1 : Int).toNat IntKind.u64.bits = 1 by decide, Int.fdiv_eq_ediv_of_nonneg _ (by decide)]; rfl) ?_
  refine cv ?_
  refine val _ rfl ?_
  exact ⟨rfl, rfl⟩
set_option maxRecDepth 10000 in
theorem vdead_c (h : VwAt w c v W) (s : Int × Bool) : Fn Try.prog 43 #[.agg (viewC c v), .agg #[.int .i64 s.1, .bool s.2]] w fun r w' => r = .bool (deadV c W s) ∧ Upd [] w w' := by
  obtain ⟨va, vn, vk, rfl⟩ := h.form
  refine fn_enter Try.func43 rfl rfl ?_
  refine bx fun w1 hb1 hu1 hs1 => ?_
  have hb1 : Blk w1 w.heap.size TVw (viewC c (.slice va vn vk)) := hb1
  refine bx fun w2 hb2 hu2 hs2 => ?_
  have hb2 : Blk w2 w1.heap.size TSt #[.int .i64 s.1, .bool s.2] := hb2
  have hb12 := hb1.upd hu2 (by simp)
  refine fa ?_
  refine vplan hb12 ?_
  refine cl (conf_c2 c w2) ?_
  rintro _ w3 ⟨rfl, hu3⟩
  refine fl (v := .int .i64 c.A) (by obtain ⟨A, T, N, L, B, P, S⟩ := c; rfl) ?_
  have hb13 := hb12.upd hu3 (by simp)
  have hb23 := hb2.upd hu3 (by simp)
  have hU3 := (hu1.trans hu2).trans hu3
  refine cd (fun hA => ?_) (fun hA => ?_)
  · refine fa ?_
    refine ldb hb23 rfl ?_
    exact ⟨by unfold deadV; rw [if_pos hA]; rfl, hU3⟩
  · refine ldw hb13 (viewC_len _ _) ?_
    refine fa ?_
    refine ldb hb23 rfl ?_
    refine cl (at_c (h.upd0 hU3) s.1 1) ?_
    rintro _ w4 ⟨rfl, hu4⟩
    refine cl (gone_c (atV_u h.u _ _) w4) ?_
    rintro _ w4 ⟨rfl, rfl⟩
    exact ⟨by unfold deadV; rw [if_neg hA]; rfl, hU3.trans hu4⟩
def pairT : MT := .rd 0 (.rd 1 (.rd 4 (.rd 5 (.fk 2 (.rd 3 (.fk 6 (.rd 7 (.rd 8 (.ef 9 .done))) (.ef 9 (.ef 6 (.rd 7 (.rd 8 .done)))))) (.ef 9 (.ef 2 (.rd 3 (.ef 6 (.rd 7 (.rd 8 .done))))))))))
def pairV (c : Cf) (W : List Int) (n : Int) : List Value := [.int .u32 (atV c W n 0 / 4294967296), .int .u32 (if c.A = 1 then IntKind.u32.wrap (atV c W n 1 / 2) else IntKind.u32.wrap (atV c W n 1))]
set_option maxRecDepth 10000 in
theorem pair_c (h : VwAt w c v W) (n : Int) : Fn Try.prog 44 #[.agg (viewC c v), .int .i64 n] w fun r w' => r = .agg (pairV c W n).toArray ∧ Upd [] w w' := by
  obtain ⟨va, vn, vk, rfl⟩ := h.form
  have hu0 := atV_u (c := c) h.u n 0
  have hu1' := atV_u (c := c) h.u n 1
  refine fn_enter Try.func44 rfl rfl ?_
  refine bx fun w1 hb1 hu1 hs1 => ?_
  have hb1 : Blk w1 w.heap.size TVw (viewC c (.slice va vn vk)) := hb1
  refine al #[.int .u32 0, .int .u32 0] (fun _ => by kernel_rfl) fun w2 hb2 hu2 hs2 => ?_
  have hb12 := hb1.upd hu2 (by simp)
  have hU2 := hu1.trans hu2
  refine draw_tree 10 pairT (fun w' => Upd [] w2 w') (by decide +kernel) (Upd.refl [] w2).drew ?_
  refine rq (.agg (viewC c (.slice va vn vk))) (fun w' hw' => ldw (hb12.upd hw' (by simp)) (viewC_len _ _) ⟨rfl, rfl⟩) ?_
  refine rq (.agg (viewC c (.slice va vn vk))) (fun w' hw' => ldw (hb12.upd hw' (by simp)) (viewC_len _ _) ⟨rfl, rfl⟩) ?_
  have Us : Upd [] w2 w2.drew := (Upd.refl [] w2).drew
  refine ⟨?_, ?_⟩
  · refine cl (at_c ((h.upd0 hU2).upd0 Us) n 0) ?_
    rintro _ wa ⟨rfl, hu_wa⟩
    have hsa := Us.trans hu_wa
    refine ⟨hsa, ?_⟩
    refine t_cl (.int .u32 (atV c W n 0 / 4294967296)) (fun w' hw' => okey_c hu0 w') ?_
    refine ⟨?_, ?_⟩
    · refine cl (at_c ((h.upd0 hU2).upd0 hsa) n 1) ?_
      rintro _ wb ⟨rfl, hu_wb⟩
      have hsb := hsa.trans hu_wb
      refine ⟨hsb, ?_⟩
      refine rq (.int .u32 (IntKind.u32.wrap (atV c W n 1))) (fun _ _ => cv (val _ rfl ⟨rfl, rfl⟩)) ?_
      refine rq (.agg #[.int .u32 (atV c W n 0 / 4294967296), .int .u32 (IntKind.u32.wrap (atV c W n 1))]) (fun _ _ => bd #[.int .u32 (atV c W n 0 / 4294967296), .int .u32 (IntKind.u32.wrap (atV c W n 1))] (fun _ => by kernel_rfl) ⟨rfl, rfl⟩) ?_
      refine al #[.int .u32 0, .int .u32 0] (fun _ => by kernel_rfl) fun wc hb_wc hu_wc hs_wc => ?_
      have hsc := hsb.trans hu_wc
      refine ⟨hsc, ?_⟩
      have hbz := hb_wc
      refine stw hbz rfl rfl rfl fun w5 hb5 hu5 hs5 => ?_
      have hg5 : w2.heap.size ≤ wb.heap.size := by have := (hsb).size; first | omega | exact this
      have hU25 : Upd [] w2 w5 := (hsc).step hu5 (fun x hx => by rw [List.mem_singleton.1 hx]; exact .inr hg5)
      have hU5 : Upd [] w w5 := hU2.trans hU25
      have hne : w1.heap.size ≠ wb.heap.size := by have h := hs2; omega
      generalize wb.heap.size = g5 at *
      have hb25 := hb2.upd hU25 (by simp)
      have hb15 := hb12.upd hU25 (by simp)
      refine fa ?_
      refine vplan hb15 ?_
      refine cl (conf_c2 c w5) ?_
      rintro _ w6 ⟨rfl, hu6⟩
      refine fl (v := .int .i64 c.A) (by obtain ⟨A, T, N, L, B, P, S⟩ := c; rfl) ?_
      have hb16 := hb15.upd hu6 (by simp)
      have hb26 := hb25.upd hu6 (by simp)
      have hb56 := hb5.upd hu6 (by simp)
      have hU6 := hU5.trans hu6
      refine cd (fun hA => ?_) (fun hA => ?_)
      · refine ldw hb16 (viewC_len _ _) ?_
        refine cl (at_c (h.upd0 hU6) n 1) ?_
        rintro _ w7 ⟨rfl, hu7⟩
        refine cl (oval_c hu1' w7) ?_
        rintro _ w7 ⟨rfl, rfl⟩
        refine fa ?_
        refine st (hb56.upd hu7 (by simp)) (by show 1 < 2; decide) rfl fun w8 hb8 hu8 hs8 => ?_
        have hb8 : Blk w8 g5 45 #[.int .u32 (atV c W n 0 / 4294967296), .int .u32 (IntKind.u32.wrap (atV c W n 1 / 2))] := hb8
        have hb28 := (hb26.upd hu7 (by simp)).upd hu8 (by simpa using hne)
        have hU8 := (hU6.trans hu7).step hu8 (by have := hU2.size; simp; omega)
        refine ldw hb8 rfl ?_
        refine stw hb28 rfl rfl rfl fun w9 hb9 hu9 hs9 => ?_
        refine rlw hb9 rfl ?_
        exact ⟨by unfold pairV; rw [if_pos hA]; rfl, (hU8).step hu9 (by have := hu1.size; simp; omega)⟩
      · refine ldw hb56 rfl ?_
        refine stw hb26 rfl rfl rfl fun w9 hb9 hu9 hs9 => ?_
        refine rlw hb9 rfl ?_
        exact ⟨by unfold pairV; rw [if_neg hA]; rfl, (hU6).step hu9 (by have := hu1.size; simp; omega)⟩
    · refine al #[.int .u32 0, .int .u32 0] (fun _ => by kernel_rfl) fun wb hb_wb hu_wb hs_wb => ?_
      have hsb := hsa.trans hu_wb
      refine ⟨hsb, ?_⟩
      refine cl (at_c ((h.upd0 hU2).upd0 hsb) n 1) ?_
      rintro _ wc ⟨rfl, hu_wc⟩
      have hsc := hsb.trans hu_wc
      refine ⟨hsc, ?_⟩
      refine rq (.int .u32 (IntKind.u32.wrap (atV c W n 1))) (fun _ _ => cv (val _ rfl ⟨rfl, rfl⟩)) ?_
      refine rq (.agg #[.int .u32 (atV c W n 0 / 4294967296), .int .u32 (IntKind.u32.wrap (atV c W n 1))]) (fun _ _ => bd #[.int .u32 (atV c W n 0 / 4294967296), .int .u32 (IntKind.u32.wrap (atV c W n 1))] (fun _ => by kernel_rfl) ⟨rfl, rfl⟩) ?_
      have hbz := hb_wb.upd hu_wc (by simp)
      refine stw hbz rfl rfl rfl fun w5 hb5 hu5 hs5 => ?_
      have hg5 : w2.heap.size ≤ wa.heap.size := by have := (hsa).size; first | omega | exact this
      have hU25 : Upd [] w2 w5 := (hsc).step hu5 (fun x hx => by rw [List.mem_singleton.1 hx]; exact .inr hg5)
      have hU5 : Upd [] w w5 := hU2.trans hU25
      have hne : w1.heap.size ≠ wa.heap.size := by have h := hs2; omega
      generalize wa.heap.size = g5 at *
      have hb25 := hb2.upd hU25 (by simp)
      have hb15 := hb12.upd hU25 (by simp)
      refine fa ?_
      refine vplan hb15 ?_
      refine cl (conf_c2 c w5) ?_
      rintro _ w6 ⟨rfl, hu6⟩
      refine fl (v := .int .i64 c.A) (by obtain ⟨A, T, N, L, B, P, S⟩ := c; rfl) ?_
      have hb16 := hb15.upd hu6 (by simp)
      have hb26 := hb25.upd hu6 (by simp)
      have hb56 := hb5.upd hu6 (by simp)
      have hU6 := hU5.trans hu6
      refine cd (fun hA => ?_) (fun hA => ?_)
      · refine ldw hb16 (viewC_len _ _) ?_
        refine cl (at_c (h.upd0 hU6) n 1) ?_
        rintro _ w7 ⟨rfl, hu7⟩
        refine cl (oval_c hu1' w7) ?_
        rintro _ w7 ⟨rfl, rfl⟩
        refine fa ?_
        refine st (hb56.upd hu7 (by simp)) (by show 1 < 2; decide) rfl fun w8 hb8 hu8 hs8 => ?_
        have hb8 : Blk w8 g5 45 #[.int .u32 (atV c W n 0 / 4294967296), .int .u32 (IntKind.u32.wrap (atV c W n 1 / 2))] := hb8
        have hb28 := (hb26.upd hu7 (by simp)).upd hu8 (by simpa using hne)
        have hU8 := (hU6.trans hu7).step hu8 (by have := hU2.size; simp; omega)
        refine ldw hb8 rfl ?_
        refine stw hb28 rfl rfl rfl fun w9 hb9 hu9 hs9 => ?_
        refine rlw hb9 rfl ?_
        exact ⟨by unfold pairV; rw [if_pos hA]; rfl, (hU8).step hu9 (by have := hu1.size; simp; omega)⟩
      · refine ldw hb56 rfl ?_
        refine stw hb26 rfl rfl rfl fun w9 hb9 hu9 hs9 => ?_
        refine rlw hb9 rfl ?_
        exact ⟨by unfold pairV; rw [if_neg hA]; rfl, (hU6).step hu9 (by have := hu1.size; simp; omega)⟩
  · refine al #[.int .u32 0, .int .u32 0] (fun _ => by kernel_rfl) fun wa hb_wa hu_wa hs_wa => ?_
    have hsa := Us.trans hu_wa
    refine ⟨hsa, ?_⟩
    refine cl (at_c ((h.upd0 hU2).upd0 hsa) n 0) ?_
    rintro _ wb ⟨rfl, hu_wb⟩
    have hsb := hsa.trans hu_wb
    refine ⟨hsb, ?_⟩
    refine t_cl (.int .u32 (atV c W n 0 / 4294967296)) (fun w' hw' => okey_c hu0 w') ?_
    refine cl (at_c ((h.upd0 hU2).upd0 hsb) n 1) ?_
    rintro _ wc ⟨rfl, hu_wc⟩
    have hsc := hsb.trans hu_wc
    refine ⟨hsc, ?_⟩
    refine rq (.int .u32 (IntKind.u32.wrap (atV c W n 1))) (fun _ _ => cv (val _ rfl ⟨rfl, rfl⟩)) ?_
    refine rq (.agg #[.int .u32 (atV c W n 0 / 4294967296), .int .u32 (IntKind.u32.wrap (atV c W n 1))]) (fun _ _ => bd #[.int .u32 (atV c W n 0 / 4294967296), .int .u32 (IntKind.u32.wrap (atV c W n 1))] (fun _ => by kernel_rfl) ⟨rfl, rfl⟩) ?_
    have hbz := (hb_wa.upd hu_wb (by simp)).upd hu_wc (by simp)
    refine stw hbz rfl rfl rfl fun w5 hb5 hu5 hs5 => ?_
    have hg5 : w2.heap.size ≤ w2.drew.heap.size := by have := (Us).size; first | omega | exact this
    have hU25 : Upd [] w2 w5 := (hsc).step hu5 (fun x hx => by rw [List.mem_singleton.1 hx]; exact .inr hg5)
    have hU5 : Upd [] w w5 := hU2.trans hU25
    have hne : w1.heap.size ≠ w2.drew.heap.size := by have h := hs2; omega
    generalize w2.drew.heap.size = g5 at *
    have hb25 := hb2.upd hU25 (by simp)
    have hb15 := hb12.upd hU25 (by simp)
    refine fa ?_
    refine vplan hb15 ?_
    refine cl (conf_c2 c w5) ?_
    rintro _ w6 ⟨rfl, hu6⟩
    refine fl (v := .int .i64 c.A) (by obtain ⟨A, T, N, L, B, P, S⟩ := c; rfl) ?_
    have hb16 := hb15.upd hu6 (by simp)
    have hb26 := hb25.upd hu6 (by simp)
    have hb56 := hb5.upd hu6 (by simp)
    have hU6 := hU5.trans hu6
    refine cd (fun hA => ?_) (fun hA => ?_)
    · refine ldw hb16 (viewC_len _ _) ?_
      refine cl (at_c (h.upd0 hU6) n 1) ?_
      rintro _ w7 ⟨rfl, hu7⟩
      refine cl (oval_c hu1' w7) ?_
      rintro _ w7 ⟨rfl, rfl⟩
      refine fa ?_
      refine st (hb56.upd hu7 (by simp)) (by show 1 < 2; decide) rfl fun w8 hb8 hu8 hs8 => ?_
      have hb8 : Blk w8 g5 45 #[.int .u32 (atV c W n 0 / 4294967296), .int .u32 (IntKind.u32.wrap (atV c W n 1 / 2))] := hb8
      have hb28 := (hb26.upd hu7 (by simp)).upd hu8 (by simpa using hne)
      have hU8 := (hU6.trans hu7).step hu8 (by have := hU2.size; simp; omega)
      refine ldw hb8 rfl ?_
      refine stw hb28 rfl rfl rfl fun w9 hb9 hu9 hs9 => ?_
      refine rlw hb9 rfl ?_
      exact ⟨by unfold pairV; rw [if_pos hA]; rfl, (hU8).step hu9 (by have := hu1.size; simp; omega)⟩
    · refine ldw hb56 rfl ?_
      refine stw hb26 rfl rfl rfl fun w9 hb9 hu9 hs9 => ?_
      refine rlw hb9 rfl ?_
      exact ⟨by unfold pairV; rw [if_neg hA]; rfl, (hU6).step hu9 (by have := hu1.size; simp; omega)⟩
end
end Go.Proofs.Ytbnbbafffihapaa

/- skip: Row, Live, Dead. -/
namespace Go.Proofs.Ytbnbbafffihapaa
open Go.RowKit
attribute [local irreducible] Instr.loadAt Instr.storeAt Instr.fieldAt Instr.indexAt Instr.sliceAt Instr.buildSlice Instr.box Instr.alloc Builtin.append_ Builtin.len_ Builtin.min_ Builtin.max_ Calls Instr.build Instr.makeSlice binSem convert Instr.index Instr.range Instr.next
section
variable {w w' : World} {c : Cf} {v : Value} {W : List Int} {X : Mc}
theorem zVw_one : zVw.toList.all (·.oneCell') = true := by decide +kernel
set_option maxRecDepth 10000 in
theorem of_nil (w : World) : Fn Try.prog 40 #[.pointer none] w fun r w' => r = .tuple #[.agg zVw, .bool false] ∧ Upd [] w w' := by
  refine fn_enter Try.func40 rfl rfl ?_
  refine al zVw (fun _ => by kernel_rfl) fun w1 hb1 hu1 hs1 => ?_
  refine ptr_eq0 ?_
  refine bd zVw (fun _ => by kernel_rfl) ?_
  refine stw hb1 rfl rfl zVw_one fun w2 hb2 hu2 hs2 => ?_
  refine rlw hb2 rfl ?_
  exact ⟨rfl, hu1.step hu2 (by simp)⟩
set_option maxRecDepth 10000 in
theorem of_q (h : Qm w X) : Fn Try.prog 40 #[ptrV X.m] w fun r w' => Upd [] w w' ∧ ((X.c.A = 0 ∧ r = .tuple #[.agg zVw, .bool false]) ∨ (X.c.A ≠ 0 ∧ ∃ v, r = .tuple #[.agg (viewC X.c v), .bool true] ∧ VwAt w' X.c v X.s.W)) := by
  have hsz := size_lt h.r
  refine fn_enter Try.func40 rfl rfl ?_
  refine al zVw (fun _ => by kernel_rfl) fun w1 hb1 hu1 hs1 => ?_
  have h1 := h.upd0 hu1
  refine ptr_eq ?_
  refine cl (plan_mm h1.m) ?_
  rintro _ w2 ⟨rfl, hu2⟩
  refine cl (conf_c2 X.c w2) ?_
  rintro _ w3 ⟨rfl, hu3⟩
  refine fl (v := .int .i64 X.c.A) (by obtain ⟨A, T, N, L, B, P, S⟩ := X.c; rfl) ?_
  have hU3 := (hu1.trans hu2).trans hu3
  have hb3 := (hb1.upd hu2 (by simp)).upd hu3 (by simp)
  refine cd (fun hA => ?_) (fun hA => ?_)
  · refine bd zVw (fun _ => by kernel_rfl) ?_
    refine stw hb3 rfl rfl zVw_one fun w4 hb4 hu4 hs4 => ?_
    refine rlw hb4 rfl ?_
    exact ⟨hU3.step hu4 (by simp), .inl ⟨hA, rfl⟩⟩
  · have h3 := h.upd0 hU3
    refine cl (plan_mm h3.m) ?_
    rintro _ w4 ⟨rfl, hu4⟩
    have h4 := h3.upd0 hu4
    refine cl (mem_mm h4.m) ?_
    rintro _ w4 ⟨rfl, rfl⟩
    have hl := h.l
    refine cl (words_c h4.m.mem (by omega)) ?_
    rintro r w5 ⟨hsl, hu5, hfr⟩
    have hb5 := (hb3.upd hu4 (by simp)).upd hu5 (by simp)
    have hU5 := (hU3.trans hu4).trans hu5
    obtain ⟨va, vk, rfl, -⟩ := hsl.form
    have hV : VwAt w5 X.c (.slice va X.s.W.length vk) X.s.W := ⟨h.r, hsl, hl, h.u⟩
    generalize X.s.W.length = vn at *
    refine bd (viewC X.c (.slice va vn vk)) (fun _ => by obtain ⟨A, T, N, L, B, P, S⟩ := X.c; kernel_rfl) ?_
    refine stw hb5 rfl (viewC_len _ _) (viewC_one _ _ _ _) fun w6 hb6 hu6 hs6 => ?_
    refine rlw hb6 (viewC_len _ _) ?_
    exact ⟨hU5.step hu6 (by simp), .inr ⟨hA, _, rfl, ⟨hV.r, hV.s.upd hu6 (fun g hg hm => by
      have := hfr g hg
      have := List.mem_singleton.1 hm
      have := hs1
      have := hu2.size
      have := hu3.size
      have := hu4.size
      omega), hV.l, hV.u⟩⟩⟩
/-- what a loop over a row's nodes holds -/
theorem Gr.cell {w0 w : World} {b o cap : Nat} {l : List (Int × Bool)} (h : Gr w0 w TSt 2 (.slice (some ⟨b, o, none⟩) l.length cap) l.length (stopsV l)) : Sl w TSt 2 (.slice (some ⟨b, o, none⟩) l.length cap) l.length (stopsV l) := h.s
theorem Gr.rebase {w0 w1 w : World} {e n : Nat} {v : Value} {len : Nat} {xs : List Value} (h : Gr w1 w e n v len xs) (hu : Upd [] w0 w1) : Gr w0 w e n v len xs := ⟨h.s, h.f.mono hu.size⟩
/-- the row's nodes, as numbers -/
def rowI (c : Cf) (W : List Int) (i : Int) : List Int := if c.A = 0 ∨ i < 0 ∨ i ≥ c.L then [] else (rowV c W i).map (·.1)
set_option maxRecDepth 10000 in
theorem row_q (h : Qm w X) (i : Int) (hi : -9223372036854775808 ≤ i ∧ i ≤ 9223372036854775807) : Fn Try.prog 11 #[ptrV X.m, .int .i64 i] w fun r w' => Gr w w' 3 1 r (rowI X.c X.s.W i).length ((rowI X.c X.s.W i).map (.int .i64)) ∧ Upd [] w w' := by
  have hr := h.r
  have hL := (plan_bd (A := X.c.A) (T := X.c.T) (N := X.c.N) (L := X.c.L) (B := X.c.B) (P := X.c.P) (S := X.c.S) hr).2.2.2.2.2.1
  have hN := N_bd hr
  refine fn_enter Try.func11 rfl rfl ?_
  refine cl (of_q h) ?_
  rintro r w1 ⟨hu1, (⟨hA, rfl⟩ | ⟨hA, v, rfl, hV⟩)⟩
  · refine al zVw (fun _ => by kernel_rfl) fun w2 hb2 hu2 hs2 => ?_
    refine stw hb2 rfl rfl zVw_one fun w3 hb3 hu3 hs3 => ?_
    have hU3 : Upd [] w w3 := (hu1.trans hu2).step hu3 (by have := hu1.size; simp; omega)
    exact ⟨by rw [rowI, if_pos (.inl hA)]; exact Gr.nil_ _ _ _ _, hU3⟩
  refine al zVw (fun _ => by kernel_rfl) fun w2 hb2 hu2 hs2 => ?_
  obtain ⟨va, vn, vk, rfl⟩ := hV.form
  refine stw hb2 rfl (viewC_len _ _) (viewC_one _ _ _ _) fun w3 hb3 hu3 hs3 => ?_
  have hU3 : Upd [] w w3 := (hu1.trans hu2).step hu3 (by have := hu1.size; simp; omega)
  have hb3 : Blk w3 w1.heap.size TVw (viewC X.c (.slice va vn vk)) := hb3
  have hV3 : VwAt w3 X.c (.slice va vn vk) X.s.W := ⟨hV.r, (hV.s.upd hu2 (by simp)).upd hu3 (fun g hg hm => by
    have := hV.s.lt g hg
    have := List.mem_singleton.1 hm
    omega), hV.l, hV.u⟩
  generalize hvb : w1.heap.size = vb at *
  refine cd (fun h0 => ?_) (fun h0 => ?_)
  · exact ⟨by rw [rowI, if_pos (.inr (.inl h0))]; exact Gr.nil_ _ _ _ _, hU3⟩
  refine fa ?_
  refine vplan hb3 ?_
  refine cl (conf_c2 X.c w3) ?_
  rintro _ w4 ⟨rfl, hu4⟩
  refine fl (v := .int .i64 X.c.L) (by obtain ⟨A, T, N, L, B, P, S⟩ := X.c; rfl) ?_
  have hU4 := hU3.trans hu4
  have hb4 := hb3.upd hu4 (by simp)
  have hV4 := hV3.upd0 hu4
  refine cd (fun h1 => ?_) (fun h1 => ?_)
  · exact ⟨by rw [rowI, if_pos (.inr (.inr h1))]; exact Gr.nil_ _ _ _ _, hU4⟩
  rw [rowI, if_neg (by omega)]
  refine ldw hb4 (viewC_len _ _) ?_
  refine cl (row_c hV4 i ⟨by omega, by omega⟩) ?_
  rintro rv w5 ⟨hG, hu5⟩
  have hU5 := hU4.trans hu5
  have hRl : (rowV X.c X.s.W i).length ≤ X.c.N.toNat := rowF_len _ _ _ _ _
  generalize rowV X.c X.s.W i = R at *
  obtain ⟨ra, rk, rfl, -⟩ := hG.s.form
  refine len_sl ?_
  refine loop_rule [31, 32] [7, 33] (fun vs w' m => ∃ (k : Nat) (lv : Value), vs = [lv, .int .i64 (k : Int)] ∧ k ≤ R.length ∧ m = R.length - k ∧ Gr w5 w' 3 1 lv k (((R.take k).map (·.1)).map (.int .i64)) ∧ Upd [] w5 w') rfl [.slice none 0 0, .int .i64 0] R.length rfl
    ⟨0, _, rfl, by omega, rfl, Gr.nil_ _ _ _ _, .refl _ _⟩ ?_
  rintro _ w6 m ⟨k, lv, rfl, hk, rfl, hGl, hu56⟩
  refine cd (fun hlt => ?_) (fun hlt => ?_)
  · have hlt : k < R.length := by omega
    obtain ⟨b, o, cap, he, -⟩ := hG.s.some_ (by omega)
    cases he
    have hG6 := (hG.upd0 hu56).s
    refine ix k rfl hlt ?_
    refine stop_ld hG6 k hlt ?_
    refine al #[.int .i64 0, .bool false] (fun _ => by kernel_rfl) fun w7 hb7 hu7 hs7 => ?_
    refine stw hb7 rfl rfl rfl fun w8 hb8 hu8 hs8 => ?_
    have hu68 : Upd [] w6 w8 := hu7.step hu8 (by simp)
    refine fa ?_
    refine ldb hb8 rfl ?_
    refine bs #[.int .i64 (R.getD k (0, false)).1] (fun _ => by kernel_rfl) fun w9 hb9 hu9 hs9 => ?_
    have hGl9 := (hGl.upd0 hu68).upd0 hu9
    refine apg hGl9.s hb9 rfl rfl (by decide) (by simp only [maxLen]; omega) (by omega) fun lv2 wa hsa hGa => ?_
    obtain ⟨hga, hUa⟩ := hGl9.app ((hu56.trans hu68).trans hu9) hsa hGa
    refine ar64 (by omega) ?_
    refine round_mk [lv2, .int .i64 ((k + 1 : Nat) : Int)] (R.length - (k + 1)) rfl rfl ⟨k + 1, lv2, rfl, by omega, rfl, ?_, hUa⟩ (by omega)
    · rw [show R.take (k + 1) = R.take k ++ [R.getD k (0, false)] by rw [List.take_add_one, List.getElem?_eq_getElem hlt]; simp [List.getD, hlt]]
      simpa using hga
  · have hk : k = R.length := by omega
    subst hk
    rw [List.take_length] at hGl
    exact ⟨by rw [List.length_map]; exact hGl.rebase hU5, hU5.trans hu56⟩
end
end Go.Proofs.Ytbnbbafffihapaa

/- skip: Dead, Live, the map of those that live. -/
namespace Go.Proofs.Ytbnbbafffihapaa
open Go.RowKit
attribute [local irreducible] Instr.loadAt Instr.storeAt Instr.fieldAt Instr.indexAt Instr.sliceAt Instr.buildSlice Instr.box Instr.alloc Builtin.append_ Builtin.len_ Builtin.min_ Builtin.max_ Calls Instr.build Instr.makeSlice binSem convert Instr.index Instr.range Instr.next
theorem take_s (R : List (Int × Bool)) {k : Nat} (h : k < R.length) : R.take (k + 1) = R.take k ++ [R.getD k (0, false)] := by rw [List.take_add_one, List.getElem?_eq_getElem h]; simp [List.getD, h]
def deadN (c : Cf) (W : List Int) : Nat := if c.A = 0 then 0 else ((rowV c W 0).filter (deadV c W)).length
def lvL (c : Cf) (W : List Int) : List (Int × Bool) := if c.A = 0 then [] else (rowV c W 0).filter fun s => !deadV c W s
def pairsV (c : Cf) (W : List Int) (l : List (Int × Bool)) : List Value := l.flatMap fun s => pairV c W s.1
section
variable {w w' : World} {c : Cf} {v : Value} {W : List Int} {X : Mc}
set_option maxRecDepth 10000 in
theorem dead_q (h : Qm w X) : Fn Try.prog 13 #[ptrV X.m] w fun r w' => r = .int .i64 (deadN X.c X.s.W : Int) ∧ Upd [] w w' := by
  have hN := N_bd h.r
  refine fn_enter Try.func13 rfl rfl ?_
  refine cl (of_q h) ?_
  rintro r w1 ⟨hu1, (⟨hA, rfl⟩ | ⟨hA, v, rfl, hV⟩)⟩
  · refine al zVw (fun _ => by kernel_rfl) fun w2 hb2 hu2 hs2 => ?_
    refine stw hb2 rfl rfl zVw_one fun w3 hb3 hu3 hs3 => ?_
    have hU3 : Upd [] w w3 := (hu1.trans hu2).step hu3 (by have := hu1.size; simp; omega)
    exact ⟨by rw [deadN, if_pos hA]; rfl, hU3⟩
  refine al zVw (fun _ => by kernel_rfl) fun w2 hb2 hu2 hs2 => ?_
  obtain ⟨va, vn, vk, rfl⟩ := hV.form
  refine stw hb2 rfl (viewC_len _ _) (viewC_one _ _ _ _) fun w3 hb3 hu3 hs3 => ?_
  have hU3 : Upd [] w w3 := (hu1.trans hu2).step hu3 (by have := hu1.size; simp; omega)
  have hb3 : Blk w3 w1.heap.size TVw (viewC X.c (.slice va vn vk)) := hb3
  have hV3 : VwAt w3 X.c (.slice va vn vk) X.s.W := ⟨hV.r, (hV.s.upd hu2 (by simp)).upd hu3 (fun g hg hm => by
    have := hV.s.lt g hg
    have := List.mem_singleton.1 hm
    omega), hV.l, hV.u⟩
  generalize hvb : w1.heap.size = vb at *
  rw [deadN, if_neg hA]
  refine ldw hb3 (viewC_len _ _) ?_
  refine cl (row_c hV3 0 ⟨by omega, by omega⟩) ?_
  rintro rv w5 ⟨hG, hu5⟩
  have hU5 := hU3.trans hu5
  have hb5 := (hb3).upd hu5 (by simp)
  have hV5 := (hV3).upd0 hu5
  have hRl : (rowV X.c X.s.W 0).length ≤ (X.c.N).toNat := rowF_len _ _ _ _ _
  generalize rowV X.c X.s.W 0 = R at *
  obtain ⟨ra, rk, rfl, -⟩ := hG.s.form
  refine len_sl ?_
  refine loop_rule [3, 16, 17] [5, 18] (fun vs w' m => ∃ (k : Nat), vs = [.int .i64 (((R.take k).filter (deadV X.c X.s.W)).length : Int), .int .i64 (k : Int)] ∧ k ≤ R.length ∧ m = R.length - k ∧ Upd [] w5 w') rfl [.int .i64 0, .int .i64 0] R.length rfl
    ⟨0, rfl, by omega, rfl, .refl _ _⟩ ?_
  rintro _ w6 m ⟨k, rfl, hk, rfl, hu56⟩
  have hfl : ((R.take k).filter (deadV X.c X.s.W)).length ≤ R.length := Nat.le_trans (List.length_filter_le _ _) (by rw [List.length_take]; omega)
  refine cd (fun hlt => ?_) (fun hlt => ?_)
  · have hlt : k < R.length := by omega
    obtain ⟨b, o, cap, he, -⟩ := hG.s.some_ (by omega)
    cases he
    have hG6 := (hG.upd0 hu56).s
    refine ix k rfl hlt ?_
    refine stop_ld hG6 k hlt ?_
    refine al #[.int .i64 0, .bool false] (fun _ => by kernel_rfl) fun w7 hb7 hu7 hs7 => ?_
    refine stw hb7 rfl rfl rfl fun w8 hb8 hu8 hs8 => ?_
    have hu68 : Upd [] w6 w8 := hu7.step hu8 (by simp)
    have hu58 := hu56.trans hu68
    refine ldw (hb5.upd hu58 (by simp)) (viewC_len _ _) ?_
    refine ldw hb8 rfl ?_
    refine cl (vdead_c (hV5.upd0 hu58) (R.getD k (0, false))) ?_
    rintro _ w9 ⟨rfl, hu9⟩
    have hu59 := hu58.trans hu9
    have hb9 := hb8.upd hu9 (by simp)
    cases hd : deadV X.c X.s.W (R.getD k (0, false)) with
    | true =>
      refine ar64 (by omega) ?_
      refine ar64 (by omega) ?_
      refine round_mk [.int .i64 (((R.take k).filter (deadV X.c X.s.W)).length + 1 : Int), .int .i64 ((k + 1 : Nat) : Int)] (R.length - (k + 1)) rfl rfl ⟨k + 1, ?_, by omega, rfl, hu59⟩ (by omega)
      rw [take_s R hlt, List.filter_append, List.filter_cons_of_pos hd]; simp
    | false =>
      refine ar64 (by omega) ?_
      refine round_mk [.int .i64 (((R.take k).filter (deadV X.c X.s.W)).length : Int), .int .i64 ((k + 1 : Nat) : Int)] (R.length - (k + 1)) rfl rfl ⟨k + 1, ?_, by omega, rfl, hu59⟩ (by omega)
      rw [take_s R hlt, List.filter_append, List.filter_cons_of_neg (by rw [hd]; decide)]; simp
  · have hk : k = R.length := by omega
    subst hk
    rw [List.take_length]
    exact ⟨rfl, hU5.trans hu56⟩
theorem pairV_one (c : Cf) (W : List Int) (n : Int) : (pairV c W n).toArray.toList.all (·.oneCell') = true := rfl
theorem pairV_len (c : Cf) (W : List Int) (n : Int) : (pairV c W n).length = 2 := rfl
set_option maxRecDepth 10000 in
theorem live_q (h : Qm w X) : Fn Try.prog 12 #[ptrV X.m] w fun r w' => Gr w w' 45 2 r (lvL X.c X.s.W).length (pairsV X.c X.s.W (lvL X.c X.s.W)) ∧ Upd [] w w' := by
  have hN := N_bd h.r
  refine fn_enter Try.func12 rfl rfl ?_
  refine cl (of_q h) ?_
  rintro r w1 ⟨hu1, (⟨hA, rfl⟩ | ⟨hA, v, rfl, hV⟩)⟩
  · refine al zVw (fun _ => by kernel_rfl) fun w2 hb2 hu2 hs2 => ?_
    refine stw hb2 rfl rfl zVw_one fun w3 hb3 hu3 hs3 => ?_
    have hU3 : Upd [] w w3 := (hu1.trans hu2).step hu3 (by have := hu1.size; simp; omega)
    exact ⟨by rw [lvL, if_pos hA]; exact Gr.nil_ _ _ _ _, hU3⟩
  refine al zVw (fun _ => by kernel_rfl) fun w2 hb2 hu2 hs2 => ?_
  obtain ⟨va, vn, vk, rfl⟩ := hV.form
  refine stw hb2 rfl (viewC_len _ _) (viewC_one _ _ _ _) fun w3 hb3 hu3 hs3 => ?_
  have hU3 : Upd [] w w3 := (hu1.trans hu2).step hu3 (by have := hu1.size; simp; omega)
  have hb3 : Blk w3 w1.heap.size TVw (viewC X.c (.slice va vn vk)) := hb3
  have hV3 : VwAt w3 X.c (.slice va vn vk) X.s.W := ⟨hV.r, (hV.s.upd hu2 (by simp)).upd hu3 (fun g hg hm => by
    have := hV.s.lt g hg
    have := List.mem_singleton.1 hm
    omega), hV.l, hV.u⟩
  generalize hvb : w1.heap.size = vb at *
  rw [lvL, if_neg hA]
  refine ldw hb3 (viewC_len _ _) ?_
  refine cl (row_c hV3 0 ⟨by omega, by omega⟩) ?_
  rintro rv w5 ⟨hG, hu5⟩
  have hU5 := hU3.trans hu5
  have hb5 := (hb3).upd hu5 (by simp)
  have hV5 := (hV3).upd0 hu5
  have hRl : (rowV X.c X.s.W 0).length ≤ (X.c.N).toNat := rowF_len _ _ _ _ _
  generalize rowV X.c X.s.W 0 = R at *
  obtain ⟨ra, rk, rfl, -⟩ := hG.s.form
  refine len_sl ?_
  refine loop_rule [3, 16, 17] [5, 18] (fun vs w' m => ∃ (k : Nat) (lv : Value), vs = [lv, .int .i64 (k : Int)] ∧ k ≤ R.length ∧ m = R.length - k ∧ Gr w5 w' 45 2 lv ((R.take k).filter fun s => !deadV X.c X.s.W s).length (pairsV X.c X.s.W ((R.take k).filter fun s => !deadV X.c X.s.W s)) ∧ Upd [] w5 w') rfl [.slice none 0 0, .int .i64 0] R.length rfl
    ⟨0, _, rfl, by omega, rfl, Gr.nil_ _ _ _ _, .refl _ _⟩ ?_
  rintro _ w6 m ⟨k, lv, rfl, hk, rfl, hGl, hu56⟩
  have hfl : ((R.take k).filter fun s => !deadV X.c X.s.W s).length ≤ R.length := Nat.le_trans (List.length_filter_le _ _) (by rw [List.length_take]; omega)
  refine cd (fun hlt => ?_) (fun hlt => ?_)
  · have hlt : k < R.length := by omega
    obtain ⟨b, o, cap, he, -⟩ := hG.s.some_ (by omega)
    cases he
    have hG6 := (hG.upd0 hu56).s
    refine ix k rfl hlt ?_
    refine stop_ld hG6 k hlt ?_
    refine al #[.int .i64 0, .bool false] (fun _ => by kernel_rfl) fun w7 hb7 hu7 hs7 => ?_
    refine stw hb7 rfl rfl rfl fun w8 hb8 hu8 hs8 => ?_
    have hu68 : Upd [] w6 w8 := hu7.step hu8 (by simp)
    have hu58 := hu56.trans hu68
    refine ldw (hb5.upd hu58 (by simp)) (viewC_len _ _) ?_
    refine ldw hb8 rfl ?_
    refine cl (vdead_c (hV5.upd0 hu58) (R.getD k (0, false))) ?_
    rintro _ w9 ⟨rfl, hu9⟩
    have hu59 := hu58.trans hu9
    have hb9 := hb8.upd hu9 (by simp)
    cases hd : deadV X.c X.s.W (R.getD k (0, false)) with
    | false =>
      refine ldw (hb5.upd hu59 (by simp)) (viewC_len _ _) ?_
      refine fa ?_
      refine ldb hb9 rfl ?_
      refine cl (pair_c (hV5.upd0 hu59) (R.getD k (0, false)).1) ?_
      rintro _ wa ⟨rfl, hua⟩
      refine bs (pairV X.c X.s.W (R.getD k (0, false)).1).toArray (fun _ => by kernel_rfl) fun wb hbb hub hsb => ?_
      have hub5 := (hu59.trans hua).trans hub
      have hGb := ((((hGl.upd0 hu68).upd0 hu9).upd0 hua).upd0 hub)
      refine apg hGb.s hbb rfl rfl (by decide) (by simp only [maxLen]; omega) (by omega) fun lv2 wc hsc hGc => ?_
      obtain ⟨hgc, hUc⟩ := hGb.app hub5 hsc hGc
      refine ar64 (by omega) ?_
      refine round_mk [lv2, .int .i64 ((k + 1 : Nat) : Int)] (R.length - (k + 1)) rfl rfl ⟨k + 1, lv2, rfl, by omega, rfl, ?_, hUc⟩ (by omega)
      rw [take_s R hlt, List.filter_append, List.filter_cons_of_pos (by rw [hd]; rfl), List.filter_nil, List.length_append]
      unfold pairsV
      rw [List.flatMap_append]
      simp only [pairsV] at hgc
      simpa using hgc
    | true =>
      refine ar64 (by omega) ?_
      refine round_mk [lv, .int .i64 ((k + 1 : Nat) : Int)] (R.length - (k + 1)) rfl rfl ⟨k + 1, lv, rfl, by omega, rfl, ?_, hu59⟩ (by omega)
      rw [take_s R hlt, List.filter_append, List.filter_cons_of_neg (by rw [hd]; decide), List.filter_nil, List.append_nil]
      exact (hGl.upd0 hu68).upd0 hu9
  · have hk : k = R.length := by omega
    subst hk
    rw [List.take_length] at hGl
    exact ⟨hGl.rebase hU5, hU5.trans hu56⟩
instance : MapT Try.prog 95 3 4 := ⟨Try.underlying95, Try.underlying3⟩
instance : ZeroT Try.prog 4 (.bool false) := ⟨by kernel_rfl⟩
def liveF (c : Cf) (W : List Int) (l : List (Int × Bool)) : Int → Option Value := l.foldl (fun f s => if deadV c W s then f else updF f s.1 (some (.bool true))) (fun _ => none)
/-- does the node live? -/
def livesN (c : Cf) (W : List Int) (l : List (Int × Bool)) (n : Int) : Bool := l.any fun s => !deadV c W s && decide (s.1 = n)
theorem liveF_snoc (c : Cf) (W : List Int) (l : List (Int × Bool)) (s : Int × Bool) : liveF c W (l ++ [s]) = if deadV c W s then liveF c W l else updF (liveF c W l) s.1 (some (.bool true)) := by
  unfold liveF
  rw [List.foldl_append]; rfl
theorem liveF_at (c : Cf) (W : List Int) (n : Int) : ∀ (m : Nat) (l : List (Int × Bool)), l.length = m → liveF c W l n = if livesN c W l n then some (.bool true) else none := by
  intro m
  induction m with
  | zero => intro l hl; obtain rfl := List.length_eq_zero_iff.1 hl; rfl
  | succ m ih =>
    intro l hl
    obtain ⟨l', s, rfl⟩ : ∃ l' s, l = l' ++ [s] := ⟨l.dropLast, l.getLast (by intro h; rw [h] at hl; cases hl), (List.dropLast_concat_getLast _).symm⟩
    rw [liveF_snoc]
    have hl' : l'.length = m := by simpa using hl
    have e : livesN c W (l' ++ [s]) n = (livesN c W l' n || (!deadV c W s && decide (s.1 = n))) := by
      unfold livesN; rw [List.any_append]; simp
    rw [e]
    cases hd : deadV c W s with
    | true => rw [if_pos rfl, ih l' hl']; simp
    | false =>
      rw [if_neg (by decide)]
      unfold updF
      by_cases hn : n = s.1
      · rw [if_pos hn, decide_eq_true hn.symm]; simp
      · rw [if_neg hn, ih l' hl', decide_eq_false (fun h => hn h.symm)]; simp
set_option maxRecDepth 10000 in
theorem live_c (h : VwAt w c v W) : Fn Try.prog 45 #[.agg (viewC c v)] w fun r w' => ∃ b, r = .map (some b) ∧ MapF w' b (liveF c W (rowV c W 0)) ∧ Upd [] w w' := by
  have hN := N_bd h.r
  obtain ⟨va, vn, vk, rfl⟩ := h.form
  refine fn_enter Try.func45 rfl rfl ?_
  refine bx fun w1 hb1 hu1 hs1 => ?_
  have hb1 : Blk w1 w.heap.size TVw (viewC c (.slice va vn vk)) := hb1
  refine mkm fun w2 hm2 hu2 hs2 => ?_
  have hb2 := hb1.upd hu2 (by simp)
  have hV2 := (h.upd0 hu1).upd0 hu2
  have hU2 := hu1.trans hu2
  have hmb : w.heap.size < w1.heap.size := by omega
  generalize hvb : w.heap.size = vb at *
  generalize hmm : w1.heap.size = mb at *
  refine ldw hb2 (viewC_len _ _) ?_
  refine cl (row_c hV2 0 ⟨by omega, by omega⟩) ?_
  rintro rv w5 ⟨hG, hu5⟩
  have hU5 := hU2.trans hu5
  have hb5 := (hb2).upd hu5 (by simp)
  have hV5 := (hV2).upd0 hu5
  have hRl : (rowV c W 0).length ≤ (c.N).toNat := rowF_len _ _ _ _ _
  generalize rowV c W 0 = R at *
  obtain ⟨ra, rk, rfl, -⟩ := hG.s.form
  refine len_sl ?_
  have hm5 := hm2.upd hu5 (by simp)
  refine loop_rule [1, 3, 8, 9] [10] (fun vs w' m => ∃ (k : Nat), vs = [.int .i64 (k : Int)] ∧ k ≤ R.length ∧ m = R.length - k ∧ MapF w' mb (liveF c W (R.take k)) ∧ Upd [mb] w5 w') rfl [.int .i64 0] R.length rfl
    ⟨0, rfl, by omega, rfl, hm5, .refl _ _⟩ ?_
  have hvlt : ∀ g, (Value.slice va vn vk).ownBlock = some g → g ∉ [mb] := fun g hg hm => by
    have := h.s.lt g hg
    have := List.mem_singleton.1 hm
    have := hs1
    omega
  have hrf : ∀ g, (Value.slice ra R.length rk).ownBlock = some g → g ∉ [mb] := fun g hg hm => by
    have := hG.f g hg
    have := List.mem_singleton.1 hm
    have := hs2
    omega
  have hvm : vb ∉ [mb] := by simp; omega
  rintro _ w6 m ⟨k, rfl, hk, rfl, hm6, hu56⟩
  have hb6 := hb5.upd hu56 hvm
  have hV6 : VwAt w6 c (.slice va vn vk) W := ⟨hV5.r, hV5.s.upd hu56 hvlt, hV5.l, hV5.u⟩
  refine cd (fun hlt => ?_) (fun hlt => ?_)
  · have hlt : k < R.length := by omega
    obtain ⟨b, o, cap, he, -⟩ := hG.s.some_ (by omega)
    cases he
    have hG6 := hG.s.upd hu56 hrf
    refine ix k rfl hlt ?_
    refine stop_ld hG6 k hlt ?_
    refine al #[.int .i64 0, .bool false] (fun _ => by kernel_rfl) fun w7 hb7 hu7 hs7 => ?_
    refine stw hb7 rfl rfl rfl fun w8 hb8 hu8 hs8 => ?_
    have hu68 : Upd [] w6 w8 := hu7.step hu8 (by simp)
    refine ldw (hb6.upd hu68 (by simp)) (viewC_len _ _) ?_
    refine ldw hb8 rfl ?_
    refine cl (vdead_c (hV6.upd0 hu68) (R.getD k (0, false))) ?_
    rintro _ w9 ⟨rfl, hu9⟩
    have hb9 := hb8.upd hu9 (by simp)
    have hu69 := hu68.trans hu9
    have hm9 := hm6.upd hu69 (by simp)
    have hu59 : Upd [mb] w5 w9 := hu56.trans (hu69.mono (by simp))
    cases hd : deadV c W (R.getD k (0, false)) with
    | false =>
      refine fa ?_
      refine ldb hb9 rfl ?_
      refine mup hm9 fun wa hma hua hsa => ?_
      refine ar64 (by omega) ?_
      refine round_mk [.int .i64 ((k + 1 : Nat) : Int)] (R.length - (k + 1)) rfl rfl ⟨k + 1, rfl, by omega, rfl, ?_, hu59.trans hua⟩ (by omega)
      rw [take_s R hlt, liveF_snoc, hd]
      exact hma
    | true =>
      refine ar64 (by omega) ?_
      refine round_mk [.int .i64 ((k + 1 : Nat) : Int)] (R.length - (k + 1)) rfl rfl ⟨k + 1, rfl, by omega, rfl, ?_, hu59⟩ (by omega)
      rw [take_s R hlt, liveF_snoc, hd]
      exact hm9
  · have hk : k = R.length := by omega
    subst hk
    rw [List.take_length] at hm6
    exact ⟨mb, rfl, hm6, hU5.step hu56 (by simp; omega)⟩
end
end Go.Proofs.Ytbnbbafffihapaa

/- Contracts: seqs.Of, seqs.Only, seqs.First, seqs.Some (of words, and of lists of words). -/
namespace Go.Proofs.Ytbnbbafffihapaa
open Go.RowKit
attribute [local irreducible] Instr.loadAt Instr.storeAt Instr.fieldAt Instr.indexAt Instr.sliceAt Instr.buildSlice Instr.box Instr.alloc Builtin.append_ Builtin.len_ Builtin.min_ Builtin.max_ Calls Instr.build Instr.makeSlice binSem convert Instr.index Instr.range Instr.next
theorem rl1 {P : Program} {w : World} {t : Nat} [One P t] {a : Addr} {v : Value} {K : Value → Prop} (h : w.cell? a = some v) (k : K v) : RetLd P t a w K := ⟨v, by simp [loadVar, One.agg, h], k⟩
def oneV (x : Value) : Array Value := #[x]
theorem takeV (l : List Value) (i : Nat) (h : i < l.length) : l.take (i + 1) = l.take i ++ [l.getD i undef] := by rw [List.take_add_one, List.getElem?_eq_getElem h]; simp [List.getD, h]
def cntV (p : Value → Bool) (l : List Value) (i : Nat) : Nat := ((l.take i).filter p).length
theorem cntV_s (p : Value → Bool) (l : List Value) (i : Nat) (h : i < l.length) : cntV p l (i + 1) = cntV p l i + (if p (l.getD i undef) then 1 else 0) := by
  unfold cntV
  rw [takeV l i h, List.filter_append, List.length_append]
  generalize l.getD i undef = x
  cases hp : p x <;> simp [hp]
theorem cntV_at (p : Value → Bool) (l : List Value) (i : Nat) (h : i < l.length) (hp : p (l.getD i undef) = true) : (l.filter p)[cntV p l i]? = some (l.getD i undef) := by
  have e0 : l.drop i = l.getD i undef :: l.drop (i + 1) := by rw [List.drop_eq_getElem_cons h]; simp [List.getD, h]
  have e : l.filter p = (l.take i).filter p ++ (l.getD i undef :: (l.drop (i + 1)).filter p) := by
    rw [← List.filter_cons_of_pos (p := p) hp, ← e0, ← List.filter_append, List.take_append_drop]
  rw [e]
  unfold cntV
  rw [List.getElem?_append_right (Nat.le_refl _), Nat.sub_self]
  rfl
/-- a function that tells what is kept -/
def KeepW (P : Program) (kv : Value) (l : List Value) (p : Value → Bool) (B : Ob) : Prop :=
  ∃ g lb, kv = .func (.func g) #[] lb ∧ (∀ args w, (callFunc g args).run P w = .ok (.enter g args) w) ∧ ∀ x ∈ l, ∀ w, B.ok w → Fn P g (#[] ++ [x].toArray ++ lb) w fun r w' => r = .bool (p x) ∧ Upd [] w w'
abbrev TSU : Nat := 63
abbrev TQU : Nat := 158
abbrev TKU : Nat := 153
instance : FnT Try.prog TQU := ⟨⟨_, _, _, Try.underlying158⟩⟩
instance : FnT Try.prog TKU := ⟨⟨_, _, _, Try.underlying153⟩⟩
theorem of_U (v : Value) (w : World) : Fn Try.prog 84 #[v] w fun r w' => r = .func (.func 110) #[] #[.pointer (some ⟨w.heap.size, 0, none⟩)] ∧ (∀ a n c, v = .slice a n c → Blk w' w.heap.size TSU #[v]) ∧ Upd [] w w' := by
  refine fn_enter Try.func84 rfl rfl ?_
  refine bx fun w1 hb1 hu1 hs1 => ?_
  exact ⟨rfl, fun a n c h => by subst h; exact hb1, hu1⟩
theorem ofi_U {b : Nat} {v : Value} {l : List Value} (hl : l.length ≤ 4294967296) : IterC Try.prog (.func (.func 110) #[] #[.pointer (some ⟨b, 0, none⟩)]) (l.map oneV) (obEv [obBlk b TSU #[v], obSl 47 1 v l.length l]) := by
  refine ⟨_, _, rfl, HasBody.h, fun lp G Gx o0 W hA hap h0 ho hy => ?_⟩
  have hAk : ∀ {o : Ob} {w' : World}, To W o0.foot w' o.foot → Blk w' b TSU #[v] ∧ Sl w' 47 1 v l.length l := fun {o w'} ht => by
    have h2 : (obEv [obBlk b TSU #[v], obSl 47 1 v l.length l]).ok w' := (obEv [obBlk b TSU #[v], obSl 47 1 v l.length l]).keep hA ht.up hap
    exact ⟨h2 (obBlk b TSU #[v]) (by simp), h2 (obSl 47 1 v l.length l) (by simp)⟩
  obtain ⟨hb0, hs0⟩ := hAk (To.refl W o0.foot)
  obtain ⟨va, vc, rfl, -⟩ := hs0.form
  refine fnr_enter Try.func110 rfl rfl ?_
  refine ldb hb0 rfl ?_
  refine len_sl ?_
  refine loop_ruleR [0, 5, 6] [7] (fun vs w' m => ∃ (i : Nat) (o : Ob), vs = [.int .i64 (i : Int)] ∧ i ≤ l.length ∧ m = l.length - i ∧ G i o ∧ o.ok w' ∧ To W o0.foot w' o.foot) rfl [.int .i64 0] l.length rfl ⟨0, o0, rfl, by omega, rfl, h0, ho, To.refl _ _⟩ ?_
  rintro _ w2 m ⟨i, o, rfl, hi, rfl, hG, hok, hto⟩
  refine cd (fun hlt => ?_) (fun hlt => ?_)
  · have hlt : i < l.length := by omega
    obtain ⟨hb2, hs2⟩ := hAk hto
    obtain ⟨vb, vo, vc', he, -⟩ := hs2.some_ (by omega)
    cases he
    refine ix i rfl hlt ?_
    refine ld (v := l.getD i undef) (by rw [(hs2.cells rfl (i * 1) (by omega)).1, Nat.mul_one]; simp [List.getD, hlt]) ?_
    have hx : (l.map oneV)[i]? = some (oneV (l.getD i undef)) := by rw [List.getElem?_map, List.getElem?_eq_getElem hlt]; simp [List.getD, hlt]
    refine yl (hy i o w2 (oneV (l.getD i undef)) hx hG hok hto) ?_
    rintro bb w3 ⟨o', hok', hto', ⟨rfl, hG'⟩ | ⟨rfl, hGx⟩⟩
    · refine ar64 (by omega) ?_
      exact round_mkR [.int .i64 ((i + 1 : Nat) : Int)] (l.length - (i + 1)) rfl rfl ⟨i + 1, o', rfl, by omega, rfl, hG', hok', hto.trans hto'⟩ (by omega)
    · exact ⟨o', hok', hto.trans hto', .inr ⟨i, by rw [List.length_map]; exact hlt, hGx⟩⟩
  · have hi : i = l.length := by omega
    subst hi
    exact ⟨o, hok, hto, .inl (by rw [List.length_map]; exact hG)⟩
theorem only_U {g1 g2 : Nat} {x1 y1 x2 y2 : Array Value} (w : World) : Fn Try.prog 109 #[.func (.func g1) x1 y1, .func (.func g2) x2 y2] w fun r w' =>
    ∃ b1 b2, r = .func (.func 137) #[] #[.pointer (some ⟨b1, 0, none⟩), .pointer (some ⟨b2, 0, none⟩)] ∧ Blk w' b1 TQU #[.func (.func g1) x1 y1] ∧ Blk w' b2 TKU #[.func (.func g2) x2 y2] ∧ Upd [] w w' ∧ w.heap.size ≤ b1 ∧ b1 < b2 := by
  refine fn_enter Try.func109 rfl rfl ?_
  refine bx fun w1 hb1 hu1 hs1 => ?_
  refine bx fun w2 hb2 hu2 hs2 => ?_
  have hb12 := hb1.upd hu2 (by simp)
  refine ldb hb12 rfl ?_
  refine fn_eq ?_
  refine ldb hb2 rfl ?_
  refine fn_eq ?_
  exact ⟨_, _, rfl, hb12, hb2, hu1.trans hu2, Nat.le_refl _, by omega⟩
theorem first_U {g1 : Nat} {x1 y1 : Array Value} (w : World) : Fn Try.prog 108 #[.func (.func g1) x1 y1, .int .i64 1] w fun r w' =>
    ∃ b1 b2, r = .func (.func 136) #[] #[.pointer (some ⟨b1, 0, none⟩), .pointer (some ⟨b2, 0, none⟩)] ∧ Blk w' b1 3 #[.int .i64 1] ∧ Blk w' b2 TQU #[.func (.func g1) x1 y1] ∧ Upd [] w w' ∧ w.heap.size ≤ b2 ∧ b2 < b1 := by
  refine fn_enter Try.func108 rfl rfl ?_
  refine bx fun w1 hb1 hu1 hs1 => ?_
  refine bx fun w2 hb2 hu2 hs2 => ?_
  have hb12 := hb1.upd hu2 (by simp)
  refine ldb hb12 rfl ?_
  refine fn_eq ?_
  refine ldb hb2 rfl ?_
  exact ⟨_, _, rfl, hb2, hb12, hu1.trans hu2, Nat.le_refl _, by omega⟩
set_option maxRecDepth 10000 in
theorem onlyi_U {b1 b2 : Nat} {fv kv : Value} {l : List Value} {A B : Ob} {p : Value → Bool} (it : IterC Try.prog fv (l.map oneV) A) (hk : KeepW Try.prog kv l p B) (hfv : ∃ g x y, fv = .func (.func g) x y) :
    IterC Try.prog (.func (.func 137) #[] #[.pointer (some ⟨b1, 0, none⟩), .pointer (some ⟨b2, 0, none⟩)]) ((l.filter p).map oneV) (obEv [A, B, obBlk b1 TQU #[fv], obBlk b2 TKU #[kv]]) := by
  obtain ⟨gk, lk, rfl, hbk, hk⟩ := hk
  refine ⟨_, _, rfl, HasBody.h, fun lp G Gx o0 W hA hap h0 ho hy => ?_⟩
  have hapl : ∀ k ∈ feet [A, B, obBlk b1 TQU #[fv], obBlk b2 TKU #[.func (.func gk) #[] lk]], k ∉ o0.foot := hap
  have hB1 : Blk W b1 TQU #[fv] := hA (obBlk b1 TQU #[fv]) (by simp)
  obtain ⟨g1, x1, y1, rfl⟩ := hfv
  refine fnr_enter Try.func137 rfl rfl ?_
  refine bx fun w1 hb1 hu1 hs1 => ?_
  have hb1 : Blk w1 W.heap.size TKU #[.func (.yield lp) #[] #[]] := hb1
  refine ldb (hB1.upd hu1 (by simp)) rfl ?_
  have hy0 : W.heap.size ∉ o0.foot := fun hm => by have := o0.lt ho _ hm; omega
  refine ⟨rfl, range_rule it (A.keep (hA A (by simp)) hu1 (by simp)) (fun i o => G (cntV p l i) o) (fun c i o => c = .ret ∧ ∃ j, j < (l.filter p).length ∧ Gx j o) o0 (by simpa [cntV] using h0) (o0.keep ho hu1 (by simp)) (fun k hk => hapl k (mem_feet.2 ⟨A, by simp, hk⟩)) (fun va hva => by
      obtain ⟨x, -, rfl⟩ := List.mem_map.1 hva; rfl) (by decide) (fun i va o w2 w3 hva hG ht2 ho2 ht3 ho3 => ?_) (fun r o w2 hG ho2 ht2 hd hr hro => ?_) (fun r c i o w2 hi hGx ho2 ht2 hd hr hro => ?_)⟩
  · have hil : i < l.length := by
      rcases Nat.lt_or_ge i l.length with h | h
      · exact h
      · rw [List.getElem?_eq_none (by simpa using h)] at hva; cases hva
    have hx : va = oneV (l.getD i undef) := by
      rw [List.getElem?_map, List.getElem?_eq_getElem hil] at hva
      have := Option.some.inj hva
      rw [← this]; simp [List.getD, hil]
    subst hx
    have hcs := cntV_s p l i hil
    have hmem : l.getD i undef ∈ l := by simp [List.getD, hil]
    have hat := cntV_at p l i hil
    generalize l.getD i undef = x at *
    have hup : Upd o0.foot W w3 := (hu1.mono (by simp)).trans ht3.up
    have hA3 : (obEv [A, B, obBlk b1 TQU #[.func (.func g1) x1 y1], obBlk b2 TKU #[.func (.func gk) #[] lk]]).ok w3 := (obEv [A, B, obBlk b1 TQU #[.func (.func g1) x1 y1], obBlk b2 TKU #[.func (.func gk) #[] lk]]).keep hA hup hapl
    have hy3 := hb1.upd ht3.up hy0
    refine ⟨rfl, rfl, rfl, ?_⟩
    refine ldb (hA3 (obBlk b2 TKU #[.func (.func gk) #[] lk]) (by simp)) rfl ?_
    refine cl' hbk (hk x hmem w3 (hA3 B (by simp))) ?_
    rintro _ w4 ⟨rfl, hu4⟩
    have ho4 := o.keep ho3 hu4 (by simp)
    have htr : To W o0.foot w4 o.foot := ⟨hup.trans (hu4.mono (by simp)), fun k hk => by
      rcases ht3.sub k hk with h | h
      · exact .inl h
      · have := hu1.size; right; omega⟩
    cases hp : p x with
    | true =>
      rw [hp] at hcs
      refine ldb (hy3.upd hu4 (by simp)) rfl ?_
      refine yl (hy (cntV p l i) o w4 (oneV x) (by rw [List.getElem?_map, hat hp]; rfl) hG ho4 htr) ?_
      rintro bb w5 ⟨o', hok', hto', ⟨rfl, hG'⟩ | ⟨rfl, hGx⟩⟩
      · exact ⟨o', hok', (To.of0 _ hu4).trans hto', (show G (cntV p l (i + 1)) o' by rw [hcs]; exact hG')⟩
      · refine ⟨o', hok', (To.of0 _ hu4).trans hto', rfl, cntV p l i, ?_, hGx⟩
        have := hat hp
        rcases Nat.lt_or_ge (cntV p l i) (l.filter p).length with h | h
        · exact h
        · rw [List.getElem?_eq_none h] at this; cases this
    | false =>
      rw [hp] at hcs
      exact ⟨o, ho4, To.of0 _ hu4, (show G (cntV p l (i + 1)) o by rw [hcs]; exact hG)⟩
  · have e : cntV p l (l.map oneV).length = ((l.filter p).map oneV).length := by simp [cntV]
    replace hG : G (cntV p l (l.map oneV).length) o := hG
    rw [e] at hG
    refine ⟨hd, fun w' hu hz => ⟨o, o.keep ho2 hu (by intro k hk hm; rw [List.mem_singleton.1 hm] at hk; exact hro hk), ⟨((hu1.mono (by simp)).trans ht2.up).step hu (by have := hu1.size; simp; omega), fun k hk => ?_⟩, .inl hG⟩⟩
    rcases ht2.sub k hk with h | h
    · exact .inl h
    · have := hu1.size; right; omega
  · obtain ⟨rfl, j, hj, hGx⟩ := hGx
    refine ⟨hd, fun w' hu hz => ⟨o, o.keep ho2 hu (by intro k hk hm; rw [List.mem_singleton.1 hm] at hk; exact hro hk), ⟨((hu1.mono (by simp)).trans ht2.up).step hu (by have := hu1.size; simp; omega), fun k hk => ?_⟩, .inr ⟨j, by rw [List.length_map]; exact hj, hGx⟩⟩⟩
    rcases ht2.sub k hk with h | h
    · exact .inl h
    · have := hu1.size; right; omega
set_option maxRecDepth 10000 in
theorem firsti_U {b1 b2 : Nat} {fv : Value} {xs : List (Array Value)} {A : Ob} (it : IterC Try.prog fv xs A) (hxs : ∀ x ∈ xs, ∃ y, x = oneV y) (hfv : ∃ g x y, fv = .func (.func g) x y) :
    IterC Try.prog (.func (.func 136) #[] #[.pointer (some ⟨b1, 0, none⟩), .pointer (some ⟨b2, 0, none⟩)]) (xs.take 1) (obEv [A, obBlk b1 3 #[.int .i64 1], obBlk b2 TQU #[fv]]) := by
  refine ⟨_, _, rfl, HasBody.h, fun lp G Gx o0 W hA hap h0 ho hy => ?_⟩
  have hapl : ∀ k ∈ feet [A, obBlk b1 3 #[.int .i64 1], obBlk b2 TQU #[fv]], k ∉ o0.foot := hap
  have hB1 : Blk W b1 3 #[.int .i64 1] := hA (obBlk b1 3 #[.int .i64 1]) (by simp)
  have hB2 : Blk W b2 TQU #[fv] := hA (obBlk b2 TQU #[fv]) (by simp)
  obtain ⟨g1, x1, y1, rfl⟩ := hfv
  refine fnr_enter Try.func136 rfl rfl ?_
  refine bx fun w1 hb1 hu1 hs1 => ?_
  have hb1 : Blk w1 W.heap.size TKU #[.func (.yield lp) #[] #[]] := hb1
  refine ldb (hB1.upd hu1 (by simp)) rfl ?_
  refine al #[.int .i64 0] (fun _ => by kernel_rfl) fun w2 hb2 hu2 hs2 => ?_
  refine st hb2 (by decide) rfl fun w3 hb3 hu3 hs3 => ?_
  have hb3 : Blk w3 w1.heap.size 3 #[.int .i64 1] := hb3
  have hu13 : Upd [] w1 w3 := hu2.step hu3 (by simp)
  have hU3 := hu1.trans hu13
  refine ldb (hB2.upd hU3 (by simp)) rfl ?_
  have hy0 : W.heap.size ∉ o0.foot := fun hm => by have := o0.lt ho _ hm; omega
  have hl0 : w1.heap.size ∉ o0.foot := fun hm => by have := o0.lt ho _ hm; omega
  have hlA : w1.heap.size ∉ A.foot := fun hm => by have := A.lt (hA A (by simp)) _ hm; omega
  have hA3 : A.ok w3 := A.keep (hA A (by simp)) hU3 (by simp)
  have ho3 : o0.ok w3 := o0.keep ho hU3 (by simp)
  generalize hlb : w1.heap.size = lb at *
  have hfoot : ∀ (x : Int) (o : Ob), (obAll [obBlk lb 3 #[.int .i64 x], o]).foot = lb :: o.foot := fun x o => by simp [obAll, feet, obBlk]
  have hin : ∀ {o : Ob} {x : Int} {w' : World}, To w3 (obAll [obBlk lb 3 #[.int .i64 1], o0]).foot w' (obAll [obBlk lb 3 #[.int .i64 x], o]).foot → (obAll [obBlk lb 3 #[.int .i64 x], o]).ok w' → To W o0.foot w' o.foot ∧ o.ok w' ∧ Blk w' lb 3 #[.int .i64 x] ∧ lb ∉ o.foot := fun {o x w'} ht hok => by
    rw [hfoot, hfoot] at ht
    have hS : Sep w' [obBlk lb 3 #[.int .i64 x], o] := hok
    have hln : lb ∉ o.foot := fun hm => hS.apart_ (i := 0) (j := 1) (x := obBlk lb 3 #[.int .i64 x]) (y := o) rfl rfl (by decide) lb (by simp [obBlk]) hm
    refine ⟨⟨(hU3.mono (by simp)).step ht.up (fun k hk => ?_), fun k hk => ?_⟩, hS.ok o (by simp), hS.ok (obBlk lb 3 #[.int .i64 x]) (by simp), hln⟩
    · rcases List.mem_cons.1 hk with h | h
      · right; omega
      · exact .inl h
    · rcases ht.sub k (List.mem_cons_of_mem _ hk) with h | h
      · rcases List.mem_cons.1 h with h1 | h1
        · exact absurd (h1 ▸ hk) hln
        · exact .inl h1
      · have := hU3.size; right; omega
  have hap3 : ∀ k ∈ A.foot, k ∉ (obAll [obBlk lb 3 #[.int .i64 1], o0]).foot := fun k hk => by
    rw [hfoot]
    intro hm
    rcases List.mem_cons.1 hm with h | h
    · exact hlA (h ▸ hk)
    · exact hapl k (mem_feet.2 ⟨A, by simp, hk⟩) h
  refine ⟨rfl, range_rule it hA3 (fun i o => i = 0 ∧ ∃ o', o = obAll [obBlk lb 3 #[.int .i64 1], o'] ∧ G 0 o') (fun c i o => c = .ret ∧ i = 0 ∧ ∃ o', o = obAll [obBlk lb 3 #[.int .i64 0], o'] ∧ (G 1 o' ∨ Gx 0 o')) (obAll [obBlk lb 3 #[.int .i64 1], o0]) ⟨rfl, o0, rfl, h0⟩ (Sep.cons (Sep.cons (Sep.nil w3) ho3 (by simp [feet])) hb3 (by simp [obBlk, feet]; exact hl0)) hap3 (fun va hva => by
      obtain ⟨x, rfl⟩ := hxs va hva; rfl) (by decide) (fun i va o w4 w5 hva hG ht4 ho4 ht5 ho5 => ?_) (fun r o w4 hG ho4 ht4 hd hr hro => ?_) (fun r c i o w4 hi hGx ho4 ht4 hd hr hro => ?_)⟩
  · obtain ⟨rfl, o', rfl, hG⟩ := hG
    obtain ⟨x, rfl⟩ := hxs va (List.mem_of_getElem? hva)
    obtain ⟨tO, kO, kL, nL⟩ := hin ht5 ho5
    refine ⟨rfl, rfl, rfl, ?_⟩
    refine ldb kL rfl ?_
    refine ar64 (by omega) ?_
    refine st kL (by decide) rfl fun w6 hb6 hu6 hs6 => ?_
    have hb6 : Blk w6 lb 3 #[.int .i64 0] := hb6
    have hy6 : Blk w6 W.heap.size TKU #[.func (.yield lp) #[] #[]] := by
      have h3 := hb1.upd hu13 (by simp)
      have h5 := h3.upd ht5.up (by rw [hfoot]; simp; exact ⟨by omega, hy0⟩)
      exact h5.upd hu6 (by simp; omega)
    refine ldb hy6 rfl ?_
    have k6 : o'.ok w6 := o'.keep kO hu6 (by intro k hk hm; rw [List.mem_singleton.1 hm] at hk; exact nL hk)
    have t6 : To W o0.foot w6 o'.foot := ⟨tO.up.step hu6 (by simp; omega), tO.sub⟩
    have hva0 : (xs.take 1)[0]? = some (oneV x) := by
      cases xs with
      | nil => cases hva
      | cons y ys => exact hva
    refine yl (hy 0 o' w6 (oneV x) hva0 hG k6 t6) ?_
    rintro bb w7 ⟨o2, hok2, hto2, hor⟩
    have n7 : lb ∉ o2.foot := fun hm => by
      rcases hto2.sub lb hm with h | h
      · exact nL h
      · have := hb6.lt; omega
    have b7 := hb6.upd hto2.up nL
    have res : (obAll [obBlk lb 3 #[.int .i64 0], o2]).ok w7 ∧ To w5 (obAll [obBlk lb 3 #[.int .i64 1], o']).foot w7 (obAll [obBlk lb 3 #[.int .i64 0], o2]).foot := by
      refine ⟨Sep.cons (Sep.cons (Sep.nil w7) hok2 (by simp [feet])) b7 (by simp [obBlk, feet]; exact n7), ?_⟩
      rw [hfoot, hfoot]
      refine ⟨(hu6.mono (by simp)).trans (hto2.up.mono (by simp; intro k hk; exact .inr hk)), fun k hk => ?_⟩
      rcases List.mem_cons.1 hk with h | h
      · exact .inl (by simp [h])
      · rcases hto2.sub k h with h1 | h1
        · exact .inl (List.mem_cons_of_mem _ h1)
        · have := hu6.size; right; omega
    rcases hor with ⟨rfl, hG'⟩ | ⟨rfl, hGx⟩
    · refine ldb b7 rfl ?_
      exact ⟨_, res.1, res.2, rfl, rfl, o2, rfl, .inl hG'⟩
    · exact ⟨_, res.1, res.2, rfl, rfl, o2, rfl, .inr hGx⟩
  · obtain ⟨hz, o', rfl, hG⟩ := hG
    obtain ⟨tO, kO, -, -⟩ := hin ht4 ho4
    have hx0 : xs = [] := List.length_eq_zero_iff.1 hz
    subst hx0
    rw [hfoot] at hro
    refine ⟨hd, fun w' hu hz => ⟨o', o'.keep kO hu (by intro k hk hm; rw [List.mem_singleton.1 hm] at hk; exact hro (List.mem_cons_of_mem _ hk)), ⟨tO.up.step hu (by have := hU3.size; simp; omega), tO.sub⟩, .inl hG⟩⟩
  · obtain ⟨rfl, rfl, o', rfl, hor⟩ := hGx
    obtain ⟨tO, kO, -, -⟩ := hin ht4 ho4
    rw [hfoot] at hro
    have hl1 : (xs.take 1).length = 1 := by rw [List.length_take]; omega
    refine ⟨hd, fun w' hu hz => ⟨o', o'.keep kO hu (by intro k hk hm; rw [List.mem_singleton.1 hm] at hk; exact hro (List.mem_cons_of_mem _ hk)), ⟨tO.up.step hu (by have := hU3.size; simp; omega), tO.sub⟩, ?_⟩⟩
    rcases hor with h | h
    · left; rw [hl1]; exact h
    · right; exact ⟨0, by rw [hl1]; decide, h⟩
set_option maxRecDepth 10000 in
theorem some_U {w : World} {fv kv : Value} {l : List Value} {A B : Ob} {p : Value → Bool} (it : IterC Try.prog fv (l.map oneV) A) (hA : A.ok w) (hk : KeepW Try.prog kv l p B) (hB : B.ok w) (hfv : ∃ g x y, fv = .func (.func g) x y) :
    Fn Try.prog 83 #[fv, kv] w fun r w' => r = .bool (l.any p) ∧ Upd [] w w' := by
  have hfv' := hfv
  have hk' := hk
  obtain ⟨g1, x1, y1, rfl⟩ := hfv'
  obtain ⟨gk, lk, rfl, -, -⟩ := hk'
  refine fnr_enter Try.func83 rfl rfl ?_
  refine al #[.bool false] (fun _ => by kernel_rfl) fun w1 hb1 hu1 hs1 => ?_
  have hb1 : Blk w1 w.heap.size 4 #[.bool false] := hb1
  refine cl (only_U w1) ?_
  rintro _ w2 ⟨b1, b2, rfl, hq1, hq2, hu2, hz1, hz2⟩
  refine cl (first_U w2) ?_
  rintro _ w3 ⟨b3, b4, rfl, hq3, hq4, hu3, hz3, hz4⟩
  have hon := onlyi_U (b1 := b1) (b2 := b2) it hk ⟨_, _, _, rfl⟩
  have hfi := firsti_U (b1 := b3) (b2 := b4) hon (fun x hx => by obtain ⟨y, -, rfl⟩ := List.mem_map.1 hx; exact ⟨y, rfl⟩) ⟨_, _, _, rfl⟩
  have hU3 : Upd [] w w3 := (hu1.trans hu2).trans hu3
  have hbr := (hb1.upd hu2 (by simp)).upd hu3 (by simp)
  have hq13 := hq1.upd hu3 (by simp)
  have hq23 := hq2.upd hu3 (by simp)
  have hsz2 := hu2.size
  have hsz3 := hu3.size
  have hob : (obEv [obEv [A, B, obBlk b1 TQU #[.func (.func g1) x1 y1], obBlk b2 TKU #[.func (.func gk) #[] lk]], obBlk b3 3 #[.int .i64 1], obBlk b4 TQU #[.func (.func 137) #[] #[.pointer (some ⟨b1, 0, none⟩), .pointer (some ⟨b2, 0, none⟩)]]]).ok w3 := by
    intro x hx
    simp only [List.mem_cons, List.not_mem_nil, or_false] at hx
    rcases hx with rfl | rfl | rfl
    · intro y hy
      simp only [List.mem_cons, List.not_mem_nil, or_false] at hy
      rcases hy with rfl | rfl | rfl | rfl
      · exact y.keep hA hU3 (by simp)
      · exact y.keep hB hU3 (by simp)
      · exact hq13
      · exact hq23
    · exact hq3
    · exact hq4
  have hfoot : ∀ (x : Value), (obBlk w.heap.size 4 #[x]).foot = [w.heap.size] := fun x => by simp [obBlk]
  refine ⟨rfl, range_rule hfi (w := w3) hob (fun i o => i = 0 ∧ o = obBlk w.heap.size 4 #[.bool false]) (fun c i o => c = .ret ∧ o = obBlk w.heap.size 4 #[.bool true]) (obBlk w.heap.size 4 #[.bool false]) ⟨rfl, rfl⟩ hbr ?_ (fun va hva => by
      have := List.mem_of_mem_take hva
      obtain ⟨x, -, rfl⟩ := List.mem_map.1 this; rfl) (by decide) (fun i va o w4 w5 hva hG ht4 ho4 ht5 ho5 => ?_) (fun r o w4 hG ho4 ht4 hd hr hro => ?_) (fun r c i o w4 hi hGx ho4 ht4 hd hr hro => ?_)⟩
  · intro k hk hm
    rw [hfoot] at hm
    have e := List.mem_singleton.1 hm
    subst e
    simp only [obEv, feet, obBlk, List.flatMap_cons, List.flatMap_nil, List.append_nil, List.mem_append, List.mem_singleton] at hk
    rcases hk with (h | h | h | h) | h | h
    · have := A.lt hA _ h; omega
    · have := B.lt hB _ h; omega
    · omega
    · omega
    · omega
    · omega
  · obtain ⟨rfl, rfl⟩ := hG
    have hb5 : Blk w5 w.heap.size 4 #[.bool false] := ho5
    obtain ⟨x, rfl⟩ : ∃ x, va = oneV x := by
      obtain ⟨x, -, e⟩ := List.mem_map.1 (List.mem_of_mem_take (List.mem_of_getElem? hva))
      exact ⟨x, e.symm⟩
    refine ⟨rfl, rfl, rfl, ?_⟩
    refine st hb5 (by show 0 < 1; omega) rfl fun w6 hb6 hu6 hs6 => ?_
    have hb6 : Blk w6 w.heap.size 4 #[.bool true] := hb6
    refine ⟨obBlk w.heap.size 4 #[.bool true], hb6, ⟨by rw [hfoot]; exact hu6, fun k hk => by rw [hfoot] at hk ⊢; exact .inl hk⟩, rfl, rfl⟩
  · obtain ⟨hz, rfl⟩ := hG
    have hb4 : Blk w4 w.heap.size 4 #[.bool false] := ho4
    rw [hfoot] at hro ht4
    refine st hb4 (by decide) rfl fun w5 hb5 hu5 hs5 => ?_
    have hb5 : Blk w5 w.heap.size 4 #[.bool false] := hb5
    have hrn : r ≠ w.heap.size := fun h => hro (by simp [h])
    refine ⟨hd.upd hu5 (by simpa using hrn), fun w' hu hz' => ?_⟩
    have hb' := hb5.upd hu (by simp; exact fun h => hrn h.symm)
    refine rl1 (v := .bool false) (by rw [hb'.cell]; rfl) ?_
    refine ⟨?_, ((hU3.step ht4.up (by simp)).step hu5 (by simp)).step hu (by have := hU3.size; simp; omega)⟩
    have hnil : l.filter p = [] := by
      have : (((l.filter p).map oneV).take 1).length = 0 := hz
      rw [List.length_take, List.length_map] at this
      exact List.length_eq_zero_iff.1 (by omega)
    have : l.any p = false := by
      rw [List.any_eq_false]
      intro x hx hp
      have hm : x ∈ l.filter p := List.mem_filter.2 ⟨hx, hp⟩
      rw [hnil] at hm; cases hm
    rw [this]; rfl
  · obtain ⟨rfl, rfl⟩ := hGx
    have hb4 : Blk w4 w.heap.size 4 #[.bool true] := ho4
    rw [hfoot] at hro ht4
    have hrn : r ≠ w.heap.size := fun h => hro (by simp [h])
    refine ⟨hd, fun w' hu hz' => ?_⟩
    have hb' := hb4.upd hu (by simp; exact fun h => hrn h.symm)
    refine rl1 (v := .bool true) (by rw [hb'.cell]; rfl) ?_
    refine ⟨?_, (hU3.step ht4.up (by simp)).step hu (by have := hU3.size; simp; omega)⟩
    have : l.any p = true := by
      rw [List.any_eq_true]
      rw [List.length_take, List.length_map] at hi
      cases hf : l.filter p with
      | nil => rw [hf] at hi; simp at hi
      | cons x r =>
        have hm : x ∈ l.filter p := by rw [hf]; simp
        obtain ⟨h1, h2⟩ := List.mem_filter.1 hm
        exact ⟨x, h1, h2⟩
    rw [this]; rfl
abbrev TSL : Nat := 97
abbrev TQL : Nat := 105
abbrev TKL : Nat := 107
instance : FnT Try.prog TQL := ⟨⟨_, _, _, Try.underlying105⟩⟩
instance : FnT Try.prog TKL := ⟨⟨_, _, _, Try.underlying107⟩⟩
theorem of_L (v : Value) (w : World) : Fn Try.prog 50 #[v] w fun r w' => r = .func (.func 89) #[] #[.pointer (some ⟨w.heap.size, 0, none⟩)] ∧ (∀ a n c, v = .slice a n c → Blk w' w.heap.size TSL #[v]) ∧ Upd [] w w' := by
  refine fn_enter Try.func50 rfl rfl ?_
  refine bx fun w1 hb1 hu1 hs1 => ?_
  exact ⟨rfl, fun a n c h => by subst h; exact hb1, hu1⟩
theorem ofi_L {b : Nat} {v : Value} {l : List Value} (hl : l.length ≤ 4294967296) : IterC Try.prog (.func (.func 89) #[] #[.pointer (some ⟨b, 0, none⟩)]) (l.map oneV) (obEv [obBlk b TSL #[v], obSl 63 1 v l.length l]) := by
  refine ⟨_, _, rfl, HasBody.h, fun lp G Gx o0 W hA hap h0 ho hy => ?_⟩
  have hAk : ∀ {o : Ob} {w' : World}, To W o0.foot w' o.foot → Blk w' b TSL #[v] ∧ Sl w' 63 1 v l.length l := fun {o w'} ht => by
    have h2 : (obEv [obBlk b TSL #[v], obSl 63 1 v l.length l]).ok w' := (obEv [obBlk b TSL #[v], obSl 63 1 v l.length l]).keep hA ht.up hap
    exact ⟨h2 (obBlk b TSL #[v]) (by simp), h2 (obSl 63 1 v l.length l) (by simp)⟩
  obtain ⟨hb0, hs0⟩ := hAk (To.refl W o0.foot)
  obtain ⟨va, vc, rfl, -⟩ := hs0.form
  refine fnr_enter Try.func89 rfl rfl ?_
  refine ldb hb0 rfl ?_
  refine len_sl ?_
  refine loop_ruleR [0, 5, 6] [7] (fun vs w' m => ∃ (i : Nat) (o : Ob), vs = [.int .i64 (i : Int)] ∧ i ≤ l.length ∧ m = l.length - i ∧ G i o ∧ o.ok w' ∧ To W o0.foot w' o.foot) rfl [.int .i64 0] l.length rfl ⟨0, o0, rfl, by omega, rfl, h0, ho, To.refl _ _⟩ ?_
  rintro _ w2 m ⟨i, o, rfl, hi, rfl, hG, hok, hto⟩
  refine cd (fun hlt => ?_) (fun hlt => ?_)
  · have hlt : i < l.length := by omega
    obtain ⟨hb2, hs2⟩ := hAk hto
    obtain ⟨vb, vo, vc', he, -⟩ := hs2.some_ (by omega)
    cases he
    refine ix i rfl hlt ?_
    refine ld (v := l.getD i undef) (by rw [(hs2.cells rfl (i * 1) (by omega)).1, Nat.mul_one]; simp [List.getD, hlt]) ?_
    have hx : (l.map oneV)[i]? = some (oneV (l.getD i undef)) := by rw [List.getElem?_map, List.getElem?_eq_getElem hlt]; simp [List.getD, hlt]
    refine yl (hy i o w2 (oneV (l.getD i undef)) hx hG hok hto) ?_
    rintro bb w3 ⟨o', hok', hto', ⟨rfl, hG'⟩ | ⟨rfl, hGx⟩⟩
    · refine ar64 (by omega) ?_
      exact round_mkR [.int .i64 ((i + 1 : Nat) : Int)] (l.length - (i + 1)) rfl rfl ⟨i + 1, o', rfl, by omega, rfl, hG', hok', hto.trans hto'⟩ (by omega)
    · exact ⟨o', hok', hto.trans hto', .inr ⟨i, by rw [List.length_map]; exact hlt, hGx⟩⟩
  · have hi : i = l.length := by omega
    subst hi
    exact ⟨o, hok, hto, .inl (by rw [List.length_map]; exact hG)⟩
theorem only_L {g1 g2 : Nat} {x1 y1 x2 y2 : Array Value} (w : World) : Fn Try.prog 88 #[.func (.func g1) x1 y1, .func (.func g2) x2 y2] w fun r w' =>
    ∃ b1 b2, r = .func (.func 114) #[] #[.pointer (some ⟨b1, 0, none⟩), .pointer (some ⟨b2, 0, none⟩)] ∧ Blk w' b1 TQL #[.func (.func g1) x1 y1] ∧ Blk w' b2 TKL #[.func (.func g2) x2 y2] ∧ Upd [] w w' ∧ w.heap.size ≤ b1 ∧ b1 < b2 := by
  refine fn_enter Try.func88 rfl rfl ?_
  refine bx fun w1 hb1 hu1 hs1 => ?_
  refine bx fun w2 hb2 hu2 hs2 => ?_
  have hb12 := hb1.upd hu2 (by simp)
  refine ldb hb12 rfl ?_
  refine fn_eq ?_
  refine ldb hb2 rfl ?_
  refine fn_eq ?_
  exact ⟨_, _, rfl, hb12, hb2, hu1.trans hu2, Nat.le_refl _, by omega⟩
theorem first_L {g1 : Nat} {x1 y1 : Array Value} (w : World) : Fn Try.prog 87 #[.func (.func g1) x1 y1, .int .i64 1] w fun r w' =>
    ∃ b1 b2, r = .func (.func 113) #[] #[.pointer (some ⟨b1, 0, none⟩), .pointer (some ⟨b2, 0, none⟩)] ∧ Blk w' b1 3 #[.int .i64 1] ∧ Blk w' b2 TQL #[.func (.func g1) x1 y1] ∧ Upd [] w w' ∧ w.heap.size ≤ b2 ∧ b2 < b1 := by
  refine fn_enter Try.func87 rfl rfl ?_
  refine bx fun w1 hb1 hu1 hs1 => ?_
  refine bx fun w2 hb2 hu2 hs2 => ?_
  have hb12 := hb1.upd hu2 (by simp)
  refine ldb hb12 rfl ?_
  refine fn_eq ?_
  refine ldb hb2 rfl ?_
  exact ⟨_, _, rfl, hb2, hb12, hu1.trans hu2, Nat.le_refl _, by omega⟩
set_option maxRecDepth 10000 in
theorem onlyi_L {b1 b2 : Nat} {fv kv : Value} {l : List Value} {A B : Ob} {p : Value → Bool} (it : IterC Try.prog fv (l.map oneV) A) (hk : KeepW Try.prog kv l p B) (hfv : ∃ g x y, fv = .func (.func g) x y) :
    IterC Try.prog (.func (.func 114) #[] #[.pointer (some ⟨b1, 0, none⟩), .pointer (some ⟨b2, 0, none⟩)]) ((l.filter p).map oneV) (obEv [A, B, obBlk b1 TQL #[fv], obBlk b2 TKL #[kv]]) := by
  obtain ⟨gk, lk, rfl, hbk, hk⟩ := hk
  refine ⟨_, _, rfl, HasBody.h, fun lp G Gx o0 W hA hap h0 ho hy => ?_⟩
  have hapl : ∀ k ∈ feet [A, B, obBlk b1 TQL #[fv], obBlk b2 TKL #[.func (.func gk) #[] lk]], k ∉ o0.foot := hap
  have hB1 : Blk W b1 TQL #[fv] := hA (obBlk b1 TQL #[fv]) (by simp)
  obtain ⟨g1, x1, y1, rfl⟩ := hfv
  refine fnr_enter Try.func114 rfl rfl ?_
  refine bx fun w1 hb1 hu1 hs1 => ?_
  have hb1 : Blk w1 W.heap.size TKL #[.func (.yield lp) #[] #[]] := hb1
  refine ldb (hB1.upd hu1 (by simp)) rfl ?_
  have hy0 : W.heap.size ∉ o0.foot := fun hm => by have := o0.lt ho _ hm; omega
  refine ⟨rfl, range_rule it (A.keep (hA A (by simp)) hu1 (by simp)) (fun i o => G (cntV p l i) o) (fun c i o => c = .ret ∧ ∃ j, j < (l.filter p).length ∧ Gx j o) o0 (by simpa [cntV] using h0) (o0.keep ho hu1 (by simp)) (fun k hk => hapl k (mem_feet.2 ⟨A, by simp, hk⟩)) (fun va hva => by
      obtain ⟨x, -, rfl⟩ := List.mem_map.1 hva; rfl) (by decide) (fun i va o w2 w3 hva hG ht2 ho2 ht3 ho3 => ?_) (fun r o w2 hG ho2 ht2 hd hr hro => ?_) (fun r c i o w2 hi hGx ho2 ht2 hd hr hro => ?_)⟩
  · have hil : i < l.length := by
      rcases Nat.lt_or_ge i l.length with h | h
      · exact h
      · rw [List.getElem?_eq_none (by simpa using h)] at hva; cases hva
    have hx : va = oneV (l.getD i undef) := by
      rw [List.getElem?_map, List.getElem?_eq_getElem hil] at hva
      have := Option.some.inj hva
      rw [← this]; simp [List.getD, hil]
    subst hx
    have hcs := cntV_s p l i hil
    have hmem : l.getD i undef ∈ l := by simp [List.getD, hil]
    have hat := cntV_at p l i hil
    generalize l.getD i undef = x at *
    have hup : Upd o0.foot W w3 := (hu1.mono (by simp)).trans ht3.up
    have hA3 : (obEv [A, B, obBlk b1 TQL #[.func (.func g1) x1 y1], obBlk b2 TKL #[.func (.func gk) #[] lk]]).ok w3 := (obEv [A, B, obBlk b1 TQL #[.func (.func g1) x1 y1], obBlk b2 TKL #[.func (.func gk) #[] lk]]).keep hA hup hapl
    have hy3 := hb1.upd ht3.up hy0
    refine ⟨rfl, rfl, rfl, ?_⟩
    refine ldb (hA3 (obBlk b2 TKL #[.func (.func gk) #[] lk]) (by simp)) rfl ?_
    refine cl' hbk (hk x hmem w3 (hA3 B (by simp))) ?_
    rintro _ w4 ⟨rfl, hu4⟩
    have ho4 := o.keep ho3 hu4 (by simp)
    have htr : To W o0.foot w4 o.foot := ⟨hup.trans (hu4.mono (by simp)), fun k hk => by
      rcases ht3.sub k hk with h | h
      · exact .inl h
      · have := hu1.size; right; omega⟩
    cases hp : p x with
    | true =>
      rw [hp] at hcs
      refine ldb (hy3.upd hu4 (by simp)) rfl ?_
      refine yl (hy (cntV p l i) o w4 (oneV x) (by rw [List.getElem?_map, hat hp]; rfl) hG ho4 htr) ?_
      rintro bb w5 ⟨o', hok', hto', ⟨rfl, hG'⟩ | ⟨rfl, hGx⟩⟩
      · exact ⟨o', hok', (To.of0 _ hu4).trans hto', (show G (cntV p l (i + 1)) o' by rw [hcs]; exact hG')⟩
      · refine ⟨o', hok', (To.of0 _ hu4).trans hto', rfl, cntV p l i, ?_, hGx⟩
        have := hat hp
        rcases Nat.lt_or_ge (cntV p l i) (l.filter p).length with h | h
        · exact h
        · rw [List.getElem?_eq_none h] at this; cases this
    | false =>
      rw [hp] at hcs
      exact ⟨o, ho4, To.of0 _ hu4, (show G (cntV p l (i + 1)) o by rw [hcs]; exact hG)⟩
  · have e : cntV p l (l.map oneV).length = ((l.filter p).map oneV).length := by simp [cntV]
    replace hG : G (cntV p l (l.map oneV).length) o := hG
    rw [e] at hG
    refine ⟨hd, fun w' hu hz => ⟨o, o.keep ho2 hu (by intro k hk hm; rw [List.mem_singleton.1 hm] at hk; exact hro hk), ⟨((hu1.mono (by simp)).trans ht2.up).step hu (by have := hu1.size; simp; omega), fun k hk => ?_⟩, .inl hG⟩⟩
    rcases ht2.sub k hk with h | h
    · exact .inl h
    · have := hu1.size; right; omega
  · obtain ⟨rfl, j, hj, hGx⟩ := hGx
    refine ⟨hd, fun w' hu hz => ⟨o, o.keep ho2 hu (by intro k hk hm; rw [List.mem_singleton.1 hm] at hk; exact hro hk), ⟨((hu1.mono (by simp)).trans ht2.up).step hu (by have := hu1.size; simp; omega), fun k hk => ?_⟩, .inr ⟨j, by rw [List.length_map]; exact hj, hGx⟩⟩⟩
    rcases ht2.sub k hk with h | h
    · exact .inl h
    · have := hu1.size; right; omega
set_option maxRecDepth 10000 in
theorem firsti_L {b1 b2 : Nat} {fv : Value} {xs : List (Array Value)} {A : Ob} (it : IterC Try.prog fv xs A) (hxs : ∀ x ∈ xs, ∃ y, x = oneV y) (hfv : ∃ g x y, fv = .func (.func g) x y) :
    IterC Try.prog (.func (.func 113) #[] #[.pointer (some ⟨b1, 0, none⟩), .pointer (some ⟨b2, 0, none⟩)]) (xs.take 1) (obEv [A, obBlk b1 3 #[.int .i64 1], obBlk b2 TQL #[fv]]) := by
  refine ⟨_, _, rfl, HasBody.h, fun lp G Gx o0 W hA hap h0 ho hy => ?_⟩
  have hapl : ∀ k ∈ feet [A, obBlk b1 3 #[.int .i64 1], obBlk b2 TQL #[fv]], k ∉ o0.foot := hap
  have hB1 : Blk W b1 3 #[.int .i64 1] := hA (obBlk b1 3 #[.int .i64 1]) (by simp)
  have hB2 : Blk W b2 TQL #[fv] := hA (obBlk b2 TQL #[fv]) (by simp)
  obtain ⟨g1, x1, y1, rfl⟩ := hfv
  refine fnr_enter Try.func113 rfl rfl ?_
  refine bx fun w1 hb1 hu1 hs1 => ?_
  have hb1 : Blk w1 W.heap.size TKL #[.func (.yield lp) #[] #[]] := hb1
  refine ldb (hB1.upd hu1 (by simp)) rfl ?_
  refine al #[.int .i64 0] (fun _ => by kernel_rfl) fun w2 hb2 hu2 hs2 => ?_
  refine st hb2 (by decide) rfl fun w3 hb3 hu3 hs3 => ?_
  have hb3 : Blk w3 w1.heap.size 3 #[.int .i64 1] := hb3
  have hu13 : Upd [] w1 w3 := hu2.step hu3 (by simp)
  have hU3 := hu1.trans hu13
  refine ldb (hB2.upd hU3 (by simp)) rfl ?_
  have hy0 : W.heap.size ∉ o0.foot := fun hm => by have := o0.lt ho _ hm; omega
  have hl0 : w1.heap.size ∉ o0.foot := fun hm => by have := o0.lt ho _ hm; omega
  have hlA : w1.heap.size ∉ A.foot := fun hm => by have := A.lt (hA A (by simp)) _ hm; omega
  have hA3 : A.ok w3 := A.keep (hA A (by simp)) hU3 (by simp)
  have ho3 : o0.ok w3 := o0.keep ho hU3 (by simp)
  generalize hlb : w1.heap.size = lb at *
  have hfoot : ∀ (x : Int) (o : Ob), (obAll [obBlk lb 3 #[.int .i64 x], o]).foot = lb :: o.foot := fun x o => by simp [obAll, feet, obBlk]
  have hin : ∀ {o : Ob} {x : Int} {w' : World}, To w3 (obAll [obBlk lb 3 #[.int .i64 1], o0]).foot w' (obAll [obBlk lb 3 #[.int .i64 x], o]).foot → (obAll [obBlk lb 3 #[.int .i64 x], o]).ok w' → To W o0.foot w' o.foot ∧ o.ok w' ∧ Blk w' lb 3 #[.int .i64 x] ∧ lb ∉ o.foot := fun {o x w'} ht hok => by
    rw [hfoot, hfoot] at ht
    have hS : Sep w' [obBlk lb 3 #[.int .i64 x], o] := hok
    have hln : lb ∉ o.foot := fun hm => hS.apart_ (i := 0) (j := 1) (x := obBlk lb 3 #[.int .i64 x]) (y := o) rfl rfl (by decide) lb (by simp [obBlk]) hm
    refine ⟨⟨(hU3.mono (by simp)).step ht.up (fun k hk => ?_), fun k hk => ?_⟩, hS.ok o (by simp), hS.ok (obBlk lb 3 #[.int .i64 x]) (by simp), hln⟩
    · rcases List.mem_cons.1 hk with h | h
      · right; omega
      · exact .inl h
    · rcases ht.sub k (List.mem_cons_of_mem _ hk) with h | h
      · rcases List.mem_cons.1 h with h1 | h1
        · exact absurd (h1 ▸ hk) hln
        · exact .inl h1
      · have := hU3.size; right; omega
  have hap3 : ∀ k ∈ A.foot, k ∉ (obAll [obBlk lb 3 #[.int .i64 1], o0]).foot := fun k hk => by
    rw [hfoot]
    intro hm
    rcases List.mem_cons.1 hm with h | h
    · exact hlA (h ▸ hk)
    · exact hapl k (mem_feet.2 ⟨A, by simp, hk⟩) h
  refine ⟨rfl, range_rule it hA3 (fun i o => i = 0 ∧ ∃ o', o = obAll [obBlk lb 3 #[.int .i64 1], o'] ∧ G 0 o') (fun c i o => c = .ret ∧ i = 0 ∧ ∃ o', o = obAll [obBlk lb 3 #[.int .i64 0], o'] ∧ (G 1 o' ∨ Gx 0 o')) (obAll [obBlk lb 3 #[.int .i64 1], o0]) ⟨rfl, o0, rfl, h0⟩ (Sep.cons (Sep.cons (Sep.nil w3) ho3 (by simp [feet])) hb3 (by simp [obBlk, feet]; exact hl0)) hap3 (fun va hva => by
      obtain ⟨x, rfl⟩ := hxs va hva; rfl) (by decide) (fun i va o w4 w5 hva hG ht4 ho4 ht5 ho5 => ?_) (fun r o w4 hG ho4 ht4 hd hr hro => ?_) (fun r c i o w4 hi hGx ho4 ht4 hd hr hro => ?_)⟩
  · obtain ⟨rfl, o', rfl, hG⟩ := hG
    obtain ⟨x, rfl⟩ := hxs va (List.mem_of_getElem? hva)
    obtain ⟨tO, kO, kL, nL⟩ := hin ht5 ho5
    refine ⟨rfl, rfl, rfl, ?_⟩
    refine ldb kL rfl ?_
    refine ar64 (by omega) ?_
    refine st kL (by decide) rfl fun w6 hb6 hu6 hs6 => ?_
    have hb6 : Blk w6 lb 3 #[.int .i64 0] := hb6
    have hy6 : Blk w6 W.heap.size TKL #[.func (.yield lp) #[] #[]] := by
      have h3 := hb1.upd hu13 (by simp)
      have h5 := h3.upd ht5.up (by rw [hfoot]; simp; exact ⟨by omega, hy0⟩)
      exact h5.upd hu6 (by simp; omega)
    refine ldb hy6 rfl ?_
    have k6 : o'.ok w6 := o'.keep kO hu6 (by intro k hk hm; rw [List.mem_singleton.1 hm] at hk; exact nL hk)
    have t6 : To W o0.foot w6 o'.foot := ⟨tO.up.step hu6 (by simp; omega), tO.sub⟩
    have hva0 : (xs.take 1)[0]? = some (oneV x) := by
      cases xs with
      | nil => cases hva
      | cons y ys => exact hva
    refine yl (hy 0 o' w6 (oneV x) hva0 hG k6 t6) ?_
    rintro bb w7 ⟨o2, hok2, hto2, hor⟩
    have n7 : lb ∉ o2.foot := fun hm => by
      rcases hto2.sub lb hm with h | h
      · exact nL h
      · have := hb6.lt; omega
    have b7 := hb6.upd hto2.up nL
    have res : (obAll [obBlk lb 3 #[.int .i64 0], o2]).ok w7 ∧ To w5 (obAll [obBlk lb 3 #[.int .i64 1], o']).foot w7 (obAll [obBlk lb 3 #[.int .i64 0], o2]).foot := by
      refine ⟨Sep.cons (Sep.cons (Sep.nil w7) hok2 (by simp [feet])) b7 (by simp [obBlk, feet]; exact n7), ?_⟩
      rw [hfoot, hfoot]
      refine ⟨(hu6.mono (by simp)).trans (hto2.up.mono (by simp; intro k hk; exact .inr hk)), fun k hk => ?_⟩
      rcases List.mem_cons.1 hk with h | h
      · exact .inl (by simp [h])
      · rcases hto2.sub k h with h1 | h1
        · exact .inl (List.mem_cons_of_mem _ h1)
        · have := hu6.size; right; omega
    rcases hor with ⟨rfl, hG'⟩ | ⟨rfl, hGx⟩
    · refine ldb b7 rfl ?_
      exact ⟨_, res.1, res.2, rfl, rfl, o2, rfl, .inl hG'⟩
    · exact ⟨_, res.1, res.2, rfl, rfl, o2, rfl, .inr hGx⟩
  · obtain ⟨hz, o', rfl, hG⟩ := hG
    obtain ⟨tO, kO, -, -⟩ := hin ht4 ho4
    have hx0 : xs = [] := List.length_eq_zero_iff.1 hz
    subst hx0
    rw [hfoot] at hro
    refine ⟨hd, fun w' hu hz => ⟨o', o'.keep kO hu (by intro k hk hm; rw [List.mem_singleton.1 hm] at hk; exact hro (List.mem_cons_of_mem _ hk)), ⟨tO.up.step hu (by have := hU3.size; simp; omega), tO.sub⟩, .inl hG⟩⟩
  · obtain ⟨rfl, rfl, o', rfl, hor⟩ := hGx
    obtain ⟨tO, kO, -, -⟩ := hin ht4 ho4
    rw [hfoot] at hro
    have hl1 : (xs.take 1).length = 1 := by rw [List.length_take]; omega
    refine ⟨hd, fun w' hu hz => ⟨o', o'.keep kO hu (by intro k hk hm; rw [List.mem_singleton.1 hm] at hk; exact hro (List.mem_cons_of_mem _ hk)), ⟨tO.up.step hu (by have := hU3.size; simp; omega), tO.sub⟩, ?_⟩⟩
    rcases hor with h | h
    · left; rw [hl1]; exact h
    · right; exact ⟨0, by rw [hl1]; decide, h⟩
set_option maxRecDepth 10000 in
theorem some_L {w : World} {fv kv : Value} {l : List Value} {A B : Ob} {p : Value → Bool} (it : IterC Try.prog fv (l.map oneV) A) (hA : A.ok w) (hk : KeepW Try.prog kv l p B) (hB : B.ok w) (hfv : ∃ g x y, fv = .func (.func g) x y) :
    Fn Try.prog 49 #[fv, kv] w fun r w' => r = .bool (l.any p) ∧ Upd [] w w' := by
  have hfv' := hfv
  have hk' := hk
  obtain ⟨g1, x1, y1, rfl⟩ := hfv'
  obtain ⟨gk, lk, rfl, -, -⟩ := hk'
  refine fnr_enter Try.func49 rfl rfl ?_
  refine al #[.bool false] (fun _ => by kernel_rfl) fun w1 hb1 hu1 hs1 => ?_
  have hb1 : Blk w1 w.heap.size 4 #[.bool false] := hb1
  refine cl (only_L w1) ?_
  rintro _ w2 ⟨b1, b2, rfl, hq1, hq2, hu2, hz1, hz2⟩
  refine cl (first_L w2) ?_
  rintro _ w3 ⟨b3, b4, rfl, hq3, hq4, hu3, hz3, hz4⟩
  have hon := onlyi_L (b1 := b1) (b2 := b2) it hk ⟨_, _, _, rfl⟩
  have hfi := firsti_L (b1 := b3) (b2 := b4) hon (fun x hx => by obtain ⟨y, -, rfl⟩ := List.mem_map.1 hx; exact ⟨y, rfl⟩) ⟨_, _, _, rfl⟩
  have hU3 : Upd [] w w3 := (hu1.trans hu2).trans hu3
  have hbr := (hb1.upd hu2 (by simp)).upd hu3 (by simp)
  have hq13 := hq1.upd hu3 (by simp)
  have hq23 := hq2.upd hu3 (by simp)
  have hsz2 := hu2.size
  have hsz3 := hu3.size
  have hob : (obEv [obEv [A, B, obBlk b1 TQL #[.func (.func g1) x1 y1], obBlk b2 TKL #[.func (.func gk) #[] lk]], obBlk b3 3 #[.int .i64 1], obBlk b4 TQL #[.func (.func 114) #[] #[.pointer (some ⟨b1, 0, none⟩), .pointer (some ⟨b2, 0, none⟩)]]]).ok w3 := by
    intro x hx
    simp only [List.mem_cons, List.not_mem_nil, or_false] at hx
    rcases hx with rfl | rfl | rfl
    · intro y hy
      simp only [List.mem_cons, List.not_mem_nil, or_false] at hy
      rcases hy with rfl | rfl | rfl | rfl
      · exact y.keep hA hU3 (by simp)
      · exact y.keep hB hU3 (by simp)
      · exact hq13
      · exact hq23
    · exact hq3
    · exact hq4
  have hfoot : ∀ (x : Value), (obBlk w.heap.size 4 #[x]).foot = [w.heap.size] := fun x => by simp [obBlk]
  refine ⟨rfl, range_rule hfi (w := w3) hob (fun i o => i = 0 ∧ o = obBlk w.heap.size 4 #[.bool false]) (fun c i o => c = .ret ∧ o = obBlk w.heap.size 4 #[.bool true]) (obBlk w.heap.size 4 #[.bool false]) ⟨rfl, rfl⟩ hbr ?_ (fun va hva => by
      have := List.mem_of_mem_take hva
      obtain ⟨x, -, rfl⟩ := List.mem_map.1 this; rfl) (by decide) (fun i va o w4 w5 hva hG ht4 ho4 ht5 ho5 => ?_) (fun r o w4 hG ho4 ht4 hd hr hro => ?_) (fun r c i o w4 hi hGx ho4 ht4 hd hr hro => ?_)⟩
  · intro k hk hm
    rw [hfoot] at hm
    have e := List.mem_singleton.1 hm
    subst e
    simp only [obEv, feet, obBlk, List.flatMap_cons, List.flatMap_nil, List.append_nil, List.mem_append, List.mem_singleton] at hk
    rcases hk with (h | h | h | h) | h | h
    · have := A.lt hA _ h; omega
    · have := B.lt hB _ h; omega
    · omega
    · omega
    · omega
    · omega
  · obtain ⟨rfl, rfl⟩ := hG
    have hb5 : Blk w5 w.heap.size 4 #[.bool false] := ho5
    obtain ⟨x, rfl⟩ : ∃ x, va = oneV x := by
      obtain ⟨x, -, e⟩ := List.mem_map.1 (List.mem_of_mem_take (List.mem_of_getElem? hva))
      exact ⟨x, e.symm⟩
    refine ⟨rfl, rfl, rfl, ?_⟩
    refine st hb5 (by show 0 < 1; omega) rfl fun w6 hb6 hu6 hs6 => ?_
    have hb6 : Blk w6 w.heap.size 4 #[.bool true] := hb6
    refine ⟨obBlk w.heap.size 4 #[.bool true], hb6, ⟨by rw [hfoot]; exact hu6, fun k hk => by rw [hfoot] at hk ⊢; exact .inl hk⟩, rfl, rfl⟩
  · obtain ⟨hz, rfl⟩ := hG
    have hb4 : Blk w4 w.heap.size 4 #[.bool false] := ho4
    rw [hfoot] at hro ht4
    refine st hb4 (by decide) rfl fun w5 hb5 hu5 hs5 => ?_
    have hb5 : Blk w5 w.heap.size 4 #[.bool false] := hb5
    have hrn : r ≠ w.heap.size := fun h => hro (by simp [h])
    refine ⟨hd.upd hu5 (by simpa using hrn), fun w' hu hz' => ?_⟩
    have hb' := hb5.upd hu (by simp; exact fun h => hrn h.symm)
    refine rl1 (v := .bool false) (by rw [hb'.cell]; rfl) ?_
    refine ⟨?_, ((hU3.step ht4.up (by simp)).step hu5 (by simp)).step hu (by have := hU3.size; simp; omega)⟩
    have hnil : l.filter p = [] := by
      have : (((l.filter p).map oneV).take 1).length = 0 := hz
      rw [List.length_take, List.length_map] at this
      exact List.length_eq_zero_iff.1 (by omega)
    have : l.any p = false := by
      rw [List.any_eq_false]
      intro x hx hp
      have hm : x ∈ l.filter p := List.mem_filter.2 ⟨hx, hp⟩
      rw [hnil] at hm; cases hm
    rw [this]; rfl
  · obtain ⟨rfl, rfl⟩ := hGx
    have hb4 : Blk w4 w.heap.size 4 #[.bool true] := ho4
    rw [hfoot] at hro ht4
    have hrn : r ≠ w.heap.size := fun h => hro (by simp [h])
    refine ⟨hd, fun w' hu hz' => ?_⟩
    have hb' := hb4.upd hu (by simp; exact fun h => hrn h.symm)
    refine rl1 (v := .bool true) (by rw [hb'.cell]; rfl) ?_
    refine ⟨?_, (hU3.step ht4.up (by simp)).step hu (by have := hU3.size; simp; omega)⟩
    have : l.any p = true := by
      rw [List.any_eq_true]
      rw [List.length_take, List.length_map] at hi
      cases hf : l.filter p with
      | nil => rw [hf] at hi; simp at hi
      | cons x r =>
        have hm : x ∈ l.filter p := by rw [hf]; simp
        obtain ⟨h1, h2⟩ := List.mem_filter.1 hm
        exact ⟨x, h1, h2⟩
    rw [this]; rfl
end Go.Proofs.Ytbnbbafffihapaa

/- level.Rising, level.Nested. -/
namespace Go.Proofs.Ytbnbbafffihapaa
open Go.RowKit
attribute [local irreducible] Instr.loadAt Instr.storeAt Instr.fieldAt Instr.indexAt Instr.sliceAt Instr.buildSlice Instr.box Instr.alloc Builtin.append_ Builtin.len_ Builtin.min_ Builtin.max_ Calls Instr.build Instr.makeSlice binSem convert Instr.index Instr.range Instr.next
abbrev TU : Nat := 47
abbrev TUs : Nat := 63
def risB (l : List Int) : Bool := (List.range l.length).all fun i => decide (i = 0) || decide (l.getD (i - 1) 0 < l.getD i 0)
theorem all_range {p : Nat → Bool} (n : Nat) : (List.range n).all p = true ↔ ∀ i, i < n → p i = true := by simp [List.all_eq_true]
theorem all_range_f {p : Nat → Bool} (n i : Nat) (hi : i < n) (h : p i = false) : (List.range n).all p = false := by
  rw [List.all_eq_false]
  exact ⟨i, List.mem_range.2 hi, by simp [h]⟩
theorem indexU {w : World} {v : Value} {l : List Int} (h : Sl w TU 1 v l.length (l.map (.int .u64))) (s : Int) : Fn Try.prog 111 #[v, .int .u64 s] w fun r w' => (∃ i : Int, r = .int .i64 i ∧ decide (i ≥ 0) = hasI l s) ∧ w' = w := by
  have hle := h.le
  simp only [maxLen] at hle
  obtain ⟨a, cap, rfl, -⟩ := h.form
  refine fn_enter Try.func111 rfl rfl ?_
  refine len_sl ?_
  refine loop_rule [0, 1, 7] [8] (fun vs w' m => ∃ j : Nat, vs = [.int .i64 j] ∧ j ≤ l.length ∧ m = l.length - j ∧ hasI (l.take j) s = false ∧ w' = w) rfl [.int .i64 0] l.length rfl ⟨0, rfl, by omega, rfl, rfl, rfl⟩ ?_
  rintro _ w1 m ⟨j, rfl, hj, rfl, ht, rfl⟩
  refine cd (fun hlt => ?_) (fun hlt => ?_)
  · have hlt : j < l.length := by omega
    obtain ⟨b, o, c2, he, -⟩ := h.some_ (by omega)
    cases he
    refine ix j rfl hlt ?_
    refine ld (v := .int .u64 (l.getD j 0)) (h.getD_ rfl j hlt) ?_
    have hst := hasI_s l s j hlt
    refine cd (fun heq => ?_) (fun heq => ?_)
    · refine ⟨⟨(j : Int), rfl, ?_⟩, rfl⟩
      have : hasI l s = true := by
        unfold hasI
        rw [List.any_eq_true]
        exact ⟨l.getD j 0, by simp [List.getD, hlt], by simp [heq]⟩
      rw [this]
      exact decide_eq_true (by omega)
    · refine ar64 (by omega) ?_
      refine round_mk [.int .i64 ((j + 1 : Nat) : Int)] (l.length - (j + 1)) rfl rfl ⟨j + 1, rfl, by omega, rfl, ?_, rfl⟩ (by omega)
      rw [hst, ht, Bool.false_or]
      exact decide_eq_false (fun e => heq e.symm)
  · have hj : j = l.length := by omega
    subst hj
    rw [List.take_length] at ht
    exact ⟨⟨-1, rfl, by rw [ht]; rfl⟩, rfl⟩
theorem contU {w : World} {v : Value} {l : List Int} (h : Sl w TU 1 v l.length (l.map (.int .u64))) (s : Int) : Fn Try.prog 86 #[v, .int .u64 s] w fun r w' => r = .bool (hasI l s) ∧ w' = w := by
  refine fn_enter Try.func86 rfl rfl ?_
  refine cl (indexU h s) ?_
  rintro _ w ⟨⟨i, rfl, hi⟩, rfl⟩
  exact ⟨by rw [← hi]; rfl, rfl⟩
theorem rising_c {w : World} {v : Value} {l : List Int} (h : Sl w TU 1 v l.length (l.map (.int .u64))) : Fn Try.prog 52 #[v] w fun r w' => r = .bool (risB l) ∧ w' = w := by
  have hle := h.le
  simp only [maxLen] at hle
  obtain ⟨a, cap, rfl, -⟩ := h.form
  refine fn_enter Try.func52 rfl rfl ?_
  refine len_sl ?_
  refine loop_rule [0, 5, 6] [7] (fun vs w' m => ∃ j : Nat, vs = [.int .i64 j] ∧ j ≤ l.length ∧ m = l.length - j ∧ (∀ i, i < j → (decide (i = 0) || decide (l.getD (i - 1) 0 < l.getD i 0)) = true) ∧ w' = w) rfl [.int .i64 0] l.length rfl ⟨0, rfl, by omega, rfl, fun i hi => by omega, rfl⟩ ?_
  rintro _ w1 m ⟨j, rfl, hj, rfl, hall, rfl⟩
  refine cd (fun hlt => ?_) (fun hlt => ?_)
  · have hlt : j < l.length := by omega
    obtain ⟨b, o, c2, he, -⟩ := h.some_ (by omega)
    cases he
    refine ix j rfl hlt ?_
    refine ld (v := .int .u64 (l.getD j 0)) (h.getD_ rfl j hlt) ?_
    by_cases h0 : j = 0
    · subst h0
      refine ar64 (by omega) ?_
      exact round_mk [.int .i64 ((0 + 1 : Nat) : Int)] (l.length - (0 + 1)) rfl rfl ⟨0 + 1, rfl, by omega, rfl, fun i hi => (by have h1 : i = 0 := (by omega); subst h1; rfl), rfl⟩ (by omega)
    · refine cY (show (j : Int) > 0 by omega) ?_
      refine ar64 (by omega) ?_
      refine ix (j - 1) (by omega) (by omega) ?_
      refine ld (v := .int .u64 (l.getD (j - 1) 0)) (h.getD_ rfl (j - 1) (by omega)) ?_
      refine cd (fun hc => ?_) (fun hc => ?_)
      · refine ⟨?_, rfl⟩
        have : risB l = false := all_range_f _ j hlt (by rw [decide_eq_false h0, decide_eq_false (by omega)]; rfl)
        rw [this]; rfl
      · refine ar64 (by omega) ?_
        refine round_mk [.int .i64 ((j + 1 : Nat) : Int)] (l.length - (j + 1)) rfl rfl ⟨j + 1, rfl, by omega, rfl, fun i hi => ?_, rfl⟩ (by omega)
        rcases Nat.lt_or_ge i j with h1 | h1
        · exact hall i h1
        · obtain rfl : i = j := by omega
          rw [decide_eq_true (show l.getD (i - 1) 0 < l.getD i 0 by omega), Bool.or_true]
  · have hj : j = l.length := by omega
    subst hj
    refine ⟨?_, rfl⟩
    have : risB l = true := (all_range _).2 hall
    rw [this]; rfl
/-- lists of words, in memory -/
structure RowsAt (w : World) (v : Value) (vs : List Value) (L : List (List Int)) : Prop where
  s : Sl w TUs 1 v L.length vs
  n : vs.length = L.length
  r : ∀ k, k < L.length → Sl w TU 1 (vs.getD k undef) (L.getD k []).length ((L.getD k []).map (.int .u64))
abbrev obRow (vs : List Value) (L : List (List Int)) (k : Nat) : Ob := obSl TU 1 (vs.getD k undef) (L.getD k []).length ((L.getD k []).map (.int .u64))
abbrev obRows (v : Value) (vs : List Value) (L : List (List Int)) : Ob := obEv (obSl TUs 1 v L.length vs :: (List.range L.length).map (obRow vs L))
theorem RowsAt.ob {w : World} {v : Value} {vs : List Value} {L : List (List Int)} (h : RowsAt w v vs L) : (obRows v vs L).ok w := by
  intro x hx
  rcases List.mem_cons.1 hx with rfl | hx
  · exact h.s
  · obtain ⟨k, hk, rfl⟩ := List.mem_map.1 hx
    exact h.r k (List.mem_range.1 hk)
theorem RowsAt.of {w : World} {v : Value} {vs : List Value} {L : List (List Int)} (h : (obRows v vs L).ok w) (hn : vs.length = L.length) : RowsAt w v vs L :=
  ⟨h (obSl TUs 1 v L.length vs) (by simp), hn, fun k hk => h (obRow vs L k) (List.mem_cons_of_mem _ (List.mem_map.2 ⟨k, List.mem_range.2 hk, rfl⟩))⟩
theorem RowsAt.upd0 {w w' : World} {v : Value} {vs : List Value} {L : List (List Int)} (h : RowsAt w v vs L) (hu : Upd [] w w') : RowsAt w' v vs L := ⟨h.s.upd hu (by simp), h.n, fun k hk => (h.r k hk).upd hu (by simp)⟩
theorem RowsAt.at_ {w : World} {b o c : Nat} {vs : List Value} {L : List (List Int)} (h : RowsAt w (.slice (some ⟨b, o, none⟩) L.length c) vs L) (k : Nat) (hk : k < L.length) : w.cell? ⟨b, o + k * 1, none⟩ = some (vs.getD k undef) := by
  have hn := h.n
  rw [(h.s.cells rfl (k * 1) (by omega)).1, Nat.mul_one]
  simp [List.getD, show k < vs.length by omega]
/-- which list of words a value is -/
theorem Sl.uniq {w : World} {e : TypeId} {v : Value} {l l' : List Int} (h : Sl w e 1 v l.length (l.map (.int .u64))) (h' : Sl w e 1 v l'.length (l'.map (.int .u64))) : l = l' := by
  obtain ⟨a, c, e1, h1, h2⟩ := h.form
  obtain ⟨a', c', e2, -⟩ := h'.form
  rw [e1] at e2
  injection e2 with e3 e4 e5
  apply List.ext_getElem?
  intro j
  rcases Nat.lt_or_ge j l.length with hj | hj
  · obtain ⟨b, o, c3, he, -⟩ := h.some_ (by omega)
    have g1 := h.getD_ he j hj
    have g2 := h'.getD_ (l := l') (by rw [he, e4]) j (by omega)
    rw [g1] at g2
    injection g2 with g3
    injection g3 with _ g4
    rw [List.getElem?_eq_getElem hj, List.getElem?_eq_getElem (by omega)]
    have e6 : l.getD j 0 = l[j] := by simp [List.getD, hj]
    have e7 : l'.getD j 0 = l'[j]'(by omega) := by simp [List.getD, show j < l'.length by omega]
    rw [← e6, ← e7, g4]
  · rw [List.getElem?_eq_none hj, List.getElem?_eq_none (by omega)]
noncomputable def lstV (w : World) (x : Value) : List Int := Classical.epsilon fun l : List Int => Sl w TU 1 x l.length (l.map (.int .u64))
theorem lstV_eq {w : World} {x : Value} {l : List Int} (h : Sl w TU 1 x l.length (l.map (.int .u64))) : lstV w x = l := Sl.uniq (Classical.epsilon_spec (p := fun l : List Int => Sl w TU 1 x l.length (l.map (.int .u64))) ⟨l, h⟩) h
def nestAt (L : List (List Int)) (i : Nat) : Bool := risB (L.getD i []) && (decide (i = 0) || (L.getD i []).all fun n => hasI (L.getD (i - 1) []) n)
def nestB (L : List (List Int)) : Bool := (List.range L.length).all (nestAt L)
def notIn (l : List Int) (x : Value) : Bool := match x with | .int _ n => !hasI l n | _ => false
theorem any_notIn (l l' : List Int) : (l'.map (Value.int .u64)).any (notIn l) = !(l'.all fun n => hasI l n) := by
  rw [List.any_map, List.not_all_eq_any_not]
  rfl
set_option maxRecDepth 10000 in
theorem nested_c {w : World} {v : Value} {vs : List Value} {L : List (List Int)} (h : RowsAt w v vs L) (hL : ∀ l ∈ L, l.length ≤ 4294967296) : Fn Try.prog 48 #[v] w fun r w' => r = .bool (nestB L) ∧ Upd [] w w' := by
  have hle := h.s.le
  simp only [maxLen] at hle
  obtain ⟨a, cap, rfl, -⟩ := h.s.form
  refine fn_enter Try.func48 rfl rfl ?_
  refine bx fun w1 hb1 hu1 hs1 => ?_
  have hb1 : Blk w1 w.heap.size TSL #[.slice a L.length cap] := hb1
  refine ldb hb1 rfl ?_
  refine len_sl ?_
  refine loop_rule [1, 5, 6] [7] (fun us w' m => ∃ j : Nat, us = [.int .i64 j] ∧ j ≤ L.length ∧ m = L.length - j ∧ (∀ i, i < j → nestAt L i = true) ∧ Upd [] w1 w') rfl [.int .i64 0] L.length rfl ⟨0, rfl, by omega, rfl, fun i hi => by omega, .refl _ _⟩ ?_
  rintro _ w2 m ⟨j, rfl, hj, rfl, hall, hu2⟩
  have h2 := h.upd0 (hu1.trans hu2)
  refine cd (fun hlt => ?_) (fun hlt => ?_)
  · have hlt : j < L.length := by omega
    obtain ⟨b, o, c2, he, -⟩ := h2.s.some_ (by omega)
    cases he
    refine ix j rfl hlt ?_
    refine ld (v := vs.getD j undef) (h2.at_ j hlt) ?_
    refine al #[.int .i64 0] (fun _ => by kernel_rfl) fun w3 hb3 hu3 hs3 => ?_
    refine st hb3 (by show 0 < 1; omega) rfl fun w4 hb4 hu4 hs4 => ?_
    have hb4 : Blk w4 w2.heap.size 3 #[.int .i64 (j : Int)] := hb4
    have hu24 : Upd [] w2 w4 := hu3.step hu4 (by simp)
    have h4 := h2.upd0 hu24
    have hU4 := hu2.trans hu24
    have hr4 := h4.r j hlt
    refine cl (rising_c hr4) ?_
    rintro _ w4 ⟨rfl, rfl⟩
    cases hr : risB (L.getD j []) with
    | false =>
      refine ⟨?_, hu1.trans hU4⟩
      have : nestB L = false := all_range_f _ j hlt (by unfold nestAt; rw [hr]; rfl)
      rw [this]; rfl
    | true =>
      refine ldb hb4 rfl ?_
      by_cases h0 : j = 0
      · subst h0
        refine ar64 (by omega) ?_
        exact round_mk [.int .i64 ((0 + 1 : Nat) : Int)] (L.length - (0 + 1)) rfl rfl ⟨0 + 1, rfl, by omega, rfl, fun i hi => (by have h1 : i = 0 := (by omega); subst h1; unfold nestAt; rw [hr]; rfl), hU4⟩ (by omega)
      · refine cY (show (j : Int) > 0 by omega) ?_
        obtain ⟨ra, rc, hrv, -⟩ := hr4.form
        have hmem : L.getD j [] ∈ L := by simp [List.getD, hlt]
        have hrl := hL _ hmem
        rw [hrv] at hr4 ⊢
        refine cl (of_U (.slice ra (L.getD j []).length rc) w4) ?_
        rintro _ w5 ⟨rfl, hv5, hu5⟩
        have hb5 := hv5 _ _ _ rfl
        have it := ofi_U (b := w4.heap.size) (v := .slice ra (L.getD j []).length rc) (l := (L.getD j []).map (Value.int .u64)) (by rw [List.length_map]; exact hrl)
        have hA : (obEv [obBlk w4.heap.size TSU #[.slice ra (L.getD j []).length rc], obSl TU 1 (.slice ra (L.getD j []).length rc) ((L.getD j []).map (Value.int .u64)).length ((L.getD j []).map (Value.int .u64))]).ok w5 := by
          intro x hx
          simp only [List.mem_cons, List.not_mem_nil, or_false] at hx
          rcases hx with rfl | rfl
          · exact hb5
          · rw [List.length_map]; exact hr4.upd hu5 (by simp)
        have hk : KeepW Try.prog (.func (.func 85) #[] #[.pointer (some ⟨w.heap.size, 0, none⟩), .pointer (some ⟨w2.heap.size, 0, none⟩)]) ((L.getD j []).map (.int .u64)) (notIn (L.getD (j - 1) [])) (obEv [obBlk w.heap.size TSL #[.slice (some ⟨b, o, none⟩) L.length cap], obBlk w2.heap.size 3 #[.int .i64 (j : Int)], obRows (.slice (some ⟨b, o, none⟩) L.length cap) vs L]) := by
          refine ⟨_, _, rfl, HasBody.h, fun x hx wz hz => ?_⟩
          obtain ⟨n, -, rfl⟩ := List.mem_map.1 hx
          have z1 : Blk wz w.heap.size TSL #[.slice (some ⟨b, o, none⟩) L.length cap] := hz (obBlk w.heap.size TSL #[.slice (some ⟨b, o, none⟩) L.length cap]) (by simp)
          have z2 : Blk wz w2.heap.size 3 #[.int .i64 (j : Int)] := hz (obBlk w2.heap.size 3 #[.int .i64 (j : Int)]) (by simp)
          have z3 := RowsAt.of (hz (obRows (.slice (some ⟨b, o, none⟩) L.length cap) vs L) (by simp)) h.n
          refine fn_enter Try.func85 rfl rfl ?_
          refine ldb z1 rfl ?_
          refine ldb z2 rfl ?_
          refine ar64 (by omega) ?_
          refine ix (j - 1) (by omega) (by omega) ?_
          refine ld (v := vs.getD (j - 1) undef) (z3.at_ (j - 1) (by omega)) ?_
          refine cl (contU (z3.r (j - 1) (by omega)) n) ?_
          rintro _ wz ⟨rfl, rfl⟩
          exact ⟨rfl, .refl _ _⟩
        have hB : (obEv [obBlk w.heap.size TSL #[.slice (some ⟨b, o, none⟩) L.length cap], obBlk w2.heap.size 3 #[.int .i64 (j : Int)], obRows (.slice (some ⟨b, o, none⟩) L.length cap) vs L]).ok w5 := by
          intro x hx
          simp only [List.mem_cons, List.not_mem_nil, or_false] at hx
          rcases hx with rfl | rfl | rfl
          · exact (hb1.upd hU4 (by simp)).upd hu5 (by simp)
          · exact hb4.upd hu5 (by simp)
          · exact (h4.upd0 hu5).ob
        refine cl (some_U it hA hk hB ⟨_, _, _, rfl⟩) ?_
        rintro _ w6 ⟨rfl, hu6⟩
        rw [any_notIn]
        have hU6 := (hU4.trans hu5).trans hu6
        cases hal : (L.getD j []).all fun n => hasI (L.getD (j - 1) []) n with
        | false =>
          refine ⟨?_, hu1.trans hU6⟩
          have : nestB L = false := all_range_f _ j hlt (by unfold nestAt; rw [hr, hal]; simp [h0])
          rw [this]; rfl
        | true =>
          refine ar64 (by omega) ?_
          refine round_mk [.int .i64 ((j + 1 : Nat) : Int)] (L.length - (j + 1)) rfl rfl ⟨j + 1, rfl, by omega, rfl, fun i hi => ?_, hU6⟩ (by omega)
          rcases Nat.lt_or_ge i j with h1 | h1
          · exact hall i h1
          · obtain rfl : i = j := by omega
            unfold nestAt; rw [hr, hal]; simp
  · have hj : j = L.length := by omega
    subst hj
    refine ⟨?_, hu1.trans hu2⟩
    have : nestB L = true := (all_range _).2 hall
    rw [this]; rfl
end Go.Proofs.Ytbnbbafffihapaa

/- skip: right, Sound. -/
namespace Go.Proofs.Ytbnbbafffihapaa
open Go.RowKit
attribute [local irreducible] Instr.loadAt Instr.storeAt Instr.fieldAt Instr.indexAt Instr.sliceAt Instr.buildSlice Instr.box Instr.alloc Builtin.append_ Builtin.len_ Builtin.min_ Builtin.max_ Calls Instr.build Instr.makeSlice binSem convert Instr.index Instr.range Instr.next
def rightF (c : Cf) (W : List Int) (R0 : List (Int × Bool)) (i : Int) : List (Int × Bool) → List Int → Option (List Int)
  | [], l => some l
  | s :: r, l => if livesN c W R0 s.1 then (if toI (atV c W s.1 3) ≤ i then none else rightF c W R0 i r (l ++ [atV c W s.1 0])) else (if 0 < l.length then none else rightF c W R0 i r l)
section
variable {w w' : World} {c : Cf} {v : Value} {W : List Int} {X : Mc}
theorem live_lk {K : Value → World → Prop} {b : Nat} {R0 : List (Int × Bool)} (h : MapF w b (liveF c W R0)) {n : Int} (k : K (.bool (livesN c W R0 n)) w) : RunP Try.prog (Instr.lookup 95 (.map (some b)) (.int .i64 n) false) K w := by
  refine mlk1 h ?_
  rw [liveF_at c W n _ R0 rfl]
  revert k
  cases livesN c W R0 n <;> exact id
def okR (w w' : World) (o : Option (List Int)) (r : Value) : Prop := match o with
  | none => r = .tuple #[.slice none 0 0, .bool false]
  | some l => ∃ lv, r = .tuple #[lv, .bool true] ∧ Gr w w' TU 1 lv l.length (l.map (.int .u64)) ∧ l.length ≤ 64
theorem drop_at {R : List (Int × Bool)} {k : Nat} (h : k < R.length) : R.drop k = R.getD k (0, false) :: R.drop (k + 1) := by rw [List.drop_eq_getElem_cons h]; simp [List.getD, h]
set_option maxRecDepth 10000 in
theorem right_v (h : VwAt w c v W) (i : Int) (hi : 0 ≤ i ∧ i ≤ 100) {b : Nat} {R0 : List (Int × Bool)} (hm : MapF w b (liveF c W R0)) {g : Value} (hg : g = .pointer none ∨ rowV c W i = []) :
    Fn Try.prog 46 #[.agg (viewC c v), .int .i64 i, .map (some b), g] w fun r w' => Upd [] w w' ∧ okR w w' (rightF c W R0 i (rowV c W i) []) r := by
  have hN := N_bd h.r
  obtain ⟨va, vn, vk, rfl⟩ := h.form
  refine fn_enter Try.func46 rfl rfl ?_
  refine bx fun w1 hb1 hu1 hs1 => ?_
  have hb1 : Blk w1 w.heap.size TVw (viewC c (.slice va vn vk)) := hb1
  have h1 := h.upd0 hu1
  refine ldw hb1 (viewC_len _ _) ?_
  refine cl (row_c h1 i hi) ?_
  rintro rv w5 ⟨hG, hu5⟩
  have hU5 := hu1.trans hu5
  have hb5 := hb1.upd hu5 (by simp)
  have hV5 := h1.upd0 hu5
  have hm5 := hm.upd hU5 (by simp)
  have hRl : (rowV c W i).length ≤ c.N.toNat := rowF_len _ _ _ _ _
  generalize rowV c W i = R at *
  obtain ⟨ra, rk, rfl, -⟩ := hG.s.form
  refine len_sl ?_
  generalize hrf : rightF c W R0 i R [] = res
  refine loop_rule [1, 2, 3, 4, 15, 16] [10, 17] (fun vs w' m => ∃ (k : Nat) (lv : Value) (l : List Int), vs = [lv, .int .i64 (k : Int)] ∧ k ≤ R.length ∧ m = R.length - k ∧ l.length ≤ k ∧ rightF c W R0 i (R.drop k) l = res ∧ Gr w5 w' TU 1 lv l.length (l.map (.int .u64)) ∧ Upd [] w5 w') rfl [.slice none 0 0, .int .i64 0] R.length rfl
    ⟨0, _, [], rfl, by omega, rfl, by simp, hrf, Gr.nil_ _ _ _ _, .refl _ _⟩ ?_
  rintro _ w6 m ⟨k, lv, l, rfl, hk, rfl, hlk, hres, hGl, hu56⟩
  refine cd (fun hlt => ?_) (fun hlt => ?_)
  · have hlt : k < R.length := by omega
    have hg0 : g = .pointer none := hg.resolve_right (fun h0 => by rw [h0] at hlt; simp at hlt)
    subst hg0
    obtain ⟨b', o, cap, he, -⟩ := hG.s.some_ (by omega)
    cases he
    have hG6 := (hG.upd0 hu56).s
    refine ix k rfl hlt ?_
    refine stop_ld hG6 k hlt ?_
    rw [drop_at hlt, rightF] at hres
    generalize R.getD k (0, false) = s at *
    obtain ⟨sn, sm⟩ := s
    refine al #[.int .i64 0, .bool false] (fun _ => by kernel_rfl) fun w7 hb7 hu7 hs7 => ?_
    refine stw hb7 rfl rfl rfl fun w8 hb8 hu8 hs8 => ?_
    have hu68 : Upd [] w6 w8 := hu7.step hu8 (by simp)
    have hu58 := hu56.trans hu68
    have hm8 := hm5.upd hu58 (by simp)
    have hb58 := hb5.upd hu58 (by simp)
    have hV8 := hV5.upd0 hu58
    have hGl8 := hGl.upd0 hu68
    obtain ⟨la, lc, rfl, -⟩ := hGl8.s.form
    refine ptr_ne0 ?_
    refine fa ?_
    refine ldb hb8 rfl ?_
    cases hlv : livesN c W R0 sn with
    | false =>
      rw [hlv, if_neg (by decide)] at hres
      refine live_lk hm8 ?_
      rw [hlv]
      refine len_sl ?_
      refine cd (fun hp => ?_) (fun hp => ?_)
      · rw [if_pos (by omega)] at hres
        refine ⟨hU5.trans hu58, ?_⟩
        rw [← hres]; rfl
      · rw [if_neg (by omega)] at hres
        refine fa ?_
        refine ldb hb8 rfl ?_
        refine live_lk hm8 ?_
        rw [hlv]
        refine ar64 (by omega) ?_
        exact round_mk [_, .int .i64 ((k + 1 : Nat) : Int)] (R.length - (k + 1)) rfl rfl ⟨k + 1, _, l, rfl, by omega, rfl, by omega, hres, hGl8, hu58⟩ (by omega)
    | true =>
      rw [hlv, if_pos rfl] at hres
      refine live_lk hm8 ?_
      rw [hlv]
      refine fa ?_
      refine ldb hb8 rfl ?_
      refine live_lk hm8 ?_
      rw [hlv]
      refine ldw hb58 (viewC_len _ _) ?_
      refine fa ?_
      refine ldb hb8 rfl ?_
      refine cl (at_c hV8 sn 3) ?_
      rintro _ w9 ⟨rfl, hu9⟩
      have hb8 := hb8.upd hu9 (by simp)
      have hu59 := hu58.trans hu9
      refine cv ?_
      refine val (toI (atV c W sn 3)) rfl ?_
      refine cd (fun hp => ?_) (fun hp => ?_)
      · rw [if_pos hp] at hres
        refine ⟨hU5.trans hu59, ?_⟩
        rw [← hres]; rfl
      · rw [if_neg hp] at hres
        refine ldw (hb58.upd hu9 (by simp)) (viewC_len _ _) ?_
        refine fa ?_
        refine ldb hb8 rfl ?_
        refine cl (at_c (hV8.upd0 hu9) sn 0) ?_
        rintro _ wa ⟨rfl, hua⟩
        refine bs #[.int .u64 (atV c W sn 0)] (fun _ => by kernel_rfl) fun wb hbb hub hsb => ?_
        have hGb := (((hGl8.upd0 hu9).upd0 hua).upd0 hub)
        refine apg hGb.s hbb rfl rfl (by decide) (by simp only [maxLen]; omega) (by omega) fun lv2 wc hsc hGc => ?_
        obtain ⟨hgc, hUc⟩ := hGb.app ((hu59.trans hua).trans hub) hsc hGc
        refine ar64 (by omega) ?_
        refine round_mk [lv2, .int .i64 ((k + 1 : Nat) : Int)] (R.length - (k + 1)) rfl rfl ⟨k + 1, lv2, l ++ [atV c W sn 0], rfl, by omega, rfl, by simp; omega, hres, ?_, hUc⟩ (by omega)
        rw [List.length_append, List.map_append]
        exact hgc
  · have hk : k = R.length := by omega
    subst hk
    rw [List.drop_length, rightF] at hres
    refine ⟨hU5.trans hu56, ?_⟩
    rw [← hres]
    exact ⟨lv, rfl, hGl.rebase hU5, by omega⟩
end
def rowsR (c : Cf) (W : List Int) : Nat → Option (List (List Int))
  | 0 => some []
  | n + 1 => match rowsR c W n with
    | none => none
    | some L => match rightF c W (rowV c W 0) (n : Int) (rowV c W (n : Int)) [] with
      | none => none
      | some l => some (L ++ [l])
theorem rowsR_none {c : Cf} {W : List Int} {n : Nat} (h : rowsR c W n = none) : ∀ m, rowsR c W (n + m) = none := by
  intro m
  induction m with
  | zero => exact h
  | succ m ih => rw [← Nat.add_assoc, rowsR, ih]
theorem rowsR_len {c : Cf} {W : List Int} : ∀ {n : Nat} {L : List (List Int)}, rowsR c W n = some L → L.length = n := by
  intro n
  induction n with
  | zero => intro L h; rw [rowsR] at h; cases h; rfl
  | succ n ih =>
    intro L h
    rw [rowsR] at h
    cases h1 : rowsR c W n with
    | none => rw [h1] at h; cases h
    | some L1 =>
      rw [h1] at h
      cases h2 : rightF c W (rowV c W 0) (n : Int) (rowV c W (n : Int)) [] with
      | none => simp [h2] at h
      | some l => simp [h2] at h; rw [← h, List.length_append, ih h1]; rfl
def soundB (c : Cf) (W : List Int) : Bool := if c.A = 0 then false else match rowsR c W c.L.toNat with
  | none => false
  | some L => if c.A = 1 then nestB L else L.all risB
theorem RowsAt.add {w0 w w1 w2 : World} {v v' : Value} {vs : List Value} {L : List (List Int)} (h : RowsAt w v vs L) (hf : Fresh w0 v) (hU : Upd [] w0 w) (hu : Upd [] w w1) {lv : Value} {l : List Int} (hl : Sl w1 TU 1 lv l.length (l.map (.int .u64))) (hs : Sl w2 TUs 1 v' (L.length + 1) (vs ++ [lv])) (hG : Grow w1 w2 v v') :
    RowsAt w2 v' (vs ++ [lv]) (L ++ [l]) ∧ Fresh w0 v' ∧ Upd [] w0 w2 := by
  have hn := h.n
  refine ⟨⟨by rw [List.length_append]; exact hs, by simp [hn], fun k hk => ?_⟩, fun g hg => ?_, (hU.trans hu).step hG.up fun g hg => ?_⟩
  · rcases Nat.lt_or_ge k L.length with hk1 | hk1
    · have e1 : (vs ++ [lv]).getD k undef = vs.getD k undef := by simp [List.getD, List.getElem?_append_left (show k < vs.length by omega)]
      have e2 : (L ++ [l]).getD k [] = L.getD k [] := by simp [List.getD, List.getElem?_append_left hk1]
      rw [e1, e2]
      have h1 := (h.r k hk1).upd hu (by simp)
      refine h1.upd hG.up fun g hg hm => ?_
      have hm' : v.ownBlock = some g := by simpa using hm
      exact Sl.ne_ (h.s.upd hu (by simp)) h1 (by decide) g hm' hg
    · have hk2 : k = L.length := by simp at hk; omega
      subst hk2
      have e1 : (vs ++ [lv]).getD L.length undef = lv := by simp [List.getD, ← hn]
      have e2 : (L ++ [l]).getD L.length [] = l := by simp [List.getD]
      rw [e1, e2]
      refine hl.upd hG.up fun g hg hm => ?_
      have hm' : v.ownBlock = some g := by simpa using hm
      exact Sl.ne_ (h.s.upd hu (by simp)) hl (by decide) g hm' hg
  · rcases hG.own g hg with h1 | h1
    · exact hf g h1
    · have := (hU.trans hu).size; omega
  · exact .inr (hf g (by simpa using hg))
theorem any_rows {w : World} {v : Value} {vs : List Value} {L : List (List Int)} (h : RowsAt w v vs L) : (!(vs.any fun x => !risB (lstV w x))) = L.all risB := by
  have hn := h.n
  have e : vs.map (lstV w) = L := by
    apply List.ext_getElem?
    intro k
    rcases Nat.lt_or_ge k L.length with hk | hk
    · have := lstV_eq (h.r k hk)
      rw [List.getElem?_map, List.getElem?_eq_getElem (show k < vs.length by omega), List.getElem?_eq_getElem hk]
      have e1 : vs.getD k undef = vs[k]'(by omega) := by simp [List.getD, show k < vs.length by omega]
      have e2 : L.getD k [] = L[k] := by simp [List.getD, hk]
      rw [e1, e2] at this
      exact congrArg some this
    · rw [List.getElem?_eq_none (by simp; omega), List.getElem?_eq_none hk]
  rw [← List.not_all_eq_any_not, Bool.not_not]
  conv => rhs; rw [← e]
  rw [List.all_map]; rfl
section
variable {w w' : World} {c : Cf} {v : Value} {W : List Int} {X : Mc}
set_option maxRecDepth 100000 in
set_option maxHeartbeats 1000000 in
theorem sound_q (h : Qm w X) (hg : gvOf X.gs = .pointer none ∨ ∀ i, 0 ≤ i → i < X.c.L → rowV X.c X.s.W i = []) : Fn Try.prog 14 #[ptrV X.m] w fun r w' => r = .bool (soundB X.c X.s.W) ∧ Upd [] w w' := by
  have hL := (plan_bd (A := X.c.A) (T := X.c.T) (N := X.c.N) (L := X.c.L) (B := X.c.B) (P := X.c.P) (S := X.c.S) h.r).2.2.2.2.2.1
  refine fn_enter Try.func14 rfl rfl ?_
  refine cl (of_q h) ?_
  rintro r w1 ⟨hu1, (⟨hA, rfl⟩ | ⟨hA, v, rfl, hV⟩)⟩
  · refine al zVw (fun _ => by kernel_rfl) fun w2 hb2 hu2 hs2 => ?_
    refine stw hb2 rfl rfl zVw_one fun w3 hb3 hu3 hs3 => ?_
    have hU3 : Upd [] w w3 := (hu1.trans hu2).step hu3 (by have := hu1.size; simp; omega)
    exact ⟨by rw [soundB, if_pos hA]; rfl, hU3⟩
  refine al zVw (fun _ => by kernel_rfl) fun w2 hb2 hu2 hs2 => ?_
  obtain ⟨va, vn, vk, rfl⟩ := hV.form
  refine stw hb2 rfl (viewC_len _ _) (viewC_one _ _ _ _) fun w3 hb3 hu3 hs3 => ?_
  have hU3 : Upd [] w w3 := (hu1.trans hu2).step hu3 (by have := hu1.size; simp; omega)
  have hb3 : Blk w3 w1.heap.size TVw (viewC X.c (.slice va vn vk)) := hb3
  have hV3 : VwAt w3 X.c (.slice va vn vk) X.s.W := ⟨hV.r, (hV.s.upd hu2 (by simp)).upd hu3 (fun g hg hm => by
    have := hV.s.lt g hg
    have := List.mem_singleton.1 hm
    omega), hV.l, hV.u⟩
  generalize hvb : w1.heap.size = vb at *
  rw [soundB, if_neg hA]
  refine ldw hb3 (viewC_len _ _) ?_
  refine cl (live_c hV3) ?_
  rintro _ w4 ⟨mb, rfl, hm4, hu4⟩
  have hb4 := hb3.upd hu4 (by simp)
  have hV4 := hV3.upd0 hu4
  refine fa ?_
  refine vplan hb4 ?_
  refine cl (conf_c2 X.c w4) ?_
  rintro _ w5 ⟨rfl, hu5⟩
  refine fl (v := .int .i64 X.c.L) (by obtain ⟨A, T, N, L, B, P, S⟩ := X.c; rfl) ?_
  have hb5 := hb4.upd hu5 (by simp)
  have hV5 := hV4.upd0 hu5
  have hm5 := hm4.upd hu5 (by simp)
  have hU5 := (hU3.trans hu4).trans hu5
  have h5 := h.upd0 hU5
  obtain ⟨M, hM⟩ : ∃ M : Nat, X.c.L = (M : Int) := ⟨_, (Int.toNat_of_nonneg (by omega)).symm⟩
  rw [hM, Int.toNat_natCast]
  refine loop_rule [0, 3, 5, 22] [6, 23] (fun us w' m => ∃ (k : Nat) (rv : Value) (vs : List Value) (L : List (List Int)), us = [rv, .int .i64 (k : Int)] ∧ k ≤ M ∧ m = M - k ∧ rowsR X.c X.s.W k = some L ∧ (∀ l ∈ L, l.length ≤ 64) ∧ RowsAt w' rv vs L ∧ Fresh w5 rv ∧ Upd [] w5 w') rfl [.slice none 0 0, .int .i64 0] M rfl
    ⟨0, _, [], [], rfl, by omega, rfl, rfl, (by intro l hl; cases hl), ⟨Sl.nil_ _ _ _, rfl, fun k hk => absurd hk (by simp)⟩, Fresh.nil_ _, .refl _ _⟩ ?_
  rintro _ w6 m ⟨k, rv, vs, L, rfl, hk, rfl, hrow, hLl, hR, hF, hu6⟩
  have hb6 := hb5.upd hu6 (by simp)
  have hV6 := hV5.upd0 hu6
  have hm6 := hm5.upd hu6 (by simp)
  have h6 := h5.upd0 hu6
  have hlen := rowsR_len hrow
  refine cd (fun hlt => ?_) (fun hlt => ?_)
  · have hlt : k < M := by omega
    refine draw_mixA [(0, true), (1, true), (2, true), (3, true), (4, true), (5, false), (6, true), (7, true), (8, true), (9, true), (10, true)] (fun w' => Upd [] w6 w') (by decide +kernel) (Upd.refl [] w6).drew ?_
    refine rq (.agg (viewC X.c (.slice va vn vk))) (fun w' hw' => ldw (hb6.upd hw' (by simp)) (viewC_len _ _) ⟨rfl, rfl⟩) ?_
    refine t_cl (gvOf X.gs) (fun w' hw' => ghost_mm (h6.upd0 hw').m) ?_
    have hud : Upd [] w6 w6.drew := (Upd.refl [] w6).drew
    refine cl (right_v (hV6.upd0 hud) (k : Int) ⟨by omega, by omega⟩ (hm6.upd hud (by simp)) (hg.imp id (fun hh => hh k (by omega) (by omega)))) ?_
    rintro r w7 ⟨hu7, hok⟩
    have hu67 := hud.trans hu7
    refine ⟨hu67, ?_⟩
    cases hrr : rightF X.c X.s.W (rowV X.c X.s.W 0) (k : Int) (rowV X.c X.s.W (k : Int)) [] with
    | none =>
      rw [hrr] at hok
      obtain rfl := hok
      refine ⟨?_, hU5.trans (hu6.trans hu67)⟩
      have e1 : rowsR X.c X.s.W (k + 1) = none := by rw [rowsR, hrow]; simp [hrr]
      have e2 := rowsR_none e1 (M - (k + 1))
      rw [show k + 1 + (M - (k + 1)) = M by omega] at e2
      rw [e2]; rfl
    | some l =>
      rw [hrr] at hok
      obtain ⟨lv, rfl, hGl, hl64⟩ := hok
      obtain ⟨la, lc, rfl, -⟩ := hGl.s.form
      refine bs #[.slice la l.length lc] (fun _ => by kernel_rfl) fun w8 hb8 hu8 hs8 => ?_
      have hR8 := (hR.upd0 hu67).upd0 hu8
      refine apg hR8.s hb8 rfl rfl (by decide) (by simp only [maxLen]; omega) (by omega) fun rv2 w9 hs9 hG9 => ?_
      obtain ⟨r1, r2, r3⟩ := RowsAt.add (hR.upd0 hu67) hF (hu6.trans hu67) hu8 (hGl.s.upd hu8 (by simp)) hs9 hG9
      refine ar64 (by omega) ?_
      refine round_mk [rv2, .int .i64 ((k + 1 : Nat) : Int)] (M - (k + 1)) rfl rfl ⟨k + 1, rv2, _, L ++ [l], rfl, by omega, rfl, by rw [rowsR, hrow]; simp [hrr], ?_, r1, r2, r3⟩ (by omega)
      intro x hx
      rcases List.mem_append.1 hx with h1 | h1
      · exact hLl x h1
      · rw [List.mem_singleton.1 h1]; exact hl64
  · obtain rfl : k = M := by omega
    rw [hrow]
    refine fa ?_
    refine vplan hb6 ?_
    refine cl (conf_c2 X.c w6) ?_
    rintro _ w7 ⟨rfl, hu7⟩
    refine fl (v := .int .i64 X.c.A) (by obtain ⟨A, T, N, L, B, P, S⟩ := X.c; rfl) ?_
    have hR7 := hR.upd0 hu7
    have hU7 := (hU5.trans hu6).trans hu7
    refine cd (fun hA1 => ?_) (fun hA1 => ?_)
    · refine cl (nested_c hR7 (fun l hl => by have := hLl l hl; omega)) ?_
      rintro _ w8 ⟨rfl, hu8⟩
      exact ⟨by show Value.bool (nestB L) = .bool (if X.c.A = 1 then nestB L else L.all risB); rw [if_pos hA1], hU7.trans hu8⟩
    · obtain ⟨ra, rc, rfl, -⟩ := hR7.s.form
      refine cl (of_L (.slice ra L.length rc) w7) ?_
      rintro _ w8 ⟨rfl, hv8, hu8⟩
      have hb8 := hv8 _ _ _ rfl
      have hn := hR7.n
      have hR8 := hR7.upd0 hu8
      have it := ofi_L (b := w7.heap.size) (v := .slice ra L.length rc) (l := vs) (by omega)
      have hA8 : (obEv [obBlk w7.heap.size TSL #[.slice ra L.length rc], obSl TUs 1 (.slice ra L.length rc) vs.length vs]).ok w8 := by
        intro x hx
        simp only [List.mem_cons, List.not_mem_nil, or_false] at hx
        rcases hx with rfl | rfl
        · exact hb8
        · rw [hn]; exact hR8.s
      have hk : KeepW Try.prog (.func (.func 51) #[] #[]) vs (fun x => !risB (lstV w8 x)) (obRows (.slice ra L.length rc) vs L) := by
        refine ⟨_, _, rfl, HasBody.h, fun x hx wz hz => ?_⟩
        have z3 := RowsAt.of hz hn
        obtain ⟨k, hk, rfl⟩ := List.getElem_of_mem hx
        have e1 : vs.getD k undef = vs[k] := by simp [List.getD, hk]
        have z4 := z3.r k (by omega)
        have z5 := lstV_eq (hR8.r k (by omega))
        rw [e1] at z4 z5
        refine fn_enter Try.func51 rfl rfl ?_
        refine cl (rising_c z4) ?_
        rintro _ wz ⟨rfl, rfl⟩
        refine ⟨?_, .refl _ _⟩
        show Value.bool (!risB (L.getD k [])) = .bool (!risB (lstV w8 vs[k]))
        rw [z5]
      refine cl (some_L it hA8 hk hR8.ob ⟨_, _, _, rfl⟩) ?_
      rintro _ w9 ⟨rfl, hu9⟩
      refine ⟨?_, (hU7.trans hu8).trans hu9⟩
      show Value.bool (!(vs.any fun x => !risB (lstV w8 x))) = .bool (if X.c.A = 1 then nestB L else L.all risB)
      rw [if_neg hA1, ← any_rows hR8]
end
end Go.Proofs.Ytbnbbafffihapaa

/- skip: machines of both algorithms; First, Lay. -/
namespace Go.Proofs.Ytbnbbafffihapaa
open Go.RowKit
attribute [local irreducible] Instr.loadAt Instr.storeAt Instr.fieldAt Instr.indexAt Instr.sliceAt Instr.buildSlice Instr.box Instr.alloc Builtin.append_ Builtin.len_ Builtin.min_ Builtin.max_ Calls Instr.build Instr.makeSlice binSem convert Instr.index Instr.range Instr.next
def cA (A N : Int) : Cf := ⟨A, 1, N, 4, 1, 1, 1⟩
def inA (A : Int) : Prop := A = 1 ∨ A = 2
def MX (A : Int) (N : Nat) (W : List Int) (k : Int) (a : Bool) (t : PT) : PS := ⟨cA A N, W, k, none, a, false, [t]⟩
theorem MX_2 (N : Nat) (W : List Int) (k : Int) (a : Bool) (t : PT) : MX 2 N W k a t = MM N W k a t := rfl
section
variable {A : Int} {N : Nat} {W : List Int} {k : Int} {a : Bool} {t t' : PT}
theorem MX_ok {x : Nat} (h : x < W.length) : (MX A N W k a t).okP (x : Int) := ⟨by omega, by show (x : Int) < (W.length : Int); omega⟩
theorem MX_store {x : Nat} (h : x < W.length) (v : Int) : (MX A N W k a t).store (x : Int) v = MX A N (W.set x v) (k + 1) true t := by
  unfold PS.store
  rw [if_pos (MX_ok h), if_pos (MX_ok h), decide_eq_true (MX_ok h)]; rfl
theorem MX_load {x : Nat} (h : x < W.length) : (MX A N W k a t).load (x : Int) = MX A N W (k + 1) true t := by
  unfold PS.load
  rw [if_pos (MX_ok h), decide_eq_true (MX_ok h)]; rfl
theorem MX_ldv {x : Nat} (h : x < W.length) : (MX A N W k a t).ldv (x : Int) = W.getD x 0 := by
  unfold PS.ldv PS.rd
  rw [if_pos (MX_ok h)]; rfl
theorem linksP_A (hA : inA A) : linksP A 1 4 = 18 := by rcases hA with rfl | rfl <;> rfl
theorem widthP_A (hA : inA A) : widthP A 4 = 9 := by rcases hA with rfl | rfl <;> rfl
theorem nthP_A (hA : inA A) : nthP A 4 = 0 := by rcases hA with rfl | rfl <;> rfl
theorem slotsP_A (hA : inA A) : slotsP A 4 = 10 := by rcases hA with rfl | rfl <;> rfl
theorem sizeP_cA (hA : inA A) (N : Nat) : (sizeP A 1 (N : Int) 4).toNat = 18 + 10 * N := by
  unfold sizeP treeP nodesP
  rw [linksP_A hA, widthP_A hA, nthP_A hA]
  omega
theorem cA_right (hA : inA A) (h3 : 3 ≤ N) (h20 : N ≤ 20) : rightC (cA A N) := by
  unfold cA rightC
  rcases hA with rfl | rfl <;> simp [within] <;> omega
theorem MX_Ok (hA : inA A) {b : Int} (h3 : 3 ≤ N) (h20 : N ≤ 20) (hu : ∀ x ∈ W, u64R x) (hl : W.length = 18 + 10 * N) (hk : 0 ≤ k ∧ k ≤ b) : (MX A N W k a t).Ok b :=
  ⟨cA_right hA h3 h20, by show ([] : List Int).length ≤ 64; decide, hk.1, hk.2, hu, by rw [show (MX A N W k a t).W.length = W.length from rfl, hl]; exact (sizeP_cA hA N).symm⟩
end
theorem node_cA {A : Int} (hA : inA A) {N n f : Int} (h1 : 1 ≤ n) (h2 : n ≤ N) (h3 : 0 ≤ f) (h4 : f ≤ 8) : (cA A N).node n f = 18 + N + (n - 1) * 9 + f := by
  unfold Cf.node cA nodeA
  show (if (1 ≤ n ∧ n ≤ N) ∧ 0 ≤ f ∧ f ≤ widthP A 4 - 1 then nodesP A 1 N 4 + (n - 1) * widthP A 4 + f else -1) = _
  rw [widthP_A hA, if_pos ⟨⟨h1, h2⟩, h3, by omega⟩]
  unfold nodesP
  rw [linksP_A hA]
theorem adr_nodeA {A : Int} (hA : inA A) {N i f : Nat} (hi : i + 2 ≤ N) (hf : f < 9) : (cA A (N : Int)).node (predN i) (f : Int) = (adr N i f : Int) := by
  have : 1 ≤ predN i ∧ predN i ≤ N := by unfold predN; split <;> omega
  rw [node_cA hA this.1 this.2 (by omega) (by omega)]
  unfold adr
  omega
/-- the nodes, as their links tell them -/
def lnk (A : Int) (l : List Nd) : List Nd := if A = 2 then l else l.map fun x => { x with dead := false }
theorem lnk_len (A : Int) (l : List Nd) : (lnk A l).length = l.length := by unfold lnk; split <;> simp
theorem lnk_at (A : Int) (l : List Nd) (i : Nat) : (ndAt (lnk A l) i).key = (ndAt l i).key ∧ (ndAt (lnk A l) i).tall = (ndAt l i).tall ∧ (ndAt (lnk A l) i).dead = if A = 2 then (ndAt l i).dead else false := by
  unfold lnk
  by_cases h : A = 2
  · rw [if_pos h, if_pos h]; exact ⟨rfl, rfl, rfl⟩
  · rw [if_neg h, if_neg h]
    unfold ndAt
    rcases Nat.lt_or_ge i l.length with hi | hi
    · simp [List.getD, hi]
    · simp [List.getD, hi]
theorem NdsOk.lnk {l : List Nd} {N : Nat} (h : NdsOk l N) (A : Int) : NdsOk (lnk A l) N := ⟨by rw [lnk_len]; exact h.few, h.n20, h.n3, fun i hi => by
  rw [lnk_len] at hi
  obtain ⟨e1, e2, -⟩ := lnk_at A l i
  rw [e1, e2]; exact h.u64 i hi⟩
/-- a node's value, as it is laid -/
def vwd (A : Int) (x : Nd) : Int := if A = 1 then 2 * x.val + (if x.dead then 1 else 0) else x.val
/-- values and heights are laid -/
def VT (W : List Int) (N : Nat) (A : Int) (l : List Nd) (o : Nat) : Prop := ∀ j, j < o → W.getD (adr N (j + 1) 1) 0 = vwd A (ndAt l j) ∧ W.getD (adr N (j + 1) 3) 0 = (ndAt l j).tall
theorem VT.ne {W : List Int} {N : Nat} {A : Int} {l : List Nd} {o : Nat} (h : VT W N A l o) {i f : Nat} (hf : f < 9) (hn : (f ≠ 1 ∧ f ≠ 3) ∨ o < i) (x : Int) : VT (W.set (adr N i f) x) N A l o := fun j hj => by
  rw [getD_set_ne' (adr_ne hf (by omega) (by omega)), getD_set_ne' (adr_ne hf (by omega) (by omega))]; exact h j hj
theorem VT.add {W : List Int} {N : Nat} {A : Int} {l : List Nd} {o : Nat} (h : VT W N A l o) (hl : W.length = 18 + 10 * N) (ho : o + 3 ≤ N) {x y : Int} (hx : x = vwd A (ndAt l o)) (hy : y = (ndAt l o).tall) : VT ((W.set (adr N (o + 1) 1) x).set (adr N (o + 1) 3) y) N A l (o + 1) := fun j hj => by
  have hb : ∀ f, f < 9 → adr N (o + 1) f < W.length := fun f hf => by rw [hl]; exact adr_lt (by omega) hf
  by_cases hq : j = o
  · subst hq
    rw [getD_set_ne' (adr_ne (by omega) (by omega) (.inr (by omega))), getD_set_eq (hb 1 (by omega)), getD_set_eq (by rw [List.length_set]; exact hb 3 (by omega))]
    exact ⟨hx, hy⟩
  · rw [getD_set_ne' (adr_ne (by omega) (by omega) (.inl (by omega))), getD_set_ne' (adr_ne (by omega) (by omega) (.inl (by omega))), getD_set_ne' (adr_ne (by omega) (by omega) (.inl (by omega))), getD_set_ne' (adr_ne (by omega) (by omega) (.inl (by omega)))]
    exact h j (by omega)
/-- while nodes are laid: the machine, the plan's copy, the last ones -/
structure LyA (A : Int) (w0 w w' : World) (X : Mc) (N : Nat) (t : PT) (pb lb : Nat) (L : List Int) (W : List Int) (k : Int) : Prop where
  ev : ∃ Y a, Post w X w' Y ∧ Kin X Y ∧ Y.abs = MX A N W k a t ∧ Aside w' Y pb 58 (planC (cA A N)) ∧ Aside w' Y lb 3 (lastA L)
section
variable {A : Int} {w0 w w' : World} {X : Mc} {N : Nat} {t : PT} {k : Int} {l : List Nd}
theorem LyA.upd0 {w1 w2 : World} {pb lb : Nat} {L W : List Int} (h : LyA A w0 w w1 X N t pb lb L W k) (hu : Upd [] w1 w2) : LyA A w0 w w2 X N t pb lb L W k := by
  obtain ⟨Y, a, p, kk, ha, A1, A2⟩ := h.ev
  exact ⟨Y, a, p.upd0 hu, kk, ha, A1.upd0 hu, A2.upd0 hu⟩
theorem LyA.up {w1 : World} {pb lb : Nat} {L W : List Int} (h : LyA A w0 w w1 X N t pb lb L W k) (hN : New w0 w X) : Upd [] w0 w1 := by
  obtain ⟨Y, a, p, -⟩ := h.ev
  exact (hN.post p).up
theorem LyA.pb {w1 : World} {pb lb : Nat} {L W : List Int} (h : LyA A w0 w w1 X N t pb lb L W k) : Blk w1 pb 58 (planC (cA A N)) := let ⟨_, _, _, _, _, A, _⟩ := h.ev; A.b
theorem LyA.lb {w1 : World} {pb lb : Nat} {L W : List Int} (h : LyA A w0 w w1 X N t pb lb L W k) : Blk w1 lb 3 (lastA L) := let ⟨_, _, _, _, _, _, A⟩ := h.ev; A.b
/-- a store of the law's -/
theorem LyA.store (hA : inA A) {w1 : World} {pb lb : Nat} {L W : List Int} (h : LyA A w0 w w1 X N t pb lb L W k) (hc : X.s.on = false ∧ X.s.L = []) (h3 : 3 ≤ N) (h20 : N ≤ 20) (hu : ∀ x ∈ W, u64R x) (hl : W.length = 18 + 10 * N) (hk : 0 ≤ k ∧ k ≤ 890000) (a : Nat) (ha : a < W.length) (x : Int) :
    Fn Try.prog 61 #[ptrV X.m, .int .i64 (a : Int), .int .u64 x] w1 fun _ w2 => LyA A w0 w w2 X N t pb lb L (W.set a x) (k + 1) := by
  obtain ⟨Y, b, p, kk, hab, A1, A2⟩ := h.ev
  have hg : Good Y 900000 := ⟨by rw [hab]; exact MX_Ok hA h3 h20 hu hl (by omega), kk.calm hc⟩
  have hs := store_p p.ok hg (by omega) (a : Int) x
  rw [show Y.m = X.m from kk.m, hab, MX_store ha] at hs
  exact hs.mono fun _ w2 ⟨u, he, Z, p2, k2, a2, _⟩ => ⟨u, he, Z, true, p.trans p2, kk.trans k2, a2, A1.post p2, A2.post p2⟩
/-- the row of the last ones is written -/
theorem LyA.put {w1 w2 : World} {pb lb : Nat} {L W : List Int} (h : LyA A w0 w w1 X N t pb lb L W k) {L' : List Int} (hb : Blk w2 lb 3 (lastA L')) (hu : Upd [lb] w1 w2) (hne : pb ≠ lb) (hlb : w.heap.size ≤ lb) : LyA A w0 w w2 X N t pb lb L' W k := by
  obtain ⟨Y, a, p, kk, ha, A1, A2⟩ := h.ev
  have hm : Mach w2 Y := p.ok.aside A2.n hu
  exact ⟨Y, a, ⟨hm, ⟨p.to.up.step hu (fun x hx => by rw [List.mem_singleton.1 hx]; exact .inr hlb), p.to.sub⟩⟩, kk, ha, ⟨A1.b.upd hu (by simpa using hne), A1.n⟩, ⟨hb, A2.n⟩⟩
set_option maxHeartbeats 2000000 in
set_option maxRecDepth 10000 in
theorem layX_1 {q : Int} (hq : q % 2 = 0) {Wz : List Int} {a : Bool} {v : Value} (hN : New w0 w X) (hc : X.s.on = false ∧ X.s.L = []) (ha : X.abs = MX 1 N Wz k a t) (hP0 : Part Wz N (lnk 1 l) 0 0 0 [1, 1, 1, 1]) (hk : NdsOk l N) (hv : valOk l) (hl : RdNd w0 v l) (hkb : 0 ≤ k ∧ k ≤ 100000) :
    Fn Try.prog 19 #[ptrV X.m, .int .i64 q, v] w fun _ w' => ∃ W' k' a', Ev w X w' (MX 1 N W' k' a' t) ∧ Lays W' N (lnk 1 l) ∧ VT W' N 1 l l.length ∧ (∀ x ∈ W', u64R x) ∧ 0 ≤ k' ∧ k' ≤ k + 400 := by
  have hA : inA 1 := by unfold inA; decide
  have hkl : NdsOk (lnk 1 l) N := hk.lnk 1
  have hlen : (lnk 1 l).length = l.length := lnk_len 1 l
  have hkey : ∀ i, (ndAt (lnk 1 l) i).key = (ndAt l i).key := fun i => (lnk_at 1 l i).1
  have htall : ∀ i, (ndAt (lnk 1 l) i).tall = (ndAt l i).tall := fun i => (lnk_at 1 l i).2.1
  have hdead : ∀ i, (ndAt (lnk 1 l) i).dead = false := fun i => (lnk_at 1 l i).2.2
  generalize lnk 1 l = l' at *
  obtain ⟨va, vc, rfl, hv1, hv2⟩ := hl.form
  have hfew := hk.few
  have hn20 := hk.n20
  have hcr : rightC (cA 1 (N : Int)) := cA_right hA hk.n3 hk.n20
  have hcX : X.c = cA 1 (N : Int) := congrArg PS.c ha
  refine fn_enter Try.func19 rfl rfl ?_
  refine cl (plan_mm hN.ok) ?_
  rintro _ w1 ⟨rfl, hu1⟩
  rw [hcX]
  refine al z15 (fun _ => by kernel_rfl) fun w2 hb2 hu2 hs2 => ?_
  refine stw hb2 rfl (planC_len (cA 1 N)) (planC_one (cA 1 N)) fun w3 hb3 hu3 hs3 => ?_
  have hb3 : Blk w3 w1.heap.size 58 (planC (cA 1 N)) := hb3
  have z1 := hu1.size
  have hU3 : Upd [] w w3 := (hu1.trans hu2).step hu3 (by simp; omega)
  refine bs (lastA [1, 1, 1, 1]) (fun _ => by kernel_rfl) fun w4 hb4 hu4 hs4 => ?_
  have hb4 : Blk w4 w3.heap.size 3 (lastA [1, 1, 1, 1]) := hb4
  have hU4 := hU3.trans hu4
  have hlt : ∀ q ∈ X.feet, q < w.heap.size := fun q hq => hN.ok.lt q hq
  have I4 : LyA 1 w0 w w4 X N t w1.heap.size w3.heap.size [1, 1, 1, 1] Wz k :=
    ⟨X, a, .of0 hN.ok hU4, .refl X, ha, ⟨hb3.upd hu4 (by simp), fun hq => by have := hlt _ hq; omega⟩, ⟨hb4, fun hq => by have := hlt _ hq; have := hU3.size; omega⟩⟩
  have hne : w1.heap.size ≠ w3.heap.size := by omega
  have hlb : w.heap.size ≤ w3.heap.size := hU3.size
  clear hb2 hb3 hb4 hu2 hu3 hu4 hU3 hU4 hlt
  generalize w1.heap.size = pb at *
  generalize w3.heap.size = lb at *
  refine loop_rule [0, 1, 2, 6, 7] [8] (fun vs w' m => ∃ (i : Nat) (W : List Int) (k' : Int) (L : List Int), vs = [.int .i64 (i : Int)] ∧ i ≤ l.length ∧ m = l.length - i ∧ LyA 1 w0 w w' X N t pb lb L W k' ∧ Part W N l' i 0 i L ∧ VT W N 1 l i ∧ k' ≤ k + 8 * i ∧ 0 ≤ k') rfl [.int .i64 0] l.length rfl
    ⟨0, Wz, k, _, rfl, by omega, rfl, I4, hP0, (fun j hj => by omega), by omega, by omega⟩ ?_
  rintro _ w5 m ⟨i, W, k5, L, rfl, hi, rfl, I, hP, hVT, hk5, hk50⟩
  refine len_sl ?_
  refine cd (fun hlt => ?_) (fun hlt => ?_)
  · have hlt : i < l.length := by omega
    obtain ⟨b, o, cap, he, -⟩ := hl.some_ (by omega)
    cases he
    have hu := hk.u64 i hlt
    have hvi := hv (ndAt l i) (by simp [List.getD, hlt])
    refine ar64 (by omega) ?_
    refine draw_mix 14 [(0, true), (1, true), (2, true), (4, true), (5, true), (6, true), (7, true), (8, true), (9, true), (10, true), (11, true), (12, true), (13, true), (3, false)] (fun w' => Upd [] w5 w') (by decide +kernel) (Upd.refl [] w5).drew ?_
    refine rq (.agg (planC (cA 1 N))) (fun w' hw' => ldw (I.upd0 hw').pb (planC_len _) ⟨rfl, rfl⟩) ?_
    refine q_ix i rfl hlt ?_
    refine q_fa ?_
    refine q_ld (v := .int .u32 (ndAt l i).key) (fun w' hw' => by rw [(hl.upd0 ((I.upd0 hw').up hN)).nd rfl i hlt 0 (by omega)]; rfl) ?_
    refine rq (.int .u64 (ndAt l i).key) (fun _ _ => cv (arU (by omega) ⟨rfl, rfl⟩)) ?_
    refine q_arU (by omega) ?_
    refine rq (.int .u64 (i : Int)) (fun _ _ => cv (arU (by omega) ⟨rfl, rfl⟩)) ?_
    refine q_arU (by omega) ?_
    refine cl (node_a2 hcr ((i : Int) + 3) 0 w5.drew) ?_
    rintro _ w6 ⟨rfl, hu6⟩
    have hu6 : Upd [] w5 w6 := (Upd.refl [] w5).drew.trans hu6
    refine ⟨hu6, ?_⟩
    have e0 : ∀ f : Nat, f < 9 → (cA 1 (N : Int)).node ((i : Int) + 3) (f : Int) = (adr N (i + 1) f : Int) := fun f hf => by rw [← predN_s, adr_nodeA hA (by omega) hf]
    rw [show (cA 1 (N : Int)).node ((i : Int) + 3) 0 = (adr N (i + 1) 0 : Int) from e0 0 (by omega)]
    have haL : ∀ f : Nat, f < 9 → adr N (i + 1) f < 18 + 10 * N := fun f hf => adr_lt (by omega) hf
    refine cl ((I.upd0 hu6).store hA hc hk.n3 hk.n20 hP.u hP.len ⟨by omega, by omega⟩ (adr N (i + 1) 0) (by rw [hP.len]; exact haL 0 (by omega)) _) ?_
    rintro _ w7 I7
    have hP7 := hP.ord (o := i) (x := (ndAt l i).key * 4294967296 + i) (by omega) ⟨by omega, by omega⟩ (by rw [hkey])
    have hVT7 := hVT.ne (i := i + 1) (f := 0) (by omega) (.inl ⟨by omega, by omega⟩) ((ndAt l i).key * 4294967296 + i)
    refine ix i rfl hlt ?_
    refine fa ?_
    refine ld (v := .int .u32 (ndAt l i).val) (by rw [(hl.upd0 (I7.up hN)).nd rfl i hlt 1 (by omega)]; rfl) ?_
    refine cv ?_
    refine arU (by omega) ?_
    refine and64 0 (by omega) ?_
    refine arU (by omega) ?_
    refine ix i rfl hlt ?_
    refine fa ?_
    cases hdd : (ndAt l i).dead with
    | true =>
      refine ld (v := .bool true) (by rw [(hl.upd0 (I7.up hN)).nd rfl i hlt 3 (by omega), ndL, hdd]; rfl) ?_
      refine arU (by omega) ?_
      refine ldw I7.pb (planC_len _) ?_
      refine cl (node_a2 hcr ((i : Int) + 3) 1 w7) ?_
      rintro _ w8 ⟨rfl, hu8⟩
      rw [show (cA 1 (N : Int)).node ((i : Int) + 3) 1 = (adr N (i + 1) 1 : Int) from e0 1 (by omega)]
      refine cl ((I7.upd0 hu8).store hA hc hk.n3 hk.n20 hP7.u hP7.len ⟨by omega, by omega⟩ (adr N (i + 1) 1) (by rw [hP7.len]; exact haL 1 (by omega)) _) ?_
      rintro _ w9 I9
      have hP9 := hP7.other (f := 1) (i + 1) (.inl rfl) (x := (2 * (ndAt l i).val + 1)) ⟨by omega, by omega⟩
      refine draw_mix 10 [(0, true), (1, true), (2, true), (4, true), (5, true), (6, true), (7, true), (8, true), (9, true), (3, false)] (fun w' => Upd [] w9 w') (by decide +kernel) (Upd.refl [] w9).drew ?_
      refine rq (.agg (planC (cA 1 N))) (fun w' hw' => ldw (I9.upd0 hw').pb (planC_len _) ⟨rfl, rfl⟩) ?_
      refine q_ix i rfl hlt ?_
      refine q_fa ?_
      refine q_ld (v := .int .i64 (ndAt l i).tall) (fun w' hw' => by rw [(hl.upd0 ((I9.upd0 hw').up hN)).nd rfl i hlt 2 (by omega)]; rfl) ?_
      refine rq (.int .u64 (ndAt l i).tall) (fun _ _ => cv (arU (by omega) ⟨rfl, rfl⟩)) ?_
      refine cl (node_a2 hcr ((i : Int) + 3) 3 w9.drew) ?_
      rintro _ w10 ⟨rfl, hu10⟩
      have hu10 : Upd [] w9 w10 := (Upd.refl [] w9).drew.trans hu10
      refine ⟨hu10, ?_⟩
      rw [show (cA 1 (N : Int)).node ((i : Int) + 3) 3 = (adr N (i + 1) 3 : Int) from e0 3 (by omega)]
      refine cl ((I9.upd0 hu10).store hA hc hk.n3 hk.n20 hP9.u hP9.len ⟨by omega, by omega⟩ (adr N (i + 1) 3) (by rw [hP9.len]; exact haL 3 (by omega)) _) ?_
      rintro _ w11 I11
      have hP11 := hP9.other (f := 3) (i + 1) (.inr rfl) (x := (ndAt l i).tall) ⟨by omega, by omega⟩
      have hVT11 := hVT7.add hP7.len (by omega) (x := (2 * (ndAt l i).val + 1)) (y := (ndAt l i).tall) (by unfold vwd; rw [if_pos rfl, hdd]; rfl) rfl
      obtain ⟨T, hT⟩ : ∃ T : Nat, (ndAt l i).tall = (T : Int) := ⟨_, (Int.toNat_of_nonneg (by omega)).symm⟩
      refine loop_rule [0, 1, 2, 6, 7, 8, 9] [11] (fun vs w' m => ∃ (rr : Nat) (W : List Int) (k' : Int) (L : List Int), vs = [.int .i64 (rr : Int)] ∧ rr ≤ T ∧ m = T - rr ∧ LyA 1 w0 w w' X N t pb lb L W k' ∧ Part W N l' i rr (i + 1) L ∧ VT W N 1 l (i + 1) ∧ k' ≤ k + 8 * i + 3 + rr ∧ 0 ≤ k') rfl [.int .i64 0] T rfl
        ⟨0, _, k5 + 1 + 1 + 1, L, rfl, by omega, rfl, I11, hP11, hVT11, by omega, by omega⟩ ?_
      clear hP hP7 hP9 hP11 I I7 I9 I11 hk5 hk50 hVT hVT7 hVT11
      rintro _ w12 m ⟨rr, W, k12, L, rfl, hrr, rfl, I, hP, hVT, hk12, hk120⟩
      refine ix i rfl hlt ?_
      refine fa ?_
      refine ld (v := .int .i64 (T : Int)) (by rw [(hl.upd0 (I.up hN)).nd rfl i hlt 2 (by omega), ← hT]; rfl) ?_
      refine cd (fun hrT => ?_) (fun hrT => ?_)
      · have hr4 : rr < 4 := by omega
        obtain ⟨g, hg, hg2, -⟩ := hP.last rr hr4
        have hgl : g ≤ l.length := by unfold cnt at hg2; split at hg2 <;> omega
        have hgb : 1 ≤ predN g ∧ predN g ≤ N := by unfold predN; split <;> omega
        have eg : (cA 1 (N : Int)).node (predN g) (5 + (rr : Int)) = (adr N g (5 + rr) : Int) := by rw [show (5 : Int) + (rr : Int) = ((5 + rr : Nat) : Int) by omega, adr_nodeA hA (by omega) (by omega)]
        have hag : adr N g (5 + rr) < 18 + 10 * N := adr_lt (by omega) (by omega)
        have hLl := hP.L4
        refine cv ?_
        refine arU (by omega) ?_
        refine arU (by omega) ?_
        refine and64 0 (by omega) ?_
        refine draw_mix 10 [(0, true), (1, true), (2, true), (3, true), (4, true), (5, true), (6, true), (7, true), (9, true), (8, false)] (fun w' => Upd [] w12 w') (by decide +kernel) (Upd.refl [] w12).drew ?_
        refine rq (.agg (planC (cA 1 N))) (fun w' hw' => ldw (I.upd0 hw').pb (planC_len _) ⟨rfl, rfl⟩) ?_
        refine q_ix rr rfl hr4 ?_
        refine q_ld (v := .int .i64 (L.getD rr 0)) (fun w' hw' => by rw [(I.upd0 hw').lb.cell, show 0 + rr * 1 = rr by omega]; exact lastA_at L rr (by omega)) ?_
        refine q_ar64 (by omega) ?_
        rw [hg]
        refine cl (node_a2 hcr (predN g) (5 + ((rr : Nat) : Int)) w12.drew) ?_
        rintro _ w13 ⟨rfl, hu13⟩
        have hu13 : Upd [] w12 w13 := (Upd.refl [] w12).drew.trans hu13
        refine ⟨hu13, ?_⟩
        rw [eg]
        refine cl ((I.upd0 hu13).store hA hc hk.n3 hk.n20 hP.u hP.len ⟨by omega, by omega⟩ (adr N g (5 + rr)) (by rw [hP.len]; exact hag) (2 * ((i : Int) + 3))) ?_
        rintro _ w14 I14
        have hP14 := hP.row hkl (by omega) hr4 (by rw [htall]; omega) hg (x := 2 * ((i : Int) + 3)) ⟨by omega, by omega⟩ (by rw [hdead, if_neg (fun hh => by cases hh.2)]; omega)
        refine ix rr rfl hr4 ?_
        refine st I14.lb (by unfold lastA; simp; omega) rfl fun w15 hb15 hu15 hs15 => ?_
        rw [show 0 + rr * 1 = rr by omega, lastA_set] at hb15
        have I15 := I14.put hb15 hu15 hne hlb
        refine ar64 (by omega) ?_
        exact round_mk [.int .i64 ((rr + 1 : Nat) : Int)] (T - (rr + 1)) rfl rfl ⟨rr + 1, _, k12 + 1, _, rfl, by omega, rfl, I15, hP14, hVT.ne (by omega) (.inl ⟨by omega, by omega⟩) _, by omega, by omega⟩ (by omega)
      · obtain rfl : rr = T := by omega
        refine ar64 (by omega) ?_
        exact round_mk [.int .i64 ((i + 1 : Nat) : Int)] (l.length - (i + 1)) rfl rfl ⟨i + 1, W, k12, L, rfl, by omega, rfl, I, hP.next (by omega) (by rw [htall]; exact hT.symm), hVT, by omega, hk120⟩ (by omega)
    | false =>
      refine ld (v := .bool false) (by rw [(hl.upd0 (I7.up hN)).nd rfl i hlt 3 (by omega), ndL, hdd]; rfl) ?_
      refine ldw I7.pb (planC_len _) ?_
      refine cl (node_a2 hcr ((i : Int) + 3) 1 w7) ?_
      rintro _ w8 ⟨rfl, hu8⟩
      rw [show (cA 1 (N : Int)).node ((i : Int) + 3) 1 = (adr N (i + 1) 1 : Int) from e0 1 (by omega)]
      refine cl ((I7.upd0 hu8).store hA hc hk.n3 hk.n20 hP7.u hP7.len ⟨by omega, by omega⟩ (adr N (i + 1) 1) (by rw [hP7.len]; exact haL 1 (by omega)) _) ?_
      rintro _ w9 I9
      have hP9 := hP7.other (f := 1) (i + 1) (.inl rfl) (x := (2 * (ndAt l i).val)) ⟨by omega, by omega⟩
      refine draw_mix 10 [(0, true), (1, true), (2, true), (4, true), (5, true), (6, true), (7, true), (8, true), (9, true), (3, false)] (fun w' => Upd [] w9 w') (by decide +kernel) (Upd.refl [] w9).drew ?_
      refine rq (.agg (planC (cA 1 N))) (fun w' hw' => ldw (I9.upd0 hw').pb (planC_len _) ⟨rfl, rfl⟩) ?_
      refine q_ix i rfl hlt ?_
      refine q_fa ?_
      refine q_ld (v := .int .i64 (ndAt l i).tall) (fun w' hw' => by rw [(hl.upd0 ((I9.upd0 hw').up hN)).nd rfl i hlt 2 (by omega)]; rfl) ?_
      refine rq (.int .u64 (ndAt l i).tall) (fun _ _ => cv (arU (by omega) ⟨rfl, rfl⟩)) ?_
      refine cl (node_a2 hcr ((i : Int) + 3) 3 w9.drew) ?_
      rintro _ w10 ⟨rfl, hu10⟩
      have hu10 : Upd [] w9 w10 := (Upd.refl [] w9).drew.trans hu10
      refine ⟨hu10, ?_⟩
      rw [show (cA 1 (N : Int)).node ((i : Int) + 3) 3 = (adr N (i + 1) 3 : Int) from e0 3 (by omega)]
      refine cl ((I9.upd0 hu10).store hA hc hk.n3 hk.n20 hP9.u hP9.len ⟨by omega, by omega⟩ (adr N (i + 1) 3) (by rw [hP9.len]; exact haL 3 (by omega)) _) ?_
      rintro _ w11 I11
      have hP11 := hP9.other (f := 3) (i + 1) (.inr rfl) (x := (ndAt l i).tall) ⟨by omega, by omega⟩
      have hVT11 := hVT7.add hP7.len (by omega) (x := (2 * (ndAt l i).val)) (y := (ndAt l i).tall) (by unfold vwd; rw [if_pos rfl, hdd]; simp) rfl
      obtain ⟨T, hT⟩ : ∃ T : Nat, (ndAt l i).tall = (T : Int) := ⟨_, (Int.toNat_of_nonneg (by omega)).symm⟩
      refine loop_rule [0, 1, 2, 6, 7, 8, 9] [11] (fun vs w' m => ∃ (rr : Nat) (W : List Int) (k' : Int) (L : List Int), vs = [.int .i64 (rr : Int)] ∧ rr ≤ T ∧ m = T - rr ∧ LyA 1 w0 w w' X N t pb lb L W k' ∧ Part W N l' i rr (i + 1) L ∧ VT W N 1 l (i + 1) ∧ k' ≤ k + 8 * i + 3 + rr ∧ 0 ≤ k') rfl [.int .i64 0] T rfl
        ⟨0, _, k5 + 1 + 1 + 1, L, rfl, by omega, rfl, I11, hP11, hVT11, by omega, by omega⟩ ?_
      clear hP hP7 hP9 hP11 I I7 I9 I11 hk5 hk50 hVT hVT7 hVT11
      rintro _ w12 m ⟨rr, W, k12, L, rfl, hrr, rfl, I, hP, hVT, hk12, hk120⟩
      refine ix i rfl hlt ?_
      refine fa ?_
      refine ld (v := .int .i64 (T : Int)) (by rw [(hl.upd0 (I.up hN)).nd rfl i hlt 2 (by omega), ← hT]; rfl) ?_
      refine cd (fun hrT => ?_) (fun hrT => ?_)
      · have hr4 : rr < 4 := by omega
        obtain ⟨g, hg, hg2, -⟩ := hP.last rr hr4
        have hgl : g ≤ l.length := by unfold cnt at hg2; split at hg2 <;> omega
        have hgb : 1 ≤ predN g ∧ predN g ≤ N := by unfold predN; split <;> omega
        have eg : (cA 1 (N : Int)).node (predN g) (5 + (rr : Int)) = (adr N g (5 + rr) : Int) := by rw [show (5 : Int) + (rr : Int) = ((5 + rr : Nat) : Int) by omega, adr_nodeA hA (by omega) (by omega)]
        have hag : adr N g (5 + rr) < 18 + 10 * N := adr_lt (by omega) (by omega)
        have hLl := hP.L4
        refine cv ?_
        refine arU (by omega) ?_
        refine arU (by omega) ?_
        refine and64 0 (by omega) ?_
        refine draw_mix 10 [(0, true), (1, true), (2, true), (3, true), (4, true), (5, true), (6, true), (7, true), (9, true), (8, false)] (fun w' => Upd [] w12 w') (by decide +kernel) (Upd.refl [] w12).drew ?_
        refine rq (.agg (planC (cA 1 N))) (fun w' hw' => ldw (I.upd0 hw').pb (planC_len _) ⟨rfl, rfl⟩) ?_
        refine q_ix rr rfl hr4 ?_
        refine q_ld (v := .int .i64 (L.getD rr 0)) (fun w' hw' => by rw [(I.upd0 hw').lb.cell, show 0 + rr * 1 = rr by omega]; exact lastA_at L rr (by omega)) ?_
        refine q_ar64 (by omega) ?_
        rw [hg]
        refine cl (node_a2 hcr (predN g) (5 + ((rr : Nat) : Int)) w12.drew) ?_
        rintro _ w13 ⟨rfl, hu13⟩
        have hu13 : Upd [] w12 w13 := (Upd.refl [] w12).drew.trans hu13
        refine ⟨hu13, ?_⟩
        rw [eg]
        refine cl ((I.upd0 hu13).store hA hc hk.n3 hk.n20 hP.u hP.len ⟨by omega, by omega⟩ (adr N g (5 + rr)) (by rw [hP.len]; exact hag) (2 * ((i : Int) + 3))) ?_
        rintro _ w14 I14
        have hP14 := hP.row hkl (by omega) hr4 (by rw [htall]; omega) hg (x := 2 * ((i : Int) + 3)) ⟨by omega, by omega⟩ (by rw [hdead, if_neg (fun hh => by cases hh.2)]; omega)
        refine ix rr rfl hr4 ?_
        refine st I14.lb (by unfold lastA; simp; omega) rfl fun w15 hb15 hu15 hs15 => ?_
        rw [show 0 + rr * 1 = rr by omega, lastA_set] at hb15
        have I15 := I14.put hb15 hu15 hne hlb
        refine ar64 (by omega) ?_
        exact round_mk [.int .i64 ((rr + 1 : Nat) : Int)] (T - (rr + 1)) rfl rfl ⟨rr + 1, _, k12 + 1, _, rfl, by omega, rfl, I15, hP14, hVT.ne (by omega) (.inl ⟨by omega, by omega⟩) _, by omega, by omega⟩ (by omega)
      · obtain rfl : rr = T := by omega
        refine ar64 (by omega) ?_
        exact round_mk [.int .i64 ((i + 1 : Nat) : Int)] (l.length - (i + 1)) rfl rfl ⟨i + 1, W, k12, L, rfl, by omega, rfl, I, hP.next (by omega) (by rw [htall]; exact hT.symm), hVT, by omega, hk120⟩ (by omega)
  obtain rfl : i = l.length := by omega
  rw [← hlen] at hP
  refine loop_rule [0, 6, 7] [13] (fun vs w' m => ∃ (kk : Nat) (W : List Int) (k' : Int), vs = [.int .i64 (kk : Int)] ∧ kk ≤ 4 ∧ m = 4 - kk ∧ LyA 1 w0 w w' X N t pb lb L W k' ∧ Part W N l' l'.length 0 l'.length L ∧ VT W N 1 l l.length ∧ (∀ k f : Nat, k < kk → f ≤ l'.length → (f = 0 ∨ (k : Int) < (ndAt l' (f - 1)).tall) → W.getD (adr N f (5 + k)) 0 = wd l' k f) ∧ k' ≤ k + 8 * l.length + kk ∧ 0 ≤ k') rfl [.int .i64 0] 4 rfl
    ⟨0, W, k5, rfl, by omega, rfl, I, hP, hVT, fun k f h => by omega, by omega, hk50⟩ ?_
  clear hP I hk5 hk50 hVT
  rintro _ w12 m ⟨kk, W, k12, rfl, hkk, rfl, I, hP, hVT, hdone, hk12, hk120⟩
  refine cd (fun hk4 => ?_) (fun hk4 => ?_)
  · have hr4 : kk < 4 := by omega
    obtain ⟨g, hg, hg2, -⟩ := hP.last kk hr4
    have hgl : g ≤ l.length := by unfold cnt at hg2; split at hg2 <;> omega
    have eg : (cA 1 (N : Int)).node (predN g) (5 + (kk : Int)) = (adr N g (5 + kk) : Int) := by rw [show (5 : Int) + (kk : Int) = ((5 + kk : Nat) : Int) by omega, adr_nodeA hA (by omega) (by omega)]
    have hag : adr N g (5 + kk) < 18 + 10 * N := adr_lt (by omega) (by omega)
    have hLl := hP.L4
    refine draw_mix 9 [(0, true), (1, true), (2, true), (3, true), (4, true), (5, true), (6, true), (7, true), (8, false)] (fun w' => Upd [] w12 w') (by decide +kernel) (Upd.refl [] w12).drew ?_
    refine rq (.agg (planC (cA 1 N))) (fun w' hw' => ldw (I.upd0 hw').pb (planC_len _) ⟨rfl, rfl⟩) ?_
    refine q_ix kk rfl hr4 ?_
    refine q_ld (v := .int .i64 (L.getD kk 0)) (fun w' hw' => by rw [(I.upd0 hw').lb.cell, show 0 + kk * 1 = kk by omega]; exact lastA_at L kk (by omega)) ?_
    refine q_ar64 (by omega) ?_
    rw [hg]
    refine cl (node_a2 hcr (predN g) (5 + (kk : Int)) w12.drew) ?_
    rintro _ w13 ⟨rfl, hu13⟩
    have hu13 : Upd [] w12 w13 := (Upd.refl [] w12).drew.trans hu13
    refine ⟨hu13, ?_⟩
    rw [eg]
    refine cl ((I.upd0 hu13).store hA hc hk.n3 hk.n20 hP.u hP.len ⟨by omega, by omega⟩ (adr N g (5 + kk)) (by rw [hP.len]; exact hag) 4) ?_
    rintro _ w14 I14
    obtain ⟨t1, t2⟩ := hP.tail hkl kk hr4 hdone hg
    refine ar64 (by omega) ?_
    exact round_mk [.int .i64 ((kk + 1 : Nat) : Int)] (4 - (kk + 1)) rfl rfl ⟨kk + 1, _, k12 + 1, rfl, by omega, rfl, I14, t1, hVT.ne (by omega) (.inl ⟨by omega, by omega⟩) _, t2, by omega, by omega⟩ (by omega)
  · obtain rfl : kk = 4 := by omega
    obtain ⟨Y, a', p, kn, hab, -⟩ := I.ev
    exact ⟨W, k12, a', ⟨Y, p, kn, hab⟩, hP.lays hkl hdone, hVT, hP.u, hk120, by omega⟩
set_option maxHeartbeats 2000000 in
set_option maxRecDepth 10000 in
theorem layX_2 {q : Int} (hq : q % 2 = 1) {Wz : List Int} {a : Bool} {v : Value} (hN : New w0 w X) (hc : X.s.on = false ∧ X.s.L = []) (ha : X.abs = MX 2 N Wz k a t) (hP0 : Part Wz N (lnk 2 l) 0 0 0 [1, 1, 1, 1]) (hk : NdsOk l N) (hv : valOk l) (hl : RdNd w0 v l) (hkb : 0 ≤ k ∧ k ≤ 100000) :
    Fn Try.prog 19 #[ptrV X.m, .int .i64 q, v] w fun _ w' => ∃ W' k' a', Ev w X w' (MX 2 N W' k' a' t) ∧ Lays W' N (lnk 2 l) ∧ VT W' N 2 l l.length ∧ (∀ x ∈ W', u64R x) ∧ 0 ≤ k' ∧ k' ≤ k + 400 := by
  have hA : inA 2 := by unfold inA; decide
  have hkl : NdsOk (lnk 2 l) N := hk.lnk 2
  have hlen : (lnk 2 l).length = l.length := lnk_len 2 l
  have hkey : ∀ i, (ndAt (lnk 2 l) i).key = (ndAt l i).key := fun i => (lnk_at 2 l i).1
  have htall : ∀ i, (ndAt (lnk 2 l) i).tall = (ndAt l i).tall := fun i => (lnk_at 2 l i).2.1
  have hdead : ∀ i, (ndAt (lnk 2 l) i).dead = (ndAt l i).dead := fun i => (lnk_at 2 l i).2.2
  generalize lnk 2 l = l' at *
  obtain ⟨va, vc, rfl, hv1, hv2⟩ := hl.form
  have hfew := hk.few
  have hn20 := hk.n20
  have hcr : rightC (cA 2 (N : Int)) := cA_right hA hk.n3 hk.n20
  have hcX : X.c = cA 2 (N : Int) := congrArg PS.c ha
  refine fn_enter Try.func19 rfl rfl ?_
  refine cl (plan_mm hN.ok) ?_
  rintro _ w1 ⟨rfl, hu1⟩
  rw [hcX]
  refine al z15 (fun _ => by kernel_rfl) fun w2 hb2 hu2 hs2 => ?_
  refine stw hb2 rfl (planC_len (cA 2 N)) (planC_one (cA 2 N)) fun w3 hb3 hu3 hs3 => ?_
  have hb3 : Blk w3 w1.heap.size 58 (planC (cA 2 N)) := hb3
  have z1 := hu1.size
  have hU3 : Upd [] w w3 := (hu1.trans hu2).step hu3 (by simp; omega)
  refine bs (lastA [1, 1, 1, 1]) (fun _ => by kernel_rfl) fun w4 hb4 hu4 hs4 => ?_
  have hb4 : Blk w4 w3.heap.size 3 (lastA [1, 1, 1, 1]) := hb4
  have hU4 := hU3.trans hu4
  have hlt : ∀ q ∈ X.feet, q < w.heap.size := fun q hq => hN.ok.lt q hq
  have I4 : LyA 2 w0 w w4 X N t w1.heap.size w3.heap.size [1, 1, 1, 1] Wz k :=
    ⟨X, a, .of0 hN.ok hU4, .refl X, ha, ⟨hb3.upd hu4 (by simp), fun hq => by have := hlt _ hq; omega⟩, ⟨hb4, fun hq => by have := hlt _ hq; have := hU3.size; omega⟩⟩
  have hne : w1.heap.size ≠ w3.heap.size := by omega
  have hlb : w.heap.size ≤ w3.heap.size := hU3.size
  clear hb2 hb3 hb4 hu2 hu3 hu4 hU3 hU4 hlt
  generalize w1.heap.size = pb at *
  generalize w3.heap.size = lb at *
  refine loop_rule [0, 1, 2, 6, 7] [8] (fun vs w' m => ∃ (i : Nat) (W : List Int) (k' : Int) (L : List Int), vs = [.int .i64 (i : Int)] ∧ i ≤ l.length ∧ m = l.length - i ∧ LyA 2 w0 w w' X N t pb lb L W k' ∧ Part W N l' i 0 i L ∧ VT W N 2 l i ∧ k' ≤ k + 8 * i ∧ 0 ≤ k') rfl [.int .i64 0] l.length rfl
    ⟨0, Wz, k, _, rfl, by omega, rfl, I4, hP0, (fun j hj => by omega), by omega, by omega⟩ ?_
  rintro _ w5 m ⟨i, W, k5, L, rfl, hi, rfl, I, hP, hVT, hk5, hk50⟩
  refine len_sl ?_
  refine cd (fun hlt => ?_) (fun hlt => ?_)
  · have hlt : i < l.length := by omega
    obtain ⟨b, o, cap, he, -⟩ := hl.some_ (by omega)
    cases he
    have hu := hk.u64 i hlt
    have hvi := hv (ndAt l i) (by simp [List.getD, hlt])
    refine ar64 (by omega) ?_
    refine draw_mix 14 [(0, true), (1, true), (2, true), (4, true), (5, true), (6, true), (7, true), (8, true), (9, true), (10, true), (11, true), (12, true), (13, true), (3, false)] (fun w' => Upd [] w5 w') (by decide +kernel) (Upd.refl [] w5).drew ?_
    refine rq (.agg (planC (cA 2 N))) (fun w' hw' => ldw (I.upd0 hw').pb (planC_len _) ⟨rfl, rfl⟩) ?_
    refine q_ix i rfl hlt ?_
    refine q_fa ?_
    refine q_ld (v := .int .u32 (ndAt l i).key) (fun w' hw' => by rw [(hl.upd0 ((I.upd0 hw').up hN)).nd rfl i hlt 0 (by omega)]; rfl) ?_
    refine rq (.int .u64 (ndAt l i).key) (fun _ _ => cv (arU (by omega) ⟨rfl, rfl⟩)) ?_
    refine q_arU (by omega) ?_
    refine rq (.int .u64 (i : Int)) (fun _ _ => cv (arU (by omega) ⟨rfl, rfl⟩)) ?_
    refine q_arU (by omega) ?_
    refine cl (node_a2 hcr ((i : Int) + 3) 0 w5.drew) ?_
    rintro _ w6 ⟨rfl, hu6⟩
    have hu6 : Upd [] w5 w6 := (Upd.refl [] w5).drew.trans hu6
    refine ⟨hu6, ?_⟩
    have e0 : ∀ f : Nat, f < 9 → (cA 2 (N : Int)).node ((i : Int) + 3) (f : Int) = (adr N (i + 1) f : Int) := fun f hf => by rw [← predN_s, adr_nodeA hA (by omega) hf]
    rw [show (cA 2 (N : Int)).node ((i : Int) + 3) 0 = (adr N (i + 1) 0 : Int) from e0 0 (by omega)]
    have haL : ∀ f : Nat, f < 9 → adr N (i + 1) f < 18 + 10 * N := fun f hf => adr_lt (by omega) hf
    refine cl ((I.upd0 hu6).store hA hc hk.n3 hk.n20 hP.u hP.len ⟨by omega, by omega⟩ (adr N (i + 1) 0) (by rw [hP.len]; exact haL 0 (by omega)) _) ?_
    rintro _ w7 I7
    have hP7 := hP.ord (o := i) (x := (ndAt l i).key * 4294967296 + i) (by omega) ⟨by omega, by omega⟩ (by rw [hkey])
    have hVT7 := hVT.ne (i := i + 1) (f := 0) (by omega) (.inl ⟨by omega, by omega⟩) ((ndAt l i).key * 4294967296 + i)
    refine ix i rfl hlt ?_
    refine fa ?_
    refine ld (v := .int .u32 (ndAt l i).val) (by rw [(hl.upd0 (I7.up hN)).nd rfl i hlt 1 (by omega)]; rfl) ?_
    refine cv ?_
    refine arU (by omega) ?_
    refine and64 1 (by omega) ?_
    refine ldw I7.pb (planC_len _) ?_
    refine cl (node_a2 hcr ((i : Int) + 3) 1 w7) ?_
    rintro _ w8 ⟨rfl, hu8⟩
    rw [show (cA 2 (N : Int)).node ((i : Int) + 3) 1 = (adr N (i + 1) 1 : Int) from e0 1 (by omega)]
    refine cl ((I7.upd0 hu8).store hA hc hk.n3 hk.n20 hP7.u hP7.len ⟨by omega, by omega⟩ (adr N (i + 1) 1) (by rw [hP7.len]; exact haL 1 (by omega)) _) ?_
    rintro _ w9 I9
    have hP9 := hP7.other (f := 1) (i + 1) (.inl rfl) (x := (ndAt l i).val) ⟨by omega, by omega⟩
    refine draw_mix 10 [(0, true), (1, true), (2, true), (4, true), (5, true), (6, true), (7, true), (8, true), (9, true), (3, false)] (fun w' => Upd [] w9 w') (by decide +kernel) (Upd.refl [] w9).drew ?_
    refine rq (.agg (planC (cA 2 N))) (fun w' hw' => ldw (I9.upd0 hw').pb (planC_len _) ⟨rfl, rfl⟩) ?_
    refine q_ix i rfl hlt ?_
    refine q_fa ?_
    refine q_ld (v := .int .i64 (ndAt l i).tall) (fun w' hw' => by rw [(hl.upd0 ((I9.upd0 hw').up hN)).nd rfl i hlt 2 (by omega)]; rfl) ?_
    refine rq (.int .u64 (ndAt l i).tall) (fun _ _ => cv (arU (by omega) ⟨rfl, rfl⟩)) ?_
    refine cl (node_a2 hcr ((i : Int) + 3) 3 w9.drew) ?_
    rintro _ w10 ⟨rfl, hu10⟩
    have hu10 : Upd [] w9 w10 := (Upd.refl [] w9).drew.trans hu10
    refine ⟨hu10, ?_⟩
    rw [show (cA 2 (N : Int)).node ((i : Int) + 3) 3 = (adr N (i + 1) 3 : Int) from e0 3 (by omega)]
    refine cl ((I9.upd0 hu10).store hA hc hk.n3 hk.n20 hP9.u hP9.len ⟨by omega, by omega⟩ (adr N (i + 1) 3) (by rw [hP9.len]; exact haL 3 (by omega)) _) ?_
    rintro _ w11 I11
    have hP11 := hP9.other (f := 3) (i + 1) (.inr rfl) (x := (ndAt l i).tall) ⟨by omega, by omega⟩
    have hVT11 := hVT7.add hP7.len (by omega) (x := (ndAt l i).val) (y := (ndAt l i).tall) (rfl) rfl
    obtain ⟨T, hT⟩ : ∃ T : Nat, (ndAt l i).tall = (T : Int) := ⟨_, (Int.toNat_of_nonneg (by omega)).symm⟩
    refine loop_rule [0, 1, 2, 6, 7, 8, 9] [11] (fun vs w' m => ∃ (rr : Nat) (W : List Int) (k' : Int) (L : List Int), vs = [.int .i64 (rr : Int)] ∧ rr ≤ T ∧ m = T - rr ∧ LyA 2 w0 w w' X N t pb lb L W k' ∧ Part W N l' i rr (i + 1) L ∧ VT W N 2 l (i + 1) ∧ k' ≤ k + 8 * i + 3 + rr ∧ 0 ≤ k') rfl [.int .i64 0] T rfl
      ⟨0, _, k5 + 1 + 1 + 1, L, rfl, by omega, rfl, I11, hP11, hVT11, by omega, by omega⟩ ?_
    clear hP hP7 hP9 hP11 I I7 I9 I11 hk5 hk50 hVT hVT7 hVT11
    rintro _ w12 m ⟨rr, W, k12, L, rfl, hrr, rfl, I, hP, hVT, hk12, hk120⟩
    refine ix i rfl hlt ?_
    refine fa ?_
    refine ld (v := .int .i64 (T : Int)) (by rw [(hl.upd0 (I.up hN)).nd rfl i hlt 2 (by omega), ← hT]; rfl) ?_
    refine cd (fun hrT => ?_) (fun hrT => ?_)
    · have hr4 : rr < 4 := by omega
      obtain ⟨g, hg, hg2, -⟩ := hP.last rr hr4
      have hgl : g ≤ l.length := by unfold cnt at hg2; split at hg2 <;> omega
      have hgb : 1 ≤ predN g ∧ predN g ≤ N := by unfold predN; split <;> omega
      have eg : (cA 2 (N : Int)).node (predN g) (5 + (rr : Int)) = (adr N g (5 + rr) : Int) := by rw [show (5 : Int) + (rr : Int) = ((5 + rr : Nat) : Int) by omega, adr_nodeA hA (by omega) (by omega)]
      have hag : adr N g (5 + rr) < 18 + 10 * N := adr_lt (by omega) (by omega)
      have hLl := hP.L4
      refine cv ?_
      refine arU (by omega) ?_
      refine arU (by omega) ?_
      refine and64 1 (by omega) ?_
      by_cases r0 : rr = 0
      · subst r0
        refine ix i rfl hlt ?_
        refine fa ?_
        refine ld (v := .bool (ndAt l i).dead) (by rw [(hl.upd0 (I.up hN)).nd rfl i hlt 3 (by omega)]; rfl) ?_
        cases hdd : (ndAt l i).dead with
        | true =>
          refine arU (by omega) ?_
          refine draw_mix 10 [(0, true), (1, true), (2, true), (3, true), (4, true), (5, true), (6, true), (7, true), (9, true), (8, false)] (fun w' => Upd [] w12 w') (by decide +kernel) (Upd.refl [] w12).drew ?_
          refine rq (.agg (planC (cA 2 N))) (fun w' hw' => ldw (I.upd0 hw').pb (planC_len _) ⟨rfl, rfl⟩) ?_
          refine q_ix 0 rfl hr4 ?_
          refine q_ld (v := .int .i64 (L.getD 0 0)) (fun w' hw' => by rw [(I.upd0 hw').lb.cell, show 0 + 0 * 1 = 0 by omega]; exact lastA_at L 0 (by omega)) ?_
          refine q_ar64 (by omega) ?_
          rw [hg]
          refine cl (node_a2 hcr (predN g) (5 + ((0 : Nat) : Int)) w12.drew) ?_
          rintro _ w13 ⟨rfl, hu13⟩
          have hu13 : Upd [] w12 w13 := (Upd.refl [] w12).drew.trans hu13
          refine ⟨hu13, ?_⟩
          rw [eg]
          refine cl ((I.upd0 hu13).store hA hc hk.n3 hk.n20 hP.u hP.len ⟨by omega, by omega⟩ (adr N g (5 + 0)) (by rw [hP.len]; exact hag) (2 * ((i : Int) + 3) + 1)) ?_
          rintro _ w14 I14
          have hP14 := hP.row hkl (by omega) hr4 (by rw [htall]; omega) hg (x := 2 * ((i : Int) + 3) + 1) ⟨by omega, by omega⟩ (by rw [hdead, if_pos ⟨rfl, hdd⟩])
          refine ix 0 rfl hr4 ?_
          refine st I14.lb (by unfold lastA; simp; omega) rfl fun w15 hb15 hu15 hs15 => ?_
          rw [show 0 + 0 * 1 = 0 by omega, lastA_set] at hb15
          have I15 := I14.put hb15 hu15 hne hlb
          refine ar64 (by omega) ?_
          exact round_mk [.int .i64 ((0 + 1 : Nat) : Int)] (T - (0 + 1)) rfl rfl ⟨0 + 1, _, k12 + 1, _, rfl, by omega, rfl, I15, hP14, hVT.ne (by omega) (.inl ⟨by omega, by omega⟩) _, by omega, by omega⟩ (by omega)
        | false =>
          refine draw_mix 10 [(0, true), (1, true), (2, true), (3, true), (4, true), (5, true), (6, true), (7, true), (9, true), (8, false)] (fun w' => Upd [] w12 w') (by decide +kernel) (Upd.refl [] w12).drew ?_
          refine rq (.agg (planC (cA 2 N))) (fun w' hw' => ldw (I.upd0 hw').pb (planC_len _) ⟨rfl, rfl⟩) ?_
          refine q_ix 0 rfl hr4 ?_
          refine q_ld (v := .int .i64 (L.getD 0 0)) (fun w' hw' => by rw [(I.upd0 hw').lb.cell, show 0 + 0 * 1 = 0 by omega]; exact lastA_at L 0 (by omega)) ?_
          refine q_ar64 (by omega) ?_
          rw [hg]
          refine cl (node_a2 hcr (predN g) (5 + ((0 : Nat) : Int)) w12.drew) ?_
          rintro _ w13 ⟨rfl, hu13⟩
          have hu13 : Upd [] w12 w13 := (Upd.refl [] w12).drew.trans hu13
          refine ⟨hu13, ?_⟩
          rw [eg]
          refine cl ((I.upd0 hu13).store hA hc hk.n3 hk.n20 hP.u hP.len ⟨by omega, by omega⟩ (adr N g (5 + 0)) (by rw [hP.len]; exact hag) (2 * ((i : Int) + 3))) ?_
          rintro _ w14 I14
          have hP14 := hP.row hkl (by omega) hr4 (by rw [htall]; omega) hg (x := 2 * ((i : Int) + 3)) ⟨by omega, by omega⟩ (by rw [hdead, if_neg (fun hh => by rw [hdd] at hh; cases hh.2)]; omega)
          refine ix 0 rfl hr4 ?_
          refine st I14.lb (by unfold lastA; simp; omega) rfl fun w15 hb15 hu15 hs15 => ?_
          rw [show 0 + 0 * 1 = 0 by omega, lastA_set] at hb15
          have I15 := I14.put hb15 hu15 hne hlb
          refine ar64 (by omega) ?_
          exact round_mk [.int .i64 ((0 + 1 : Nat) : Int)] (T - (0 + 1)) rfl rfl ⟨0 + 1, _, k12 + 1, _, rfl, by omega, rfl, I15, hP14, hVT.ne (by omega) (.inl ⟨by omega, by omega⟩) _, by omega, by omega⟩ (by omega)
      · refine cN (by omega) ?_
        refine draw_mix 10 [(0, true), (1, true), (2, true), (3, true), (4, true), (5, true), (6, true), (7, true), (9, true), (8, false)] (fun w' => Upd [] w12 w') (by decide +kernel) (Upd.refl [] w12).drew ?_
        refine rq (.agg (planC (cA 2 N))) (fun w' hw' => ldw (I.upd0 hw').pb (planC_len _) ⟨rfl, rfl⟩) ?_
        refine q_ix rr rfl hr4 ?_
        refine q_ld (v := .int .i64 (L.getD rr 0)) (fun w' hw' => by rw [(I.upd0 hw').lb.cell, show 0 + rr * 1 = rr by omega]; exact lastA_at L rr (by omega)) ?_
        refine q_ar64 (by omega) ?_
        rw [hg]
        refine cl (node_a2 hcr (predN g) (5 + ((rr : Nat) : Int)) w12.drew) ?_
        rintro _ w13 ⟨rfl, hu13⟩
        have hu13 : Upd [] w12 w13 := (Upd.refl [] w12).drew.trans hu13
        refine ⟨hu13, ?_⟩
        rw [eg]
        refine cl ((I.upd0 hu13).store hA hc hk.n3 hk.n20 hP.u hP.len ⟨by omega, by omega⟩ (adr N g (5 + rr)) (by rw [hP.len]; exact hag) (2 * ((i : Int) + 3))) ?_
        rintro _ w14 I14
        have hP14 := hP.row hkl (by omega) hr4 (by rw [htall]; omega) hg (x := 2 * ((i : Int) + 3)) ⟨by omega, by omega⟩ (by rw [if_neg (fun hh => r0 hh.1)]; omega)
        refine ix rr rfl hr4 ?_
        refine st I14.lb (by unfold lastA; simp; omega) rfl fun w15 hb15 hu15 hs15 => ?_
        rw [show 0 + rr * 1 = rr by omega, lastA_set] at hb15
        have I15 := I14.put hb15 hu15 hne hlb
        refine ar64 (by omega) ?_
        exact round_mk [.int .i64 ((rr + 1 : Nat) : Int)] (T - (rr + 1)) rfl rfl ⟨rr + 1, _, k12 + 1, _, rfl, by omega, rfl, I15, hP14, hVT.ne (by omega) (.inl ⟨by omega, by omega⟩) _, by omega, by omega⟩ (by omega)
    · obtain rfl : rr = T := by omega
      refine ar64 (by omega) ?_
      exact round_mk [.int .i64 ((i + 1 : Nat) : Int)] (l.length - (i + 1)) rfl rfl ⟨i + 1, W, k12, L, rfl, by omega, rfl, I, hP.next (by omega) (by rw [htall]; exact hT.symm), hVT, by omega, hk120⟩ (by omega)
  obtain rfl : i = l.length := by omega
  rw [← hlen] at hP
  refine loop_rule [0, 6, 7] [13] (fun vs w' m => ∃ (kk : Nat) (W : List Int) (k' : Int), vs = [.int .i64 (kk : Int)] ∧ kk ≤ 4 ∧ m = 4 - kk ∧ LyA 2 w0 w w' X N t pb lb L W k' ∧ Part W N l' l'.length 0 l'.length L ∧ VT W N 2 l l.length ∧ (∀ k f : Nat, k < kk → f ≤ l'.length → (f = 0 ∨ (k : Int) < (ndAt l' (f - 1)).tall) → W.getD (adr N f (5 + k)) 0 = wd l' k f) ∧ k' ≤ k + 8 * l.length + kk ∧ 0 ≤ k') rfl [.int .i64 0] 4 rfl
    ⟨0, W, k5, rfl, by omega, rfl, I, hP, hVT, fun k f h => by omega, by omega, hk50⟩ ?_
  clear hP I hk5 hk50 hVT
  rintro _ w12 m ⟨kk, W, k12, rfl, hkk, rfl, I, hP, hVT, hdone, hk12, hk120⟩
  refine cd (fun hk4 => ?_) (fun hk4 => ?_)
  · have hr4 : kk < 4 := by omega
    obtain ⟨g, hg, hg2, -⟩ := hP.last kk hr4
    have hgl : g ≤ l.length := by unfold cnt at hg2; split at hg2 <;> omega
    have eg : (cA 2 (N : Int)).node (predN g) (5 + (kk : Int)) = (adr N g (5 + kk) : Int) := by rw [show (5 : Int) + (kk : Int) = ((5 + kk : Nat) : Int) by omega, adr_nodeA hA (by omega) (by omega)]
    have hag : adr N g (5 + kk) < 18 + 10 * N := adr_lt (by omega) (by omega)
    have hLl := hP.L4
    refine draw_mix 9 [(0, true), (1, true), (2, true), (3, true), (4, true), (5, true), (6, true), (7, true), (8, false)] (fun w' => Upd [] w12 w') (by decide +kernel) (Upd.refl [] w12).drew ?_
    refine rq (.agg (planC (cA 2 N))) (fun w' hw' => ldw (I.upd0 hw').pb (planC_len _) ⟨rfl, rfl⟩) ?_
    refine q_ix kk rfl hr4 ?_
    refine q_ld (v := .int .i64 (L.getD kk 0)) (fun w' hw' => by rw [(I.upd0 hw').lb.cell, show 0 + kk * 1 = kk by omega]; exact lastA_at L kk (by omega)) ?_
    refine q_ar64 (by omega) ?_
    rw [hg]
    refine cl (node_a2 hcr (predN g) (5 + (kk : Int)) w12.drew) ?_
    rintro _ w13 ⟨rfl, hu13⟩
    have hu13 : Upd [] w12 w13 := (Upd.refl [] w12).drew.trans hu13
    refine ⟨hu13, ?_⟩
    rw [eg]
    refine cl ((I.upd0 hu13).store hA hc hk.n3 hk.n20 hP.u hP.len ⟨by omega, by omega⟩ (adr N g (5 + kk)) (by rw [hP.len]; exact hag) 4) ?_
    rintro _ w14 I14
    obtain ⟨t1, t2⟩ := hP.tail hkl kk hr4 hdone hg
    refine ar64 (by omega) ?_
    exact round_mk [.int .i64 ((kk + 1 : Nat) : Int)] (4 - (kk + 1)) rfl rfl ⟨kk + 1, _, k12 + 1, rfl, by omega, rfl, I14, t1, hVT.ne (by omega) (.inl ⟨by omega, by omega⟩) _, t2, by omega, by omega⟩ (by omega)
  · obtain rfl : kk = 4 := by omega
    obtain ⟨Y, a', p, kn, hab, -⟩ := I.ev
    exact ⟨W, k12, a', ⟨Y, p, kn, hab⟩, hP.lays hkl hdone, hVT, hP.u, hk120, by omega⟩
end
end Go.Proofs.Ytbnbbafffihapaa

/- skip: First of both algorithms; lives; the rows of nodes that are laid. -/
namespace Go.Proofs.Ytbnbbafffihapaa
open Go.RowKit
attribute [local irreducible] Instr.loadAt Instr.storeAt Instr.fieldAt Instr.indexAt Instr.sliceAt Instr.buildSlice Instr.box Instr.alloc Builtin.append_ Builtin.len_ Builtin.min_ Builtin.max_ Calls Instr.build Instr.makeSlice binSem convert Instr.index Instr.range Instr.next
def S0 (A : Int) (N : Nat) : MS := layS A 1 (N : Int) 4 (newMS (sizeP A 1 (N : Int) 4).toNat)
def WX (A : Int) (N : Nat) : List Int := (S0 A N).W
def okS (A : Int) (N : Nat) : Prop := (WX A N).length = 18 + 10 * N ∧ (∀ x ∈ WX A N, u64R x) ∧ (0 ≤ (S0 A N).k ∧ (S0 A N).k ≤ 1000) ∧ (S0 A N).on = false ∧ (S0 A N).L = []
theorem okS_1_20 : okS 1 20 := by unfold okS; decide +kernel
theorem okS_2_20 : okS 2 20 := by unfold okS; decide +kernel
theorem okS_1_5 : okS 1 5 := by unfold okS; decide +kernel
structure FstX (A : Int) (w w' : World) (X : Mc) (N : Nat) (k : Int) (t : PT) : Prop where
  new : New w w' X
  abs : X.abs = MX A N (WX A N) k false t
  calm : X.s.on = false ∧ X.s.L = []
  fs : t.fs = []
  lens : t.P.length = 4 ∧ t.S.length = 4 ∧ t.W.length = 4
  k0 : 0 ≤ k ∧ k ≤ 1000
  wl : (WX A N).length = 18 + 10 * N
  wu : ∀ x ∈ WX A N, u64R x
set_option maxRecDepth 10000 in
theorem fstx_c {A q : Int} {N : Nat} (hA : inA A) (hq : 1 + q % 2 = A) (h : N = 20 ∨ N = 5) (ho : okS A N) (w : World) : Fn Try.prog 18 #[.int .i64 q, .int .i64 (N : Int)] w fun r w' => ∃ X k t, r = ptrV X.m ∧ FstX A w w' X N k t := by
  have hA12 : 1 ≤ A ∧ A ≤ 2 := by unfold inA at hA; omega
  refine fn_enter Try.func18 rfl rfl ?_
  refine and64 (q % 2) rfl ?_
  refine ar64 (by omega) ?_
  rw [hq]
  refine mn2 ?_
  refine val (N : Int) (by rcases h with rfl | rfl <;> rfl) ?_
  refine mx2 ?_
  refine val (N : Int) (by rcases h with rfl | rfl <;> rfl) ?_
  refine bd (cf7 ⟨A, 1, (N : Int), 4, 1, 1, 1⟩) (fun _ => by kernel_rfl) ?_
  refine cl (core_new2 (draws := []) false (RdK.nil_ w .u8) (by decide)) ?_
  rintro _ w1 ⟨-, hyes⟩
  have hr : rightC ⟨A, 1, (N : Int), 4, 1, 1, 1⟩ := cA_right (A := A) hA (N := N) (by omega) (by omega)
  obtain ⟨m, mp, mv, lv, fp, fv, gs, tv, ths, rfl, hN, hl, hz, hgs, -⟩ := hyes hr
  obtain rfl := hgs rfl
  obtain ⟨t0, rfl⟩ : ∃ t0, ths = [t0] := by
    cases ths with
    | nil => simp at hl
    | cons x r =>
      cases r with
      | nil => exact ⟨x, rfl⟩
      | cons y r => simp at hl; omega
  obtain ⟨g, pv, sv, wv, rfl⟩ := hz t0 (by simp)
  obtain ⟨o1, o2, o3, o4⟩ := ho
  exact ⟨_, _, _, rfl, hN, rfl, o4, rfl, ⟨by simp [absT, thZ], by simp [absT, thZ], by simp [absT, thZ]⟩, o3, o1, o2⟩
/-- a machine of the call's own, of one thread, of either algorithm -/
structure LX (A : Int) (w w' : World) (X : Mc) (N : Nat) (W : List Int) (k : Int) (a : Bool) (t : PT) : Prop where
  new : New w w' X
  abs : X.abs = MX A N W k a t
  calm : X.s.on = false ∧ X.s.L = []
section
variable {A : Int} {w w' w'' w0 : World} {X : Mc} {N : Nat} {W : List Int} {k : Int} {a : Bool} {t : PT}
theorem LX.upd0 (h : LX A w w' X N W k a t) (hu : Upd [] w' w'') : LX A w w'' X N W k a t := ⟨⟨h.new.ok.upd0 hu, h.new.up.trans hu, h.new.fr⟩, h.abs, h.calm⟩
theorem LX.ev (h : LX A w w' X N W k a t) {W' : List Int} {k' : Int} {a' : Bool} {t' : PT} (e : Ev w' X w'' (MX A N W' k' a' t')) : ∃ Y, LX A w w'' Y N W' k' a' t' ∧ Y.m = X.m ∧ Post w' X w'' Y := by
  obtain ⟨Y, p, kn, ha⟩ := e
  exact ⟨Y, ⟨h.new.post p, ha, kn.calm h.calm⟩, kn.m, p⟩
theorem LX.rebase (h : LX A w w' X N W k a t) (hu : Upd [] w0 w) : LX A w0 w' X N W k a t := ⟨h.new.rebase hu, h.abs, h.calm⟩
theorem LX.c_ (h : LX A w w' X N W k a t) : X.c = cA A (N : Int) := congrArg PS.c h.abs
theorem LX.w_ (h : LX A w w' X N W k a t) : X.s.W = W := congrArg PS.W h.abs
theorem LX.g_ (h : LX A w w' X N W k a t) : gvOf X.gs = .pointer none := by
  have h1 : X.gs.map absG = none := congrArg PS.gh h.abs
  have h2 : X.gs = none := by simpa using h1
  rw [h2]; rfl
theorem LX.q (h : LX A w w' X N W k a t) (hA : inA A) (h3 : 3 ≤ N) (h20 : N ≤ 20) (hl : W.length = 18 + 10 * N) (hu : ∀ x ∈ W, u64R x) : Qm w' X :=
  ⟨h.new.ok, by rw [h.c_]; exact cA_right hA h3 h20, by rw [h.w_, h.c_, hl]; exact (sizeP_cA hA N).symm, by rw [h.w_]; exact hu⟩
theorem FstX.lx (h : FstX A w w' X N k t) : LX A w w' X N (WX A N) k false t := ⟨h.new, h.abs, h.calm⟩
end
theorem live_first : rowI (cA 1 5) (WX 1 5) 0 = [] ∧ lvL (cA 1 5) (WX 1 5) = [] ∧ soundB (cA 1 5) (WX 1 5) = true := by decide +kernel
set_option maxRecDepth 10000 in
theorem lives24 (w : World) : Fn Try.prog 16 #[] w fun r w' => r = .bool true ∧ Upd [] w w' := by
  refine fn_enter Try.func16 rfl rfl ?_
  refine cl (fstx_c (A := 1) (N := 5) (.inl rfl) (by decide) (.inr rfl) okS_1_5 _) ?_
  rintro _ w1 ⟨X, k, t, rfl, F⟩
  refine ptr_ne ?_
  have H := F.lx
  have Q := H.q (.inl rfl) (by decide) (by decide) F.wl F.wu
  obtain ⟨e1, e2, e3⟩ := live_first
  refine cl (row_q Q 0 ⟨by decide, by decide⟩) ?_
  rintro r w2 ⟨hG, hu2⟩
  rw [H.c_, H.w_, show rowI (cA 1 ((5 : Nat) : Int)) (WX 1 5) 0 = [] from e1] at hG
  obtain ⟨ra, rc, rfl, -⟩ := hG.s.form
  refine len_sl ?_
  refine cl (live_q (Q.upd0 hu2)) ?_
  rintro r w3 ⟨hG3, hu3⟩
  rw [H.c_, H.w_, show lvL (cA 1 ((5 : Nat) : Int)) (WX 1 5) = [] from e2] at hG3
  obtain ⟨ra3, rc3, rfl, -⟩ := hG3.s.form
  refine len_sl ?_
  refine cl (sound_q ((Q.upd0 hu2).upd0 hu3) (.inl H.g_)) ?_
  rintro r w4 ⟨rfl, hu4⟩
  rw [H.c_, H.w_, show soundB (cA 1 ((5 : Nat) : Int)) (WX 1 5) = true from e3]
  exact ⟨rfl, ((H.new.up.trans hu2).trans hu3).trans hu4⟩
end Go.Proofs.Ytbnbbafffihapaa

/- skip: the rows of nodes that are laid (plain). -/
namespace Go.Proofs.Ytbnbbafffihapaa
open Go.RowKit
attribute [local irreducible] Instr.loadAt Instr.storeAt Instr.fieldAt Instr.indexAt Instr.sliceAt Instr.buildSlice Instr.box Instr.alloc Builtin.append_ Builtin.len_ Builtin.min_ Builtin.max_ Calls Instr.build Instr.makeSlice binSem convert Instr.index Instr.range Instr.next
def tallP (l : List Nd) (k : Nat) (i : Nat) : Bool := decide ((k : Int) < (ndAt l i).tall)
def fromIx (l : List Nd) (k g : Nat) : List Nat := (List.range' g (l.length - g)).filter (tallP l k)
theorem fromIx_nx {l : List Nd} {k : Nat} : ∀ (n g : Nat), l.length - g = n → g ≤ l.length → (nx l k g < l.length → fromIx l k g = nx l k g :: fromIx l k (nx l k g + 1)) ∧ (¬ nx l k g < l.length → fromIx l k g = []) := by
  intro n
  induction n with
  | zero =>
    intro g hn hg
    rw [nx_end (show ¬ g < l.length by omega)]
    refine ⟨fun h => by omega, fun _ => ?_⟩
    unfold fromIx
    rw [hn]; rfl
  | succ n ih =>
    intro g hn hg
    have hlt : g < l.length := by omega
    have hr : fromIx l k g = if tallP l k g then g :: fromIx l k (g + 1) else fromIx l k (g + 1) := by
      unfold fromIx
      rw [hn, List.range'_succ, List.filter_cons, show l.length - (g + 1) = n by omega]
    by_cases ht : (k : Int) < (ndAt l g).tall
    · rw [nx_hit hlt ht, hr, if_pos (by unfold tallP; exact decide_eq_true ht)]
      exact ⟨fun _ => rfl, fun h => absurd hlt h⟩
    · rw [nx_skip hlt ht, hr, if_neg (by unfold tallP; simpa using ht)]
      exact ih (g + 1) (by omega) (by omega)
def tallIx (l : List Nd) (k : Nat) : List Nat := (List.range l.length).filter (tallP l k)
theorem fromIx_0 (l : List Nd) (k : Nat) : fromIx l k 0 = tallIx l k := by
  unfold fromIx tallIx
  rw [Nat.sub_zero, List.range_eq_range']
def stN (l : List Nd) (k : Nat) (i : Nat) : Int × Bool := ((i : Int) + 3, markN l k i)
theorem atV_node {A : Int} (hA : inA A) {W : List Int} {i f : Nat} (hi : i + 2 ≤ 20) (hf : f < 9) : atV (cA A ((20 : Nat) : Int)) W (predN i) (f : Int) = W.getD (adr 20 i f) 0 := by
  unfold atV
  rw [adr_nodeA hA (N := 20) hi hf, if_neg (by omega), Int.toNat_natCast]
section
variable {A : Int} {W : List Int} {l : List Nd} {k : Nat}
theorem rowF_lays (hA : inA A) (hL : Lays W 20 l) (hk : k < 4) : ∀ (m g : Nat), g ≤ l.length → (g = 0 ∨ (k : Int) < (ndAt l (g - 1)).tall) → l.length - g ≤ m → rowF (cA A ((20 : Nat) : Int)) W (k : Int) m (wd l k g) = (fromIx l k g).map (stN l k) := by
  have hfew := hL.few
  intro m
  induction m with
  | zero =>
    intro g hg _ hm
    rw [rowF]
    have : fromIx l k g = [] := by unfold fromIx; rw [show l.length - g = 0 by omega]; rfl
    rw [this]; rfl
  | succ m ih =>
    intro g hg ht hm
    obtain ⟨h1, h2⟩ := fromIx_nx (l := l) (k := k) _ g rfl hg
    obtain ⟨q1, q2, q3⟩ := wd_ptr l (by omega) k g
    have hge := nx_ge (l := l) (k := k) g hg
    rw [rowF, q1, q2]
    by_cases hj : nx l k g < l.length
    · have hn : nodeN l (nx l k g) = (nx l k g : Int) + 3 := if_pos hj
      rw [hn, if_neg (by omega), h1 hj, List.map_cons]
      have hat : atV (cA A ((20 : Nat) : Int)) W ((nx l k g : Int) + 3) (5 + (k : Int)) = wd l k (nx l k g + 1) := by
        rw [← predN_s, show (5 : Int) + (k : Int) = ((5 + k : Nat) : Int) by omega, atV_node hA (by omega) (by omega)]
        exact hL.link k (nx l k g + 1) hk (by omega) (.inr (by rw [Nat.add_sub_cancel]; exact hge.2.2 hj))
      rw [hat, ih (nx l k g + 1) (by omega) (.inr (by rw [Nat.add_sub_cancel]; exact hge.2.2 hj)) (by omega)]
      rfl
    · have hn : nodeN l (nx l k g) = 2 := if_neg hj
      rw [hn, if_pos (by omega), h2 hj]; rfl
theorem rowV_lays (hA : inA A) (hL : Lays W 20 l) (hk : k < 4) : rowV (cA A ((20 : Nat) : Int)) W (k : Int) = (tallIx l k).map (stN l k) := by
  have hfew := hL.few
  unfold rowV
  have h0 : atV (cA A ((20 : Nat) : Int)) W 1 (5 + (k : Int)) = wd l k 0 := by
    rw [show (1 : Int) = predN 0 from rfl, show (5 : Int) + (k : Int) = ((5 + k : Nat) : Int) by omega, atV_node hA (by omega) (by omega)]
    exact hL.link k 0 hk (by omega) (.inl rfl)
  rw [h0, ← fromIx_0]
  exact rowF_lays hA hL hk _ 0 (by omega) (.inl rfl) (by show _ ≤ ((20 : Nat) : Int).toNat; omega)
end
theorem tallP_lnk (A : Int) (l : List Nd) (k : Nat) : tallP (lnk A l) k = tallP l k := by
  funext i
  unfold tallP
  rw [(lnk_at A l i).2.1]
theorem tallIx_lnk (A : Int) (l : List Nd) (k : Nat) : tallIx (lnk A l) k = tallIx l k := by
  unfold tallIx
  rw [lnk_len, tallP_lnk]
/-- how many before -/
def rk (p : Nat → Bool) (i : Nat) : Nat := ((List.range i).filter p).length
theorem rk_s (p : Nat → Bool) (i : Nat) : rk p (i + 1) = rk p i + if p i then 1 else 0 := by
  unfold rk
  rw [List.range_succ, List.filter_append, List.length_append]
  cases h : p i <;> simp [h]
theorem rk_le (p : Nat → Bool) (i : Nat) : rk p i ≤ i := by
  unfold rk
  refine Nat.le_trans (List.length_filter_le _ _) ?_
  rw [List.length_range]; exact Nat.le_refl _
theorem filter_at (p : Nat → Bool) {n i : Nat} (hi : i < n) (hp : p i = true) : ((List.range n).filter p)[rk p i]? = some i := by
  have e0 : List.range n = List.range i ++ i :: List.range' (i + 1) (n - i - 1) := by
    rw [List.range_eq_range', List.range_eq_range', show n = i + (n - i - 1 + 1) by omega, ← List.range'_append, List.range'_succ]
    simp
  rw [e0, List.filter_append, List.filter_cons_of_pos hp]
  unfold rk
  rw [List.getElem?_append_right (Nat.le_refl _), Nat.sub_self]
  rfl
theorem rk_lt (p : Nat → Bool) {n i : Nat} (hi : i < n) (hp : p i = true) : rk p i < rk p n := by
  have := filter_at p hi hp
  unfold rk at *
  rcases Nat.lt_or_ge ((List.range i).filter p).length ((List.range n).filter p).length with h | h
  · exact h
  · rw [List.getElem?_eq_none h] at this; cases this
/-- what is laid -/
structure Laid (W : List Int) (A : Int) (l : List Nd) : Prop where
  a : inA A
  ly : Lays W 20 (lnk A l)
  vt : VT W 20 A l l.length
  u : NdU l
  u64 : ∀ x ∈ W, u64R x
section
variable {A : Int} {W : List Int} {l : List Nd} {k : Nat}
theorem Laid.few (h : Laid W A l) : l.length ≤ 18 := by have := h.ly.few; rw [lnk_len] at this; omega
theorem Laid.tall (h : Laid W A l) {i : Nat} (hi : i < l.length) : 1 ≤ (ndAt l i).tall ∧ (ndAt l i).tall ≤ 4 := by
  have := (h.ly.u64 i (by rw [lnk_len]; exact hi)).2
  rw [(lnk_at A l i).2.1] at this; exact this
theorem Laid.row (h : Laid W A l) (hk : k < 4) : rowV (cA A ((20 : Nat) : Int)) W (k : Int) = (tallIx l k).map (stN (lnk A l) k) := by
  rw [rowV_lays h.a h.ly hk, tallIx_lnk]
theorem Laid.rowi (h : Laid W A l) (hk : k < 4) : rowI (cA A ((20 : Nat) : Int)) W (k : Int) = (tallIx l k).map fun (i : Nat) => (i : Int) + 3 := by
  have hA : A ≠ 0 := by have := h.a; unfold inA at this; omega
  unfold rowI
  rw [if_neg (by
    rintro (h1 | h1 | h1)
    · exact hA h1
    · omega
    · have : (4 : Int) ≤ (k : Int) := h1
      omega), h.row hk, List.map_map]
  rfl
theorem Laid.dead (h : Laid W A l) {i : Nat} (hi : i < l.length) : deadV (cA A ((20 : Nat) : Int)) W (stN (lnk A l) 0 i) = (ndAt l i).dead := by
  have hfew := h.few
  obtain ⟨-, -, hd⟩ := lnk_at A l i
  rcases h.a with rfl | rfl
  · unfold deadV
    show (if (1 : Int) = 2 then _ else markW (atV (cA 1 ((20 : Nat) : Int)) W ((i : Int) + 3) 1)) = _
    rw [if_neg (by decide), ← predN_s, show (1 : Int) = ((1 : Nat) : Int) from rfl, atV_node (A := ((1 : Nat) : Int)) (.inl rfl) (by omega) (by omega), (h.vt i hi).1]
    unfold vwd markW
    rw [if_pos rfl]
    cases (ndAt l i).dead
    · exact decide_eq_false (by simp)
    · exact decide_eq_true (by simp)
  · unfold deadV
    show (if (2 : Int) = 2 then markN (lnk 2 l) 0 i else _) = _
    rw [if_pos rfl]
    unfold markN
    rw [hd, if_pos rfl, lnk_len, decide_eq_true hi]; rfl
theorem Laid.key (h : Laid W A l) {i : Nat} (hi : i < l.length) : atV (cA A ((20 : Nat) : Int)) W ((i : Int) + 3) 0 = (ndAt l i).key * 4294967296 + i := by
  have hfew := h.few
  rw [← predN_s, show (0 : Int) = ((0 : Nat) : Int) from rfl, atV_node h.a (by omega) (by omega)]
  have := h.ly.order i (by rw [lnk_len]; exact hi)
  rw [(lnk_at A l i).1] at this
  rw [← this]
  unfold adr
  rw [predN_nat, if_neg (by omega), show i + 1 + 2 - 1 = i + 2 by omega, Nat.add_zero]
theorem Laid.tl (h : Laid W A l) {i : Nat} (hi : i < l.length) : atV (cA A ((20 : Nat) : Int)) W ((i : Int) + 3) 3 = (ndAt l i).tall := by
  have hfew := h.few
  rw [← predN_s, show (3 : Int) = ((3 : Nat) : Int) from rfl, atV_node h.a (by omega) (by omega)]
  exact (h.vt i hi).2
theorem Laid.pair (h : Laid W A l) {i : Nat} (hi : i < l.length) : pairV (cA A ((20 : Nat) : Int)) W ((i : Int) + 3) = [.int .u32 (ndAt l i).key, .int .u32 (ndAt l i).val] := by
  have hfew := h.few
  have hu := h.u.at_ hi
  have hv : atV (cA A ((20 : Nat) : Int)) W ((i : Int) + 3) 1 = vwd A (ndAt l i) := by
    rw [← predN_s, show (1 : Int) = ((1 : Nat) : Int) from rfl, atV_node h.a (by omega) (by omega)]
    exact (h.vt i hi).1
  unfold pairV
  rw [h.key hi, hv]
  have e1 : ((ndAt l i).key * 4294967296 + (i : Int)) / 4294967296 = (ndAt l i).key := by omega
  rw [e1]
  have e2 : (if (cA A ((20 : Nat) : Int)).A = 1 then IntKind.u32.wrap (vwd A (ndAt l i) / 2) else IntKind.u32.wrap (vwd A (ndAt l i))) = (ndAt l i).val := by
    show (if A = 1 then _ else _) = _
    unfold vwd
    by_cases h1 : A = 1
    · rw [if_pos h1, if_pos h1]
      have : (2 * (ndAt l i).val + (if (ndAt l i).dead = true then 1 else 0)) / 2 = (ndAt l i).val := by split <;> omega
      rw [this, IntKind.wrap_u32]; omega
    · rw [if_neg h1, if_neg h1, IntKind.wrap_u32]; omega
  rw [e2]
def liveP (l : List Nd) (i : Nat) : Bool := !(ndAt l i).dead
def deadP (l : List Nd) (i : Nat) : Bool := (ndAt l i).dead
theorem tallIx_0 (h : Laid W A l) : tallIx l 0 = List.range l.length := by
  unfold tallIx
  rw [List.filter_eq_self]
  intro i hi
  have := (h.tall (List.mem_range.1 hi)).1
  unfold tallP
  exact decide_eq_true (by omega)
theorem Laid.lv (h : Laid W A l) : lvL (cA A ((20 : Nat) : Int)) W = ((List.range l.length).filter (liveP l)).map (stN (lnk A l) 0) := by
  have hA : A ≠ 0 := by have := h.a; unfold inA at this; omega
  unfold lvL
  rw [if_neg (show ¬ (cA A ((20 : Nat) : Int)).A = 0 from hA), show (0 : Int) = ((0 : Nat) : Int) from rfl, h.row (by omega), tallIx_0 h, List.filter_map]
  congr 1
  apply List.filter_congr
  intro i hi
  show (!deadV _ W (stN (lnk A l) 0 i)) = _
  rw [h.dead (List.mem_range.1 hi)]; rfl
theorem Laid.dn (h : Laid W A l) : deadN (cA A ((20 : Nat) : Int)) W = rk (deadP l) l.length := by
  have hA : A ≠ 0 := by have := h.a; unfold inA at this; omega
  unfold deadN rk
  rw [if_neg (show ¬ (cA A ((20 : Nat) : Int)).A = 0 from hA), show (0 : Int) = ((0 : Nat) : Int) from rfl, h.row (by omega), tallIx_0 h, List.filter_map, List.length_map]
  congr 1
  apply List.filter_congr
  intro i hi
  show deadV _ W (stN (lnk A l) 0 i) = _
  rw [h.dead (List.mem_range.1 hi)]; rfl
end
theorem flat2_at {α : Type} (f : α → List Value) (hf : ∀ x, ∃ a b, f x = [a, b]) : ∀ (L : List α) (k : Nat) (x : α), L[k]? = some x → (L.flatMap f)[k * 2]? = (f x)[0]? ∧ (L.flatMap f)[k * 2 + 1]? = (f x)[1]? := by
  intro L
  induction L with
  | nil => intro k x h; cases h
  | cons y L ih =>
    intro k x h
    obtain ⟨a, b, e⟩ := hf y
    have e1 : (y :: L).flatMap f = a :: b :: L.flatMap f := by simp [e]
    rw [e1]
    cases k with
    | zero =>
      have : y = x := Option.some.inj h
      subst this
      rw [e]; exact ⟨rfl, rfl⟩
    | succ k =>
      rw [show (k + 1) * 2 = k * 2 + 2 by omega]
      exact ih k x h
end Go.Proofs.Ytbnbbafffihapaa

