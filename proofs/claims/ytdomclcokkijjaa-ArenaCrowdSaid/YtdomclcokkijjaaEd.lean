/- Contracts: the words as they are at first are laid. -/
import Derived.Test.YtdomclcokkijjaaEc
import Derived.Test.YtdomclcokkijjaaV16
namespace Go.Proofs.Ytdomclcokkijjaa
open Go.RowKit
attribute [local irreducible] Instr.loadAt Instr.storeAt Instr.fieldAt Instr.indexAt Instr.sliceAt Instr.buildSlice Instr.box Instr.alloc Builtin.append_ Builtin.len_ Builtin.min_ Builtin.max_ Calls Instr.build Instr.makeSlice binSem convert Instr.index Instr.range Instr.next
def stM (s : MS) (a x : Int) : MS := if okA s a then tick (wr s a x) (1, a, -1, true) else s
theorem store_m {w : World} {p : Nat} {v lv : Value} {s : MS} (h : IsMem w p v lv s) (hr : Roomy s) (a x : Int) : Fn Try.prog 58 #[.pointer (some ⟨p, 0, none⟩), .int .i64 a, .int .u64 x] w fun _ w' => MemPost w p v lv (stM s a x) w' :=
  (store_c h hr a x).mono fun _ _ ⟨u, he, h1, h2⟩ => ⟨u, he, by
    unfold stM
    by_cases ha : okA s a
    · rw [if_pos ha]; exact (h1 ha).2
    · rw [if_neg ha]; exact (h2 ha).2⟩
structure Quiet (s : MS) (b : Int) : Prop where
  k0 : 0 ≤ s.k
  k1 : s.k ≤ b
  on : s.on = false
  L : s.L = []
theorem Quiet.roomy {s : MS} {b : Int} (h : Quiet s b) (hb : b ≤ 1000000) : Roomy s := ⟨h.k0, by have := h.k1; omega, by rw [h.L]; decide⟩
theorem Quiet.st {s : MS} {b : Int} (h : Quiet s b) (a x : Int) : Quiet (stM s a x) (b + 1) := by
  have h0 := h.k0; have h1 := h.k1
  unfold stM
  split
  · refine ⟨?_, ?_, h.on, ?_⟩
    · show 0 ≤ s.k + 1; omega
    · show s.k + 1 ≤ b + 1; omega
    · show (if s.on then s.L ++ _ else s.L) = []
      rw [h.on]; exact h.L
  · exact ⟨h0, by omega, h.on, h.L⟩
theorem Quiet.up {s : MS} {b c : Int} (h : Quiet s b) (hc : b ≤ c) : Quiet s c := ⟨h.k0, Int.le_trans h.k1 hc, h.on, h.L⟩
theorem IsMem.off {w : World} {p g T : Nat} {v lv : Value} {s : MS} {cs : Array Value} (h : IsMem w p v lv s) (hb : Blk w g T cs) (h1 : 122 ≠ T) (h2 : 27 ≠ T) (h3 : 141 ≠ T) : g ∉ mfoot p v lv := by
  rw [mem_foot]
  rintro (rfl | hg | hg)
  · exact h.blk.ne_ hb h1 rfl
  · exact h.words.blk_ne hb h2 hg
  · exact h.log.blk_ne hb h3 hg
theorem MemPost.upd0 {w w' w'' : World} {p : Nat} {v lv : Value} {s : MS} (h : MemPost w p v lv s w') (hu : Upd [] w' w'') : MemPost w p v lv s w'' := by
  obtain ⟨lv', h1, h2, h3⟩ := h
  exact ⟨lv', h1.upd hu (by simp), h2.trans (hu.mono (by simp)), h3⟩
/-- while it is laid -/
structure LayI (w0 w' : World) (p : Nat) (v lv : Value) (s : MS) (g1 g2 : Nat) (c : Cf) : Prop where
  m : MemPost w0 p v lv s w'
  b1 : Blk w' g1 TP (planC c)
  b2 : Blk w' g2 42 (cf7 c)
theorem LayI.upd0 {w0 w' w'' : World} {p : Nat} {v lv : Value} {s : MS} {g1 g2 : Nat} {c : Cf} (h : LayI w0 w' p v lv s g1 g2 c) (hu : Upd [] w' w'') : LayI w0 w'' p v lv s g1 g2 c := ⟨h.m.upd0 hu, h.b1.upd hu (by simp), h.b2.upd hu (by simp)⟩
theorem LayI.next {w0 w' w'' : World} {p : Nat} {v lv lv1 : Value} {s s' : MS} {g1 g2 : Nat} {c : Cf} (h : LayI w0 w' p v lv s g1 g2 c) (h1 : IsMem w' p v lv1 s) (hu1 : Upd (mfoot p v lv) w0 w') (hf1 : ∀ k ∈ mfoot p v lv1, k ∈ mfoot p v lv ∨ w0.heap.size ≤ k) (hp : MemPost w' p v lv1 s' w'') : LayI w0 w'' p v lv s' g1 g2 c := by
  obtain ⟨lv2, h2, hu2, hf2⟩ := hp
  exact ⟨MemPost.of_step hu1 hf1 ⟨lv2, h2, hu2, hf2⟩, h.b1.upd hu2 (h1.off h.b1 (by decide) (by decide) (by decide)), h.b2.upd hu2 (h1.off h.b2 (by decide) (by decide) (by decide))⟩
def layL (A T N L : Int) (s : MS) (se : Nat) : Nat → MS
  | 0 => s
  | i + 1 => stM (layL A T N L s se i) (linkA A T N L ((se + 1 + i : Nat) : Int)) ((se + 1 + i + 1 : Nat) : Int)
def layN (A T N L : Int) (s : MS) : Nat → MS
  | 0 => s
  | i + 1 => stM (layN A T N L s i) (nodeA A T N L 1 (5 + (i : Int))) ((2 * 2 : Nat) : Int)
def lay3 (A T N L : Int) (s : MS) : MS := stM (layL A T N L (stM s 0 ((2 * ((sentP A).toNat + 1) : Nat) : Int)) (sentP A).toNat (N.toNat - (sentP A).toNat - 1)) 2 1
def layS (A T N L : Int) (s : MS) : MS :=
  if A = 0 then lay3 A T N L s else layN A T N L (stM (stM (lay3 A T N L s) (nodeA A T N L 1 3) L) (nodeA A T N L 2 0) 18446744073709551615) L.toNat
theorem layL_q {A T N L : Int} {s : MS} {se : Nat} {b : Int} (h : Quiet s b) : ∀ i : Nat, Quiet (layL A T N L s se i) (b + i)
  | 0 => (show Quiet s _ from h.up (by simp))
  | i + 1 => by have := (layL_q (A := A) (T := T) (N := N) (L := L) (se := se) h i).st (linkA A T N L ((se + 1 + i : Nat) : Int)) ((se + 1 + i + 1 : Nat) : Int); exact this.up (by omega)
theorem layN_q {A T N L : Int} {s : MS} {b : Int} (h : Quiet s b) : ∀ i : Nat, Quiet (layN A T N L s i) (b + i)
  | 0 => (show Quiet s _ from h.up (by simp))
  | i + 1 => by have := (layN_q (A := A) (T := T) (N := N) (L := L) h i).st (nodeA A T N L 1 (5 + (i : Int))) ((2 * 2 : Nat) : Int); exact this.up (by omega)
set_option maxRecDepth 10000 in
theorem lay_c {w : World} {p : Nat} {v lv : Value} {s : MS} {A T N L B P S : Int} (h : IsMem w p v lv s) (hq : Quiet s 0) (hr : rightC ⟨A, T, N, L, B, P, S⟩) :
    Fn Try.prog 67 #[.pointer (some ⟨p, 0, none⟩), .agg (planC ⟨A, T, N, L, B, P, S⟩)] w fun _ w' => MemPost w p v lv (layS A T N L s) w' := by
  obtain ⟨b1, b2, b3, b4, b5, b6, b7, b8, b9, b10, b11, b12⟩ := plan_bd hr
  refine fn_enter Try.func67 rfl rfl ?_
  refine bx fun w1 hb1 hu1 hs1 => ?_
  have hb1 : Blk w1 w.heap.size TP (planC ⟨A, T, N, L, B, P, S⟩) := hb1
  refine ldw hb1 rfl ?_
  refine cl (conf_c A T N L B P S w1) ?_
  rintro _ w2 ⟨rfl, hu2⟩
  refine al (cf7 ⟨0, 0, 0, 0, 0, 0, 0⟩) (fun _ => by kernel_rfl) fun w3 hb3 hu3 hs3 => ?_
  refine stw hb3 rfl rfl rfl fun w4 hb4 hu4 hs4 => ?_
  have hz2 := hu2.size
  have hlt2 := hb1.lt
  have hU4 : Upd [] w w4 := ((hu1.trans hu2).trans hu3).step hu4 (by simp; omega)
  have hb14 := ((hb1.upd hu2 (by simp)).upd hu3 (by simp)).upd hu4 (by simp; omega)
  have I4 : LayI w w4 p v lv s w.heap.size w2.heap.size ⟨A, T, N, L, B, P, S⟩ := ⟨.same (h.upd hU4 (by simp)) hU4, hb14, hb4⟩
  generalize w.heap.size = g1 at *
  generalize w2.heap.size = g2 at *
  refine ldw I4.b1 rfl ?_
  refine cl (sent_c A T N L B P S w4) ?_
  rintro _ w5 ⟨rfl, hu5⟩
  have I5 := I4.upd0 hu5
  obtain ⟨se, hse⟩ : ∃ se : Nat, sentP A = (se : Int) := ⟨_, (Int.toNat_of_nonneg b3.1).symm⟩
  have hset : (sentP A).toNat = se := by omega
  refine val ((se + 1 : Nat) : Int) (by rw [IntWalk.i64_in _ (by omega)]; omega) ?_
  refine cl (link_w (se + 1) (by omega) w5) ?_
  rintro _ w6 ⟨rfl, hu6⟩
  have I6 := I5.upd0 hu6
  obtain ⟨lvx, hmx, hux, hfx⟩ := (I6).m
  refine cl (store_m hmx (hq.roomy (by omega)) _ _) ?_
  rintro _ w7 hpx
  have I7 := (I6).next hmx hux hfx hpx
  clear hmx hux hfx hpx lvx
  have hq7 := hq.st 0 ((2 * (se + 1) : Nat) : Int)
  obtain ⟨n, hn⟩ : ∃ n : Nat, N = (n : Int) := ⟨_, (Int.toNat_of_nonneg (by omega)).symm⟩
  refine loop_rule [0, 3, 4, 5] [6] (fun vs w' m => ∃ i : Nat, vs = [.int .i64 ((se + 1 + i : Nat) : Int)] ∧ se + 1 + i ≤ n ∧ m = n - (se + 1 + i) ∧ LayI w w' p v lv (layL A T N L (stM s 0 ((2 * (se + 1) : Nat) : Int)) se i) g1 g2 ⟨A, T, N, L, B, P, S⟩) rfl [.int .i64 ((se + 1 : Nat) : Int)] (n - (se + 1)) rfl
    ⟨0, rfl, by omega, rfl, I7⟩ ?_
  rintro _ w8 m ⟨i, rfl, hi, rfl, I8⟩
  refine fa ?_
  refine ldb I8.b2 (v := .int .i64 N) rfl ?_
  refine cd (fun hlt => ?_) (fun hlt => ?_)
  · refine ldw I8.b1 rfl ?_
    refine cl (link_a hr ((se + 1 + i : Nat) : Int) w8) ?_
    rintro _ w9 ⟨rfl, hu9⟩
    have I9 := I8.upd0 hu9
    refine ar64 (by omega) ?_
    refine cv ?_
    refine val ((se + 1 + i + 1 : Nat) : Int) (by rw [wrapU (by omega)]; omega) ?_
    obtain ⟨lvx, hmx, hux, hfx⟩ := (I9).m
    refine cl (store_m hmx ((layL_q hq7 i).roomy (by omega)) _ _) ?_
    rintro _ w10 hpx
    have I10 := (I9).next hmx hux hfx hpx
    clear hmx hux hfx hpx lvx
    refine val ((se + 1 + (i + 1) : Nat) : Int) (by rw [IntWalk.i64_in _ (by omega)]; omega) ?_
    exact round_mk [.int .i64 ((se + 1 + (i + 1) : Nat) : Int)] (n - (se + 1 + (i + 1))) rfl rfl ⟨i + 1, rfl, by omega, rfl, I10⟩ (by omega)
  have hi : i = N.toNat - (sentP A).toNat - 1 := by omega
  have hqi := layL_q (A := A) (T := T) (N := N) (L := L) (se := se) hq7 i
  have hin : i ≤ 64 := by omega
  obtain ⟨lvx, hmx, hux, hfx⟩ := (I8).m
  refine cl (store_m hmx (hqi.roomy (by omega)) _ _) ?_
  rintro _ w9 hpx
  have I9 := (I8).next hmx hux hfx hpx
  clear hmx hux hfx hpx lvx
  have hq9 := hqi.st 2 1
  have e3 : stM (layL A T N L (stM s 0 ((2 * (se + 1) : Nat) : Int)) se i) 2 1 = lay3 A T N L s := by unfold lay3; rw [hset, hi, hset]
  rw [e3] at I9 hq9
  refine fa ?_
  refine ldb I9.b2 (v := .int .i64 A) rfl ?_
  refine cd (fun hA => ?_) (fun hA => ?_)
  · have : layS A T N L s = lay3 A T N L s := if_pos hA
    rw [this]
    exact I9.m
  have hA : ¬ A = 0 := by simpa using hA
  have hS : layS A T N L s = layN A T N L (stM (stM (lay3 A T N L s) (nodeA A T N L 1 3) L) (nodeA A T N L 2 0) 18446744073709551615) L.toNat := if_neg hA
  rw [hS]
  generalize lay3 A T N L s = s3 at *
  refine draw_mix 6 [(0, true), (1, true), (3, true), (4, true), (5, true), (2, false)] (fun w' => Upd [] w9 w') (by decide +kernel) (Upd.refl [] w9).drew ?_
  refine rq (.agg (planC ⟨A, T, N, L, B, P, S⟩)) (fun w' hw' => ldw (I9.b1.upd hw' (by simp)) rfl ⟨rfl, rfl⟩) ?_
  refine q_fa ?_
  refine q_ld (v := .int .i64 L) (fun w' hw' => (I9.b2.upd hw' (by simp)).cell 3) ?_
  refine rq (.int .u64 L) (fun _ _ => cv (arU (by omega) ⟨rfl, rfl⟩)) ?_
  refine cl (node_a hr 1 3 _) ?_
  rintro _ w10 ⟨rfl, hu10⟩
  have hu910 : Upd [] w9 w10 := (Upd.refl [] w9).drew.trans hu10
  refine ⟨hu910, ?_⟩
  have I10 := I9.upd0 hu910
  obtain ⟨lvx, hmx, hux, hfx⟩ := (I10).m
  refine cl (store_m hmx (hq9.roomy (by omega)) _ _) ?_
  rintro _ w11 hpx
  have I11 := (I10).next hmx hux hfx hpx
  clear hmx hux hfx hpx lvx
  have hq11 := hq9.st (nodeA A T N L 1 3) L
  refine ldw I11.b1 rfl ?_
  refine cl (node_a hr 2 0 _) ?_
  rintro _ w12 ⟨rfl, hu12⟩
  have I12 := I11.upd0 hu12
  obtain ⟨lvx, hmx, hux, hfx⟩ := (I12).m
  refine cl (store_m hmx (hq11.roomy (by omega)) _ _) ?_
  rintro _ w13 hpx
  have I13 := (I12).next hmx hux hfx hpx
  clear hmx hux hfx hpx lvx
  have hq13 := hq11.st (nodeA A T N L 2 0) 18446744073709551615
  generalize stM (stM s3 (nodeA A T N L 1 3) L) (nodeA A T N L 2 0) 18446744073709551615 = s13 at *
  refine fa ?_
  refine ldb I13.b2 (v := .int .i64 L) rfl ?_
  obtain ⟨l, hl⟩ : ∃ l : Nat, L = (l : Int) := ⟨_, (Int.toNat_of_nonneg (by omega)).symm⟩
  have hln : L.toNat = l := by omega
  refine loop_rule [0, 3, 49] [50] (fun vs w' m => ∃ i : Nat, vs = [.int .i64 (i : Int)] ∧ i ≤ l ∧ m = l - i ∧ LayI w w' p v lv (layN A T N L s13 i) g1 g2 ⟨A, T, N, L, B, P, S⟩) rfl [.int .i64 0] l rfl
    ⟨0, rfl, by omega, rfl, I13⟩ ?_
  rintro _ w14 m ⟨i2, rfl, hi2, rfl, I14⟩
  refine cd (fun hlt2 => ?_) (fun hlt2 => ?_)
  · refine ldw I14.b1 rfl ?_
    refine ar64 (by omega) ?_
    refine cl (node_a hr 1 (5 + (i2 : Int)) _) ?_
    rintro _ w15 ⟨rfl, hu15⟩
    have I15 := I14.upd0 hu15
    refine cl (link_w 2 (by omega) w15) ?_
    rintro _ w16 ⟨rfl, hu16⟩
    have I16 := I15.upd0 hu16
    have hqn := layN_q (A := A) (T := T) (N := N) (L := L) hq13 i2
    obtain ⟨lvx, hmx, hux, hfx⟩ := (I16).m
    refine cl (store_m hmx (hqn.roomy (by omega)) _ _) ?_
    rintro _ w17 hpx
    have I17 := (I16).next hmx hux hfx hpx
    clear hmx hux hfx hpx lvx
    refine ar64 (by omega) ?_
    exact round_mk [.int .i64 ((i2 + 1 : Nat) : Int)] (l - (i2 + 1)) rfl rfl ⟨i2 + 1, rfl, by omega, rfl, I17⟩ (by omega)
  · have hi2 : i2 = L.toNat := by omega
    rw [← hi2]
    exact I14.m
end Go.Proofs.Ytdomclcokkijjaa
