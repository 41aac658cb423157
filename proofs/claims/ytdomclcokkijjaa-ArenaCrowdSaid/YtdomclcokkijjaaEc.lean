/- Contracts: words that point, feeds, ghosts, as they are made. -/
import Derived.Test.YtdomclcokkijjaaEb
import Derived.Test.YtdomclcokkijjaaEm
namespace Go.Proofs.Ytdomclcokkijjaa
open Go.RowKit
attribute [local irreducible] Instr.loadAt Instr.storeAt Instr.fieldAt Instr.indexAt Instr.sliceAt Instr.buildSlice Instr.box Instr.alloc Builtin.append_ Builtin.len_ Builtin.min_ Builtin.max_ Calls Instr.build Instr.makeSlice binSem convert Instr.index Instr.range Instr.next
section
variable {P : Program} {K : Value → World → Prop} {w : World}
theorem borU {t : Nat} {x y : Operand} {a b : Nat} (ha : a < 18446744073709551616) (hb : b < 18446744073709551616) (k : K (.int .u64 ((a ||| b : Nat) : Int)) w) : RunP P (binSem .or t x y (.int .u64 (a : Int)) (.int .u64 (b : Int))) K w :=
  rn _ _ (by
    have e : ((BitVec.ofInt 64 (a : Int) ||| BitVec.ofInt 64 (b : Int)).toNat) = a ||| b := by
      rw [BitVec.toNat_or, BitVec.toNat_ofInt, BitVec.toNat_ofInt]
      congr 1 <;> omega
    have hlt : a ||| b < 2 ^ 64 := Nat.or_lt_two_pow (by omega) (by omega)
    have e2 : IntKind.u64.wrap ((a ||| b : Nat) : Int) = ((a ||| b : Nat) : Int) := by rw [IntKind.wrap_u64]; omega
    simp only [binSem, eqGuard, binOp, Op.intBits]
    show (Sem.pure (Value.int IntKind.u64 (IntKind.u64.wrap ((BitVec.ofInt 64 (a : Int) ||| BitVec.ofInt 64 (b : Int)).toNat : Int)))).run P w = _
    rw [e, e2]
    rfl) k
end
theorem wrapU {n : Int} (h : 0 ≤ n ∧ n ≤ 18446744073709551615) : IntKind.u64.wrap n = n := by rw [IntKind.wrap_u64]; omega
theorem fit_c {w : World} {g : Nat} (e x : Int) (hb : Blk w g 27 #[.int .u64 x]) : Fn Try.prog 117 #[.int .u64 e, .slice (some ⟨g, 0, none⟩) 1 1] w fun r w' => (∃ b, r = .bool b ∧ (b = true ↔ x < e)) ∧ w' = w := by
  refine fn_enter Try.func117 rfl rfl ?_
  refine len_sl ?_
  refine loop_rule [0, 7, 8] [9] (fun vs w' m => ∃ j : Nat, vs = [.int .i64 j] ∧ j ≤ 1 ∧ m = 1 - j ∧ (0 < j → x < e) ∧ w' = w) rfl [.int .i64 0] 1 rfl ⟨0, rfl, by omega, rfl, fun h => absurd h (by omega), rfl⟩ ?_
  rintro _ _ m ⟨j, rfl, hj, rfl, hin, rfl⟩
  refine cd (fun hlt => ?_) (fun hlt => ?_)
  · have hj0 : j = 0 := by omega
    subst hj0
    refine ix 0 rfl (by omega) ?_
    refine ld (hb.cell 0) ?_
    refine cd (fun h1 => ?_) (fun h1 => ?_)
    · exact ⟨⟨_, rfl, iff_of_false (by simp) (by omega)⟩, rfl⟩
    · refine ar64 (by omega) ?_
      exact round_mk [.int .i64 ((0 + 1 : Nat) : Int)] 0 rfl rfl ⟨1, rfl, by omega, rfl, fun _ => by omega, rfl⟩ (by omega)
  · exact ⟨⟨_, rfl, iff_of_true rfl (hin (by omega))⟩, rfl⟩
theorem pack_c (n : Nat) (hn : n < 65536) (w : World) : Fn Try.prog 118 #[.int .u64 (n : Int), .bool false, .int .u64 0] w fun r w' => r = .int .u64 ((2 * n : Nat) : Int) ∧ w' = w := by
  refine fn_enter Try.func118 rfl rfl ?_
  refine sh_l (by decide) ?_
  refine val ((0 : Nat) : Int) (by rw [Int.zero_mul]; rfl) ?_
  refine sh_l (by decide) ?_
  refine val ((2 * n : Nat) : Int) (by
    have e : (2 : Int) ^ min (1 : Int).toNat IntKind.u64.bits = 2 := by decide
    rw [e, wrapU (by omega)]; omega) ?_
  refine borU (by omega) (by omega) ?_
  rw [Nat.zero_or]
  exact ⟨rfl, rfl⟩
set_option maxRecDepth 10000 in
theorem make_c (n : Nat) (hn : n < 65536) (w : World) : Fn Try.prog 111 #[.int .i64 (n : Int), .bool false, .int .u64 0] w fun r w' => r = .tuple #[.int .u64 ((2 * n : Nat) : Int), .int .i64 0] ∧ Upd [] w w' := by
  refine fn_enter Try.func111 rfl rfl ?_
  refine cv ?_
  refine arU (by omega) ?_
  refine bs #[.int .u64 (n : Int)] (fun _ => by kernel_rfl) fun w1 hb1 hu1 hs1 => ?_
  refine cl (fit_c 65536 n hb1) ?_
  rintro _ _ ⟨⟨b, rfl, hb⟩, rfl⟩
  have : b = true := hb.2 (by omega)
  subst this
  refine bs #[.int .u64 0] (fun _ => by kernel_rfl) fun w2 hb2 hu2 hs2 => ?_
  refine cl (fit_c 140737488355328 0 hb2) ?_
  rintro _ _ ⟨⟨b, rfl, hb⟩, rfl⟩
  have : b = true := hb.2 (by omega)
  subst this
  refine cv ?_
  refine arU (by omega) ?_
  refine cl (pack_c n hn _) ?_
  rintro _ _ ⟨rfl, rfl⟩
  exact ⟨rfl, hu1.trans hu2⟩
theorem link_w (n : Nat) (hn : n < 65536) (w : World) : Fn Try.prog 93 #[.int .i64 (n : Int)] w fun r w' => r = .int .u64 ((2 * n : Nat) : Int) ∧ Upd [] w w' := by
  refine fn_enter Try.func93 rfl rfl ?_
  refine cl (make_c n hn w) ?_
  rintro _ w1 ⟨rfl, hu1⟩
  exact ⟨rfl, hu1⟩
/-- a feed of these bytes, of which so many were used -/
structure IsFd (w : World) (p : Nat) (v : Value) (bs : List Int) (u : Int) : Prop where
  blk : Blk w p 125 #[v, .int .i64 u]
  s : Sl w 5 1 v bs.length (bs.map (.int .u8))
theorem feed_new {w : World} {v : Value} {l : List Int} (h : RdK w .u8 v l) (hl : l.length ≤ 1000000) : Fn Try.prog 68 #[v] w fun r w' => (∃ p x, r = .pointer (some ⟨p, 0, none⟩) ∧ w.heap.size ≤ p ∧ (∀ g, x.ownBlock = some g → w.heap.size ≤ g) ∧ IsFd w' p x l 0) ∧ Upd [] w w' := by
  refine fn_enter Try.func68 rfl rfl ?_
  refine bs #[] (fun _ => by kernel_rfl) fun w1 hb1 hu1 hs1 => ?_
  refine apx (Sl.lit (n := 0) hb1 rfl (by decide)) (h.upd0 hu1).rd one_ints (by simp only [maxLen]; omega) (by omega) fun v2 w2 hs2 hG2 => ?_
  obtain ⟨a2, c2, rfl, -⟩ := hs2.form
  refine bd #[.slice a2 (0 + l.length) c2, .int .i64 0] (fun _ => by kernel_rfl) ?_
  refine bx fun w3 hb3 hu3 hs3 => ?_
  have hz1 := hu1.size
  have hz2 := hG2.up.size
  refine ⟨⟨_, _, rfl, by omega, fun g hg => ?_, ⟨hb3, ?_⟩⟩, (hu1.step hG2.up (fun g hg => .inr ?_)).trans hu3⟩
  · rcases hG2.own g hg with h1 | h1
    · have : w.heap.size = g := by simpa [Value.ownBlock] using h1
      omega
    · omega
  · have := hs2.upd hu3 (by simp)
    simpa using this
  · have : g = w.heap.size := by simpa [Value.ownBlock] using hg
    omega
/-- a ghost: its tags, its first fault -/
structure IsG (w : World) (p : Nat) (v : Value) (tags : List Int) (k n : Int) : Prop where
  blk : Blk w p 117 #[v, .int .i64 k, .int .i64 n]
  s : Sl w 3 1 v tags.length (tags.map (.int .i64))
def liveL (n i : Nat) : List Int := (List.range n).map fun j => if j < i then 1 else 0
theorem liveL_set (n i : Nat) : (liveL n i).set i 1 = liveL n (i + 1) := by
  apply List.ext_getElem
  · simp [liveL]
  · intro k h1 h2
    rw [List.getElem_set]
    simp only [liveL, List.getElem_map, List.getElem_range]
    by_cases h : i = k
    · rw [if_pos h, if_pos (by omega)]
    · rw [if_neg h]
      by_cases h3 : k < i
      · rw [if_pos h3, if_pos (by omega)]
      · rw [if_neg h3, if_neg (by omega)]
theorem liveL_zero (n : Nat) : liveL n 0 = List.replicate n 0 := by
  apply List.ext_getElem
  · simp [liveL]
  · intro k h1 h2; simp [liveL]
@[simp] theorem liveL_len (n i : Nat) : (liveL n i).length = n := by simp [liveL]
set_option maxRecDepth 10000 in
theorem ghost_new (n l : Nat) (hn : 1 ≤ n ∧ n ≤ 64) (hl : l ≤ n) (w : World) : Fn Try.prog 21 #[.int .i64 (n : Int), .int .i64 (l : Int)] w fun r w' => (∃ p v, r = .pointer (some ⟨p, 0, none⟩) ∧ w.heap.size ≤ p ∧ (∀ g, v.ownBlock = some g → w.heap.size ≤ g) ∧ IsG w' p v (liveL n l) 0 0) ∧ Upd [] w w' := by
  refine fn_enter Try.func21 rfl rfl ?_
  refine cN (show ¬ (n : Int) < 1 by omega) ?_
  refine cN (show ¬ (n : Int) > 64 by omega) ?_
  refine mks n rfl rfl (by omega) (by omega) fun w1 hb1 hu1 hs1 => ?_
  refine bd #[.slice (some ⟨w.heap.size, 0, none⟩) n n, .int .i64 0, .int .i64 0] (fun _ => by kernel_rfl) ?_
  refine bx fun w2 hb2 hu2 hs2 => ?_
  have hs0 : Sl w1 3 1 (.slice (some ⟨w.heap.size, 0, none⟩) n n) n ((liveL n 0).map (.int .i64)) := by
    have := Sl.lit (n := n) hb1 (by rw [made_row1]; simp) (by simp only [maxLen]; omega)
    rw [made_row1] at this
    rw [liveL_zero]
    simpa using this
  have hb2 : Blk w2 w1.heap.size 117 #[.slice (some ⟨w.heap.size, 0, none⟩) n n, .int .i64 0, .int .i64 0] := hb2
  have hs02 := hs0.upd hu2 (by simp)
  refine mx2 ?_
  refine val (l : Int) (by split <;> omega) ?_
  refine mn2 ?_
  refine val (l : Int) (by split <;> omega) ?_
  have hd : w.heap.size ≠ w1.heap.size := by omega
  have hd2 : w.heap.size ≤ w1.heap.size := by omega
  have hU2 := hu1.trans hu2
  generalize hp : w1.heap.size = p at *
  generalize hg : w.heap.size = g at *
  refine loop_rule [5, 20] [21] (fun vs w' m => ∃ i : Nat, vs = [.int .i64 i] ∧ i ≤ l ∧ m = l - i ∧ Blk w' p 117 #[.slice (some ⟨g, 0, none⟩) n n, .int .i64 0, .int .i64 0] ∧ Sl w' 3 1 (.slice (some ⟨g, 0, none⟩) n n) n ((liveL n i).map (.int .i64)) ∧ Upd [] w w') rfl [.int .i64 0] l rfl
    ⟨0, rfl, by omega, rfl, hb2, hs02, hU2⟩ ?_
  rintro _ w3 m ⟨i, rfl, hi, rfl, gb, gs, gU⟩
  refine cd (fun hlt => ?_) (fun hlt => ?_)
  · have hlt : i < l := by omega
    refine fa ?_
    refine ldb gb rfl ?_
    refine ix i rfl (by omega) ?_
    refine stS gs rfl (by omega) rfl fun w4 hs4 hu4 hz4 => ?_
    refine ar64 (by omega) ?_
    refine round_mk [.int .i64 ((i + 1 : Nat) : Int)] (l - (i + 1)) rfl rfl ⟨i + 1, rfl, by omega, rfl, gb.upd hu4 (by simp; exact fun h => hd h.symm), ?_, gU.step hu4 (by simp; omega)⟩ (by omega)
    rw [← liveL_set, List.map_set]
    exact hs4
  · have hi : i = l := by omega
    subst hi
    refine ⟨⟨p, _, rfl, by omega, fun q hq => ?_, ⟨gb, by rw [liveL_len]; exact gs⟩⟩, gU⟩
    have : g = q := by simpa [Value.ownBlock] using hq
    omega
end Go.Proofs.Ytdomclcokkijjaa
