/- The law CallBack: its walk, and the contracts of what writes bytes. -/
import Derived.Test.YtejofmohpjffkaaCo
import Derived.Test.YtejofmohpjffkaaV11
namespace Go.Proofs.Ytejofmohpjffkaa
open Go.RowKit
attribute [local irreducible] Instr.loadAt Instr.storeAt Instr.fieldAt Instr.indexAt Instr.sliceAt Instr.buildSlice Instr.box Instr.alloc Builtin.append_ Builtin.len_ Builtin.min_ Builtin.max_ Calls Instr.build Instr.makeSlice binSem convert Instr.index Instr.range Instr.next

def u8V (x : Int) : Value := .int .u8 x
def bytes4 (n : Nat) : List Int := [((n / 1 % 256 : Nat) : Int), ((n / 256 % 256 : Nat) : Int), ((n / 65536 % 256 : Nat) : Int), ((n / 16777216 % 256 : Nat) : Int)]
theorem fdivN (x d : Nat) : ((x : Int)).fdiv (d : Int) = ((x / d : Nat) : Int) := by rw [Int.fdiv_eq_ediv_of_nonneg _ (by omega)]; omega
set_option maxRecDepth 10000 in
theorem put_c {w : World} {v : Value} {n : Nat} {xs : List Value} (hs : Sl w 5 1 v n xs) (x : Nat) (hx : x < 4294967296) (hn : n < 4294967296) :
    Fn Try.prog 61 #[v, .int .u32 (x : Int)] w fun r w' => Sl w' 5 1 r (n + 4) (xs ++ (bytes4 x).map u8V) ∧ Grow w w' v r := by
  have hG := Grow.refl w v
  refine fn_enter Try.func61 rfl rfl ?_
  refine loop_rounds 5 ?_
  refine val 0 rfl ?_
  refine sh_r (by decide) ?_
  refine val ((x / 1 : Nat) : Int) (by
    have e : (2 : Int) ^ min (0 : Int).toNat IntKind.u32.bits = ((1 : Nat) : Int) := by decide
    rw [e, fdivN]) ?_
  refine cv ?_
  refine val ((x / 1 % 256 : Nat) : Int) (by rw [IntKind.wrap_u8]; omega) ?_
  refine bs #[.int .u8 ((x / 1 % 256 : Nat) : Int)] (fun _ => by kernel_rfl) fun w1 hb1 hu1 hs1 => ?_
  have hG := hG.upd hu1
  refine apg (hs.upd hu1 (by simp)) hb1 rfl rfl (by decide) (by simp only [maxLen]; omega) (by omega) fun v1 w2 hs hG1 => ?_
  have hG := hG.to hG1
  clear hb1 hu1 hs1 hG1
  refine val 1 rfl ?_
  refine val 8 rfl ?_
  refine sh_r (by decide) ?_
  refine val ((x / 256 : Nat) : Int) (by
    have e : (2 : Int) ^ min (8 : Int).toNat IntKind.u32.bits = ((256 : Nat) : Int) := by decide
    rw [e, fdivN]) ?_
  refine cv ?_
  refine val ((x / 256 % 256 : Nat) : Int) (by rw [IntKind.wrap_u8]; omega) ?_
  refine bs #[.int .u8 ((x / 256 % 256 : Nat) : Int)] (fun _ => by kernel_rfl) fun w1 hb1 hu1 hs1 => ?_
  have hG := hG.upd hu1
  refine apg (hs.upd hu1 (by simp)) hb1 rfl rfl (by decide) (by simp only [maxLen]; omega) (by omega) fun v1 w2 hs hG1 => ?_
  have hG := hG.to hG1
  clear hb1 hu1 hs1 hG1
  refine val 2 rfl ?_
  refine val 16 rfl ?_
  refine sh_r (by decide) ?_
  refine val ((x / 65536 : Nat) : Int) (by
    have e : (2 : Int) ^ min (16 : Int).toNat IntKind.u32.bits = ((65536 : Nat) : Int) := by decide
    rw [e, fdivN]) ?_
  refine cv ?_
  refine val ((x / 65536 % 256 : Nat) : Int) (by rw [IntKind.wrap_u8]; omega) ?_
  refine bs #[.int .u8 ((x / 65536 % 256 : Nat) : Int)] (fun _ => by kernel_rfl) fun w1 hb1 hu1 hs1 => ?_
  have hG := hG.upd hu1
  refine apg (hs.upd hu1 (by simp)) hb1 rfl rfl (by decide) (by simp only [maxLen]; omega) (by omega) fun v1 w2 hs hG1 => ?_
  have hG := hG.to hG1
  clear hb1 hu1 hs1 hG1
  refine val 3 rfl ?_
  refine val 24 rfl ?_
  refine sh_r (by decide) ?_
  refine val ((x / 16777216 : Nat) : Int) (by
    have e : (2 : Int) ^ min (24 : Int).toNat IntKind.u32.bits = ((16777216 : Nat) : Int) := by decide
    rw [e, fdivN]) ?_
  refine cv ?_
  refine val ((x / 16777216 % 256 : Nat) : Int) (by rw [IntKind.wrap_u8]; omega) ?_
  refine bs #[.int .u8 ((x / 16777216 % 256 : Nat) : Int)] (fun _ => by kernel_rfl) fun w1 hb1 hu1 hs1 => ?_
  have hG := hG.upd hu1
  refine apg (hs.upd hu1 (by simp)) hb1 rfl rfl (by decide) (by simp only [maxLen]; omega) (by omega) fun v1 w2 hs hG1 => ?_
  have hG := hG.to hG1
  clear hb1 hu1 hs1 hG1
  refine val 4 rfl ?_
  exact ⟨by simpa [bytes4, u8V] using hs, hG⟩
def codeL (o : Int) (k v : Nat) : List Int := [o] ++ bytes4 k ++ bytes4 v
set_option maxRecDepth 10000 in
theorem code_c9 (o : Int) (k v : Nat) (hk : k < 4294967296) (hv : v < 4294967296) (w : World) : Fn Try.prog 44 #[.agg (c3 o k v)] w fun r w' =>
    (if rightCall o k v then Sl w' 5 1 r 9 ((codeL o k v).map u8V) else r = .slice none 0 0) ∧ (∀ g, r.ownBlock = some g → w.heap.size ≤ g) ∧ Upd [] w w' := by
  refine fn_enter Try.func44 rfl rfl ?_
  refine bx fun w1 hb1 hu1 hs1 => ?_
  have hb1 : Blk w1 w.heap.size 43 (c3 o k v) := hb1
  refine ldw hb1 rfl ?_
  refine cl (right_c26 o k v _) ?_
  rintro _ w2 ⟨rfl, hu2⟩
  have hb2 := hb1.upd hu2 (by simp)
  have hU2 := hu1.trans hu2
  refine cd (fun h => ?_) (fun h => ?_)
  · have h : ¬ rightCall o k v := h
    exact ⟨by rw [if_neg h]; rfl, by simp [Value.ownBlock], hU2⟩
  have h : rightCall o k v := by simpa using h
  have ho : 0 ≤ o ∧ o ≤ 2 := by unfold rightCall at h; omega
  refine draw_mix 10 [(0, true), (1, true), (2, true), (4, true), (5, true), (7, true), (8, true), (3, false), (6, false), (9, false)] (fun w' => Upd [] w2 w') (by decide +kernel) (Upd.refl _ _).drew ?_
  refine q_fa ?_
  refine q_ld (v := .int .i64 o) (fun w' hw' => (hb2.upd hw' (by simp)).cell 0) ?_
  refine rq (.int .u8 o) (fun _ _ => cv (ar8 (by omega) ⟨rfl, rfl⟩)) ?_
  refine q_fa ?_
  refine q_ld (v := .int .u32 k) (fun w' hw' => (hb2.upd hw' (by simp)).cell 1) ?_
  refine q_fa ?_
  refine q_ld (v := .int .u32 v) (fun w' hw' => (hb2.upd hw' (by simp)).cell 2) ?_
  refine bs #[.int .u8 o] (fun _ => by kernel_rfl) fun w3 hb3 hu3 hs3 => ?_
  have hU3 : Upd [] w2 w3 := (Upd.refl [] w2).drew.trans hu3
  refine ⟨hU3, ?_⟩
  have hsl : Sl w3 5 1 (.slice (some ⟨w2.drew.heap.size, 0, none⟩) 1 1) 1 [.int .u8 o] := ⟨rfl, .inr ⟨_, 0, 1, _, rfl, hb3, by omega, by decide, by simp, rfl⟩⟩
  have hnew : ∀ g, Value.ownBlock (.slice (some ⟨w2.drew.heap.size, 0, none⟩) 1 1) = some g → w2.heap.size ≤ g := by
    intro g hg
    have : w2.heap.size = g := by simpa [Value.ownBlock] using hg
    omega
  refine cl (put_c hsl k hk (by decide)) ?_
  rintro v4 w4 ⟨hs4, hG4⟩
  obtain ⟨hU4, hn4⟩ := hG4.from_ hU3 hnew
  refine ⟨hU4, ?_⟩
  refine cl (put_c hs4 v hv (by decide)) ?_
  rintro v5 w5 ⟨hs5, hG5⟩
  obtain ⟨hU5, hn5⟩ := hG5.from_ hU4 hn4
  refine ⟨hU5, ?_⟩
  refine ⟨by rw [if_pos h]; simpa [codeL, u8V] using hs5, fun g hg => ?_, hU2.trans hU5⟩
  have := hn5 g hg
  have := hU2.size
  omega

theorem Sl.bts {w : World} {v : Value} {n : Nat} {l : List Int} (h : Sl w 5 1 v n (l.map u8V)) (hl : ∀ x ∈ l, 0 ≤ x ∧ x ≤ 255) : Bts w v l := by
  have hn : l.length = n := by have := h.1; simpa using this
  subst hn
  refine ⟨?_⟩
  have hm := h.le
  rcases h.2 with ⟨rfl, h0⟩ | ⟨g, off, cap, cur, rfl, hb, hc, hmm, hs, ht⟩
  · exact ⟨none, 0, by rw [h0], by omega, by decide, fun _ => rfl, fun x hx => by have := List.length_pos_of_mem hx; omega, fun hp => by omega⟩
  · refine ⟨_, cap, rfl, hc, hmm, (fun h => by cases h), fun x hx => ?_, fun hp => ⟨g, off, rfl, hb.lt, fun i hi => ?_⟩⟩
    · have := hl x hx
      simp only [Lit.wf]
      show (decide ((0 : Int) ≤ x) && decide (x ≤ (255 : Int))) = true
      rw [decide_eq_true this.1, decide_eq_true this.2]; rfl
    · rw [(h.cells rfl i (by omega)).1]
      simp [List.getD, hi, u8V]
theorem Bts.rd {w : World} {v : Value} {l : List Int} (h : Bts w v l) : RdL w 1 v l.length (l.map u8V) := by
  obtain ⟨a, cap, rfl, h1, h2, h3, h4, h5⟩ := h.h
  refine ⟨a, cap, rfl, by simp, fun hp => ?_⟩
  obtain ⟨b, o, hab, hb, hc⟩ := h5 hp
  refine ⟨b, o, hab, fun j x hx => ?_⟩
  have hj : j < l.length := by
    rcases Nat.lt_or_ge j l.length with h | h
    · exact h
    · rw [List.getElem?_eq_none (by simpa using h)] at hx; cases hx
  rw [hc j hj]
  simp [hj] at hx
  rw [← hx]; simp [List.getD, hj, u8V]
theorem Bts.bytes {w : World} {v : Value} {l : List Int} (h : Bts w v l) : ∀ x ∈ l, 0 ≤ x ∧ x ≤ 255 := by
  intro x hx
  obtain ⟨i, hi, rfl⟩ := List.mem_iff_getElem.1 hx
  have := h.byte i hi
  simpa [List.getD, hi] using this
theorem codeL_bytes {o : Int} {k v : Nat} (ho : 0 ≤ o ∧ o ≤ 2) : ∀ x ∈ codeL o k v, 0 ≤ x ∧ x ≤ 255 := by
  intro x hx
  simp [codeL, bytes4] at hx
  rcases hx with h | h | h | h | h | h | h | h | h <;> omega
theorem dec_code {o : Int} {k v : Nat} (hk : k < 4294967296) (hv : v < 4294967296) (h : rightCall o k v) (more : List Int) : decR (codeL o k v ++ more) = (o, (k : Int), (v : Int)) := by
  have ho : 0 ≤ o ∧ o ≤ 2 := by unfold rightCall at h; omega
  have hd : decO (codeL o k v ++ more) = o := by
    show ((o.toNat % 3 : Nat) : Int) = o
    omega
  by_cases h0 : o = 0
  · rw [decR_yes (by rw [hd, h0]), leN4, leN4, h0]
    have e1 : ((codeL 0 k v ++ more).getD 1 0).toNat + ((codeL 0 k v ++ more).getD 2 0).toNat * 256 + ((codeL 0 k v ++ more).getD 3 0).toNat * 65536 + ((codeL 0 k v ++ more).getD 4 0).toNat * 16777216 = k := by
      show (((k / 1 % 256 : Nat) : Int)).toNat + (((k / 256 % 256 : Nat) : Int)).toNat * 256 + (((k / 65536 % 256 : Nat) : Int)).toNat * 65536 + (((k / 16777216 % 256 : Nat) : Int)).toNat * 16777216 = k
      omega
    have e2 : ((codeL 0 k v ++ more).getD 5 0).toNat + ((codeL 0 k v ++ more).getD 6 0).toNat * 256 + ((codeL 0 k v ++ more).getD 7 0).toNat * 65536 + ((codeL 0 k v ++ more).getD 8 0).toNat * 16777216 = v := by
      show (((v / 1 % 256 : Nat) : Int)).toNat + (((v / 256 % 256 : Nat) : Int)).toNat * 256 + (((v / 65536 % 256 : Nat) : Int)).toNat * 65536 + (((v / 16777216 % 256 : Nat) : Int)).toNat * 16777216 = v
      omega
    rw [show (1 + 1 : Nat) = 2 from rfl, show (1 + 2 : Nat) = 3 from rfl, show (1 + 3 : Nat) = 4 from rfl, show (5 + 1 : Nat) = 6 from rfl, show (5 + 2 : Nat) = 7 from rfl, show (5 + 3 : Nat) = 8 from rfl, e1, e2]
  · rw [decR_no (by rw [hd]; exact h0), hd]
    rcases h with h | ⟨-, h1, h2⟩
    · exact absurd h h0
    · rw [h1, h2]
theorem show_len (o : Int) (k v : Nat) (hk : k < 4294967296) (hv : v < 4294967296) : (toB (showL o k v)).length ≤ 40 := by
  have l1 : (decB k).length ≤ 10 := decB_len 9 k (by omega)
  have l2 : (decB v).length ≤ 10 := decB_len 9 v (by omega)
  unfold showL toB
  split
  · decide
  split
  · decide
  split
  · decide
  simp; omega
theorem tell_len (o : Int) (k v : Nat) (hk : k < 4294967296) (hv : v < 4294967296) : (toB (tellL o k v)).length ≤ 40 := by
  have l1 : (decB k).length ≤ 10 := decB_len 9 k (by omega)
  have l2 : (decB v).length ≤ 10 := decB_len 9 v (by omega)
  unfold tellL toB
  split
  · decide
  split
  · decide
  split
  · decide
  split
  · decide
  simp; omega
set_option maxRecDepth 100000 in
theorem back_law (o : Int) (k v : Nat) (hk : k < 4294967296) (hv : v < 4294967296) (p : Int) (q r : Nat) (hq : q < 4294967296) (hr : r < 4294967296) (mv : Value) (l : List Int) (w : World) (hm : Bts w mv l) :
    Fn Try.prog 12 #[.agg (c3 o k v), .agg (c3 p q r), mv] w fun x w' => x = .bool true ∧ Upd [] w w' := by
  obtain ⟨ma, mcap, rfl, hmcap⟩ := hm.form
  refine fn_enter Try.func12 rfl rfl ?_
  refine bx fun w1 hb1 hu1 hs1 => ?_
  refine bx fun w2 hb2 hu2 hs2 => ?_
  have hb1 : Blk w2 w.heap.size 43 (c3 o k v) := hb1.upd hu2 (by simp)
  have hb2 : Blk w2 w1.heap.size 45 (c3 p q r) := hb2
  have hU2 := hu1.trans hu2
  refine len_sl ?_
  refine cd (fun hlong => ?_) (fun hlong => ?_)
  · refine cl (lives_c w2) ?_
    rintro _ w3 ⟨rfl, hu3⟩
    exact ⟨rfl, hU2.trans hu3⟩
  refine ldw hb1 rfl ?_
  refine cl (code_c9 o k v hk hv w2) ?_
  rintro b w3 ⟨hb, hbo, hu3⟩
  have hU3 := hU2.trans hu3
  have hc3 := hb1.upd hu3 (by simp)
  have ha3 := hb2.upd hu3 (by simp)
  refine ldw hc3 rfl ?_
  refine cl (right_c26 o k v _) ?_
  rintro _ w4 ⟨rfl, hu4⟩
  have hU4 := hU3.trans hu4
  have hc4 := hc3.upd hu4 (by simp)
  have ha4 := ha3.upd hu4 (by simp)
  refine cd (fun h => ?_) (fun h => ?_)
  · have h : ¬ rightCall o k v := h
    rw [if_neg h] at hb
    subst hb
    refine len_sl ?_
    refine ldw hc4 rfl ?_
    refine cl (show_c o k v hk hv w4) ?_
    rintro _ w5 ⟨rfl, hu5⟩
    have e : showL o k v = [63] := by unfold showL; rw [if_pos h]
    rw [e]
    refine cY rfl ?_
    refine cl (lives_c w5) ?_
    rintro _ w6 ⟨rfl, hu6⟩
    exact ⟨rfl, (hU4.trans hu5).trans hu6⟩
  have h : rightCall o k v := by simpa using h
  have ho : 0 ≤ o ∧ o ≤ 2 := by unfold rightCall at h; omega
  rw [if_pos h] at hb
  have hb4 := hb.upd hu4 (by simp)
  refine ldw hc4 rfl ?_
  refine cl (show_c o k v hk hv w4) ?_
  rintro _ w5 ⟨rfl, hu5⟩
  rw [str_by8]
  refine cl (parse_c _ (by have := show_len o k v hk hv; omega) w5) ?_
  rintro _ w6 ⟨rfl, hu6⟩
  rw [parse_show hk hv h]
  have hu46 := hu5.trans hu6
  have hU6 := hU4.trans hu46
  have hc6 := hc4.upd hu46 (by simp)
  have ha6 := ha4.upd hu46 (by simp)
  have hb6 := hb4.upd hu46 (by simp)
  have z2 := hu2.size
  have z6 := hu3.size
  have z46 := (hu4.trans hu46).size
  have hbo6 : ∀ g, b.ownBlock = some g → g ≠ w.heap.size ∧ g ≠ w1.heap.size ∧ w.heap.size ≤ g ∧ g < w6.heap.size := fun g hg => by
    have := hbo g hg; have := hb6.lt g hg; omega
  refine al z3 (fun _ => by kernel_rfl) fun w7 hb7 hu7 hs7 => ?_
  refine stw hb7 rfl rfl rfl fun w8 hd8 hu8 hs8 => ?_
  have hU8 := (hU6.trans hu7).step hu8 (by have := hU6.size; simp; omega)
  have y6 := hc6.lt
  have x6 := ha6.lt
  have hc8 := (hc6.upd hu7 (by simp)).upd hu8 (by simp; omega)
  have ha8 := (ha6.upd hu7 (by simp)).upd hu8 (by simp; omega)
  have hb8 := (hb6.upd hu7 (by simp)).upd hu8 (fun g hg => by have := hbo6 g hg; simp; omega)
  obtain ⟨ba, bcap, hbe, -⟩ := hb8.form
  have hc' : ∀ w', Upd b.ownBlock.toList w8 w' → Blk w' w.heap.size 43 (c3 o k v) := fun w' hw' => hc8.upd hw' (by
    simp only [Option.mem_toList]; intro hg; exact (hbo6 _ hg).1 rfl)
  have hd' : ∀ w', Upd b.ownBlock.toList w8 w' → Blk w' w6.heap.size 43 (c3 o k v) := fun w' hw' => hd8.upd hw' (by
    simp only [Option.mem_toList]; intro hg; have := (hbo6 _ hg).2.2.2; omega)
  refine draw_mix 18 [(0, true), (1, true), (2, true), (3, true), (4, true), (5, true), (6, true), (7, true), (8, true), (9, true), (10, true), (11, true), (12, true), (13, true), (14, true), (17, true), (15, false), (16, false)] (fun w' => Upd b.ownBlock.toList w8 w') (by decide +kernel) (Upd.refl _ _).drew ?_
  refine rq (.agg (c3 o k v)) (fun w' hw' => ldw (hd' w' hw') rfl ⟨rfl, rfl⟩) ?_
  refine rq (.agg (c3 o k v)) (fun w' hw' => ldw (hc' w' hw') rfl ⟨rfl, rfl⟩) ?_
  refine rq (.bool false) (fun _ _ => anq rfl rfl ⟨by rw [eqCells_refl [.i .i64, .i .u32, .i .u32] _ rfl]; rfl, rfl⟩) ?_
  refine rq (.int .i64 9) (fun _ _ => by rw [hbe]; exact len_sl ⟨rfl, rfl⟩) ?_
  refine rq (.agg (c3 o k v)) (fun w' hw' => ldw (hc' w' hw') rfl ⟨rfl, rfl⟩) ?_
  have hm8 : Bts w8.drew (.slice ma l.length mcap) l := hm.upd hU8.drew
  refine apx hb8.drew hm8.rd (by intro x hx; simp at hx; obtain ⟨y, -, rfl⟩ := hx; rfl) (by simp only [maxLen]; omega) (by omega) fun v9 w9 hs9 hG9 => ?_
  have hS9 : Upd b.ownBlock.toList w8 w9 := (Upd.refl _ w8).drew.trans hG9.up
  refine ⟨hS9, ?_⟩
  have hbt : Bts w9 v9 (codeL o k v ++ l) := Sl.bts (by rw [List.map_append]; exact hs9) (by
    intro x hx
    rcases List.mem_append.1 hx with hx | hx
    · exact codeL_bytes ho x hx
    · exact hm.bytes x hx)
  refine cl (decode_c v9 _ w9 hbt) ?_
  rintro _ w10 ⟨rfl, hu10⟩
  have hS10 := hS9.step hu10 (by simp)
  refine ⟨hS10, ?_⟩
  rw [dec_code hk hv h]
  refine anq rfl rfl ?_
  rw [eqCells_refl [.i .i64, .i .u32, .i .u32] _ rfl]
  have hU10 := hU8.step hS10 (fun x hx => .inr (hbo6 x (by simpa using hx)).2.2.1)
  have ha10 := ha8.upd hS10 (by simp only [Option.mem_toList]; intro hg; exact (hbo6 _ hg).2.1 rfl)
  refine ldw ha10 rfl ?_
  refine cl (tell_c p q r hq hr w10) ?_
  rintro _ w11 ⟨rfl, hu11⟩
  rw [str_by8]
  refine cl (read_c _ (by have := tell_len p q r hq hr; omega) w11) ?_
  rintro _ w12 ⟨rfl, hu12⟩
  have hu1012 := hu11.trans hu12
  have hU12 := hU10.trans hu1012
  have ha12 := ha10.upd hu1012 (by simp)
  have hlast : ∀ w' r', r' = Value.bool true ∧ Upd [] w12 w' → True := fun _ _ _ => trivial
  clear hlast
  have z12 := hU12.size
  have x12 := ha12.lt
  by_cases ha : rightAns p q r
  · rw [read_tell hq hr ha]
    refine al z3 (fun _ => by kernel_rfl) fun w13 hb13 hu13 hs13 => ?_
    refine stw hb13 rfl rfl rfl fun w14 hb14 hu14 hs14 => ?_
    have hU14 := (hU12.trans hu13).step hu14 (by simp; omega)
    have ha14 := (ha12.upd hu13 (by simp)).upd hu14 (by simp; omega)
    refine cd (fun hq => ?_) (fun hq => ?_)
    · refine cl (lives_c w14) ?_
      rintro _ w15 ⟨rfl, hu15⟩
      exact ⟨rfl, hU14.trans hu15⟩
    · refine ldw hb14 rfl ?_
      refine ldw ha14 rfl ?_
      refine aq rfl rfl ?_
      rw [eqCells_refl [.i .i64, .i .u32, .i .u32] _ rfl]
      refine cl (lives_c w14) ?_
      rintro _ w15 ⟨rfl, hu15⟩
      exact ⟨rfl, hU14.trans hu15⟩
  · have e : tellL p q r = [63] := by unfold tellL; rw [if_pos ha]
    rw [e]
    have e2 : readR (toB [63]) = none := by decide +kernel
    rw [e2]
    refine al z3 (fun _ => by kernel_rfl) fun w13 hb13 hu13 hs13 => ?_
    refine stw hb13 rfl rfl rfl fun w14 hb14 hu14 hs14 => ?_
    have hU14 := (hU12.trans hu13).step hu14 (by simp; omega)
    refine cY rfl ?_
    refine cl (lives_c w14) ?_
    rintro _ w15 ⟨rfl, hu15⟩
    exact ⟨rfl, hU14.trans hu15⟩
theorem CallBack_walk (w : World) (l1 : List Int) (hl1 : Fits [.i64, .u32, .u32] l1) (l2 : List Int) (hl2 : Fits [.i64, .u32, .u32] l2) (v : Value) (ls : List (List Int)) (h : SlRows w w.heap.size [.u8] v ls) :
    Calls Try.prog 12 #[.agg (mkInts [.i64, .u32, .u32] l1).toArray, .agg (mkInts [.i64, .u32, .u32] l2).toArray, v] w fun e w' => e = .returned (.bool true) ∧ Below w.heap.size w w' := by
  obtain ⟨o, k, x, rfl, hk, hx⟩ := c3n hl1
  obtain ⟨p, q, r, rfl, hq, hr⟩ := c3n hl2
  exact (back_law o k x hk hx p q r hq hr v _ w ⟨h.ints⟩).mono fun _ _ ⟨_, he, hv, hu⟩ => ⟨by rw [he, hv], hu.below⟩
end Go.Proofs.Ytejofmohpjffkaa
