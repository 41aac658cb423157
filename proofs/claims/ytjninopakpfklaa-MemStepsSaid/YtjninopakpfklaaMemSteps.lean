/- The walk of the law MemSteps. -/
import Derived.Test.YtjninopakpfklaaMemPairs2
namespace Go.Proofs.Ytjninopakpfklaa
open Go.RowKit
attribute [local irreducible] Instr.loadAt Instr.storeAt Instr.fieldAt Instr.indexAt Instr.sliceAt Instr.buildSlice Instr.box Instr.alloc Builtin.append_ Builtin.len_ Calls Instr.build Instr.makeSlice binSem

def o7l (o : Op7) : List Value := [.int .i64 o.K, .int .i64 o.A, .int .i64 o.B, .int .u64 o.O, .int .u64 o.N, .int .u64 o.P, .int .u64 o.Q]
theorem flat_get (L : List Acc) : ∀ (i j : Nat), i < L.length → j < 4 → (L.flatMap accCells)[i * 4 + j]? = (accCells (L.getD i (0, 0, 0, false)))[j]? := by
  induction L with
  | nil => intro i j h; simp at h
  | cons x L ih =>
    intro i j hi hj
    have hl : (accCells x).length = 4 := rfl
    cases i with
    | zero => simp only [List.flatMap_cons, Nat.zero_mul, Nat.zero_add]; rw [List.getElem?_append_left (by omega)]; rfl
    | succ i =>
      simp only [List.flatMap_cons]
      rw [List.getElem?_append_right (by omega), hl, show (i + 1) * 4 + j - 4 = i * 4 + j by omega, ih i j (by simp at hi; omega) hj]
      rfl
theorem acc_at {w : World} {g o c n : Nat} {L : List Acc} (h : Sl w 82 4 (.slice (some ⟨g, o, none⟩) n c) n (L.flatMap accCells)) (i : Nat) (hi : i < L.length) (hn : L.length = n) : ∀ j v, (accCells (L.getD i (0, 0, 0, false)))[j]? = some v → w.cell? ⟨g, o + i * 4 + j, none⟩ = some v := by
  intro j v hv
  have hj : j < 4 := by
    rcases Nat.lt_or_ge j 4 with h | h
    · exact h
    · rw [List.getElem?_eq_none (by simpa [accCells] using h)] at hv; cases hv
  rw [show o + i * 4 + j = o + (i * 4 + j) by omega, (h.cells rfl (i * 4 + j) (by omega)).1, flat_get L i j hi hj, hv]

def opOf (l : List Int) : Op7 := ⟨l.getD 0 0, l.getD 1 0, l.getD 2 0, l.getD 3 0, l.getD 4 0, l.getD 5 0, l.getD 6 0⟩
abbrev opKs : List IntKind := [.i64, .i64, .i64, .u64, .u64, .u64, .u64]
theorem op_at {w : World} {b o : Nat} {l : List Int} (h : ∀ j, j < 7 → w.cell? ⟨b, o + j, none⟩ = some (.int (opKs.getD j .i64) (l.getD j 0))) : ∀ j v, (o7l (opOf l))[j]? = some v → w.cell? ⟨b, o + j, none⟩ = some v := by
  intro j v hv
  have hj : j < 7 := by
    rcases Nat.lt_or_ge j 7 with h | h
    · exact h
    · rw [List.getElem?_eq_none (by simpa [o7l] using h)] at hv; cases hv
  rw [h j hj]
  rcases (show j = 0 ∨ j = 1 ∨ j = 2 ∨ j = 3 ∨ j = 4 ∨ j = 5 ∨ j = 6 by omega) with rfl | rfl | rfl | rfl | rfl | rfl | rfl <;> exact hv

/-- the memory, and the law's own words and log -/
structure MI (w w' : World) (p : Nat) (vm lv wv gv : Value) (ms : MS) (W : List Int) (L : List Acc) : Prop where
  mem : IsMem w' p vm lv ms
  words : Sl w' 58 1 wv W.length (W.map (Value.int .u64))
  log : Sl w' 82 4 gv L.length (L.flatMap accCells)
  up : Upd [] w w'
  fm : ∀ k ∈ mfoot p vm lv, w.heap.size ≤ k
  fw : ∀ k, wv.ownBlock = some k → w.heap.size ≤ k ∧ k ∉ mfoot p vm lv
  fg : ∀ k, gv.ownBlock = some k → w.heap.size ≤ k ∧ k ∉ mfoot p vm lv
section
variable {w w' w'' : World} {p : Nat} {vm lv wv gv : Value} {ms : MS} {W : List Int} {L : List Acc}
theorem MI.upd (h : MI w w' p vm lv wv gv ms W L) (hu : Upd [] w' w'') : MI w w'' p vm lv wv gv ms W L :=
  ⟨h.mem.upd hu (by simp), h.words.upd hu (by simp), h.log.upd hu (by simp), h.up.trans hu, h.fm, h.fw, h.fg⟩
theorem MI.step {s' : MS} (h : MI w w' p vm lv wv gv ms W L) (hp : MemPost w' p vm lv s' w'') : ∃ lv', MI w w'' p vm lv' wv gv s' W L ∧ ∀ q, q < w'.heap.size → q ∉ mfoot p vm lv → w''.heap[q]? = w'.heap[q]? := by
  obtain ⟨lv', h1, h2, h3⟩ := hp
  have hs := h.up.size
  refine ⟨lv', ⟨h1, h.words.upd h2 fun k hk => (h.fw k hk).2, h.log.upd h2 fun k hk => (h.fg k hk).2, h.up.step h2 fun k hk => .inr (h.fm k hk), fun k hk => ?_, fun k hk => ⟨(h.fw k hk).1, fun hn => ?_⟩, fun k hk => ⟨(h.fg k hk).1, fun hn => ?_⟩⟩, fun q hq hn => h2.block q hq hn⟩
  · rcases h3 k hk with h4 | h4
    · exact h.fm k h4
    · omega
  · rcases h3 k hn with h4 | h4
    · exact (h.fw k hk).2 h4
    · have := h.words.lt k hk; omega
  · rcases h3 k hn with h4 | h4
    · exact (h.fg k hk).2 h4
    · have := h.log.lt k hk; omega
theorem MI.watch (h : MI w w' p vm lv wv gv ms W L) (b : Bool) (h1 : IsMem w'' p vm lv { ms with on := b }) (hu : Upd [p] w' w'') : MI w w'' p vm lv wv gv { ms with on := b } W L :=
  ⟨h1, h.words.upd hu fun k hk hn => (h.fw k hk).2 (by simp at hn; simp [mem_foot, hn]), h.log.upd hu fun k hk hn => (h.fg k hk).2 (by simp at hn; simp [mem_foot, hn]), h.up.step hu fun k hk => .inr (h.fm k (by simp at hk; simp [mem_foot, hk])), h.fm, h.fw, h.fg⟩
theorem MI.words_ {rv : Value} {W' : List Int} (h : MI w w' p vm lv wv gv ms W L) (hs : Sl w'' 58 1 rv W'.length (W'.map (Value.int .u64))) (hu : Upd [] w' w'') (hf : ∀ g, rv.ownBlock = some g → w'.heap.size ≤ g) : MI w w'' p vm lv rv gv ms W' L :=
  ⟨h.mem.upd hu (by simp), hs, h.log.upd hu (by simp), h.up.trans hu, h.fm, fun k hk => ⟨by have := h.up.size; have := hf k hk; omega, fun hn => by have := h.mem.lt k hn; have := hf k hk; omega⟩, h.fg⟩
theorem MI.log_ {g off cap : Nat} {x : Acc} (h : MI w w' p vm lv wv gv ms W L) (hs : Sl w'' 82 4 (.slice (some ⟨g, off, none⟩) (L.length + 1) cap) (L.length + 1) (L.flatMap accCells ++ (accCells x).toArray.toList)) (hu : Upd gv.ownBlock.toList w' w'') (hg : gv.ownBlock = some g ∨ g = w'.heap.size) :
    MI w w'' p vm lv wv (.slice (some ⟨g, off, none⟩) (L.length + 1) cap) ms W (L ++ [x]) := by
  have e1 : ∀ k ∈ gv.ownBlock.toList, gv.ownBlock = some k := by simp
  refine ⟨h.mem.upd hu fun k hk hn => (h.fg k (e1 k hn)).2 hk, h.words.upd hu fun k hk hn => h.words.ne_ h.log (by decide) k hk (e1 k hn), by simpa using hs, h.up.step hu fun k hk => .inr (h.fg k (e1 k hk)).1, h.fm, h.fw, fun k hk => ?_⟩
  simp only [Value.ownBlock, Option.some.injEq] at hk
  subst hk
  rcases hg with hg | rfl
  · exact h.fg _ hg
  · exact ⟨h.up.size, fun hn => by have := h.mem.lt _ hn; omega⟩
end

set_option maxRecDepth 100000 in
set_option maxHeartbeats 4000000 in
theorem MemSteps_fn (w : World) (n from_ : Int) (v : Value) (ls : List (List Int)) (hv : SlRows w w.heap.size opKs v ls) : Fn Try.prog 11 #[.int .i64 n, v, .int .i64 from_] w fun r w' => r = .bool true ∧ Upd [] w w' := by
  obtain ⟨a, cap, rfl, h1, h2, h3, -, h5⟩ := hv.norm (by decide)
  have hmx : ls.length ≤ 9223372036854775807 := by simp only [maxLen] at h2; omega
  have out : ∀ {w2 : World} {K : Value → World → Prop}, Upd [] w w2 → (∀ w3, Upd [] w w3 → K (.bool true) w3) → CallP Try.prog 40 #[] K w2 := fun hu hk => cl (lives05 _) (by rintro _ w3 ⟨rfl, h⟩; exact hk _ (hu.trans h))
  refine fn_enter Try.func11 rfl rfl ?_
  refine cd (fun c1 => ?_) (fun c1 => ?_)
  · exact out (Upd.refl _ _) fun w3 h => ⟨rfl, h⟩
  refine cd (fun c2 => ?_) (fun c2 => ?_)
  · exact out (Upd.refl _ _) fun w3 h => ⟨rfl, h⟩
  refine len_sl ?_
  refine cd (fun c3 => ?_) (fun c3 => ?_)
  · exact out (Upd.refl _ _) fun w3 h => ⟨rfl, h⟩
  obtain ⟨nn, rfl⟩ : ∃ m : Nat, n = m := ⟨n.toNat, by omega⟩
  refine cl (new_yes nn w (by omega) (by omega)) ?_
  rintro _ w1 ⟨p, vm, rfl, hm1, hu1, hf1⟩
  refine ptr_eq ?_
  refine cl (mlen_c hm1) ?_
  rintro _ w1 ⟨rfl, rfl⟩
  refine cN (by simp [newMS]) ?_
  refine mks nn rfl rfl (by omega) (by omega) fun w2 hb2 hu2 hs2 => ?_
  rw [made_zero] at hb2
  have hsl : Sl w2 58 1 (.slice (some ⟨w1.heap.size, 0, none⟩) nn nn) nn ((List.replicate nn (0 : Int)).map (Value.int .u64)) :=
    ⟨by simp, .inr ⟨_, _, nn, _, rfl, hb2, by omega, by simp [maxLen]; omega, by simp, by simp⟩⟩
  have I0 : MI w w2 p vm (.slice none 0 0) (.slice (some ⟨w1.heap.size, 0, none⟩) nn nn) (.slice none 0 0) ⟨List.replicate nn 0, 0, false, []⟩ (List.replicate nn 0) [] := by
    refine ⟨hm1.upd hu2 (by simp), by simpa using hsl, Sl.nil_ _ _ _, hu1.trans hu2, hf1, fun k hk => ?_, fun k hk => by simp [Value.ownBlock] at hk⟩
    simp only [Value.ownBlock, Option.some.injEq] at hk
    subst hk
    exact ⟨hu1.size, fun hn => by have := hm1.lt _ hn; omega⟩
  refine loop_rule [0, 1, 2, 7] [9, 10, 11, 12] (fun vs w' m => ∃ (j : Nat) (W : List Int) (L : List Acc) (k : Nat) (on : Bool) (lv wv gv : Value), vs = [wv, gv, .int .i64 k, .int .i64 j] ∧ j ≤ ls.length ∧ m = ls.length - j ∧ MI w w' p vm lv wv gv ⟨W, k, on, L⟩ W L ∧ W.length = nn ∧ k ≤ j ∧ L.length ≤ j) rfl
    [.slice (some ⟨w1.heap.size, 0, none⟩) nn nn, .slice none 0 0, .int .i64 0, .int .i64 0] ls.length rfl ⟨0, List.replicate nn 0, [], 0, false, _, _, _, rfl, by omega, by omega, I0, by simp, by omega, by simp⟩ ?_
  rintro _ w3 m ⟨j, W, L, k, on, lv, wv, gv, rfl, hj, rfl, I3, hWn, hkj, hLj⟩
  refine len_sl ?_
  refine cd (fun hlt => ?_) (fun hlt => ?_)
  · have hlt : j < ls.length := by omega
    obtain ⟨b, o, rfl, hbw, hcell⟩ := h5 (by omega)
    refine ix j rfl hlt ?_
    have hop := op_at (w := w3) (b := b) (o := o + j * 7) (l := ls.getD j []) (fun i hi => by rw [I3.up.cell hbw (by simp)]; exact hcell j i hlt hi)
    generalize opOf (ls.getD j []) = op at hop
    obtain ⟨K, A, B, O, N, P, Q⟩ := op
    refine lda (o7l ⟨K, A, B, O, N, P, Q⟩) rfl hop ?_
    refine al #[.int .i64 0, .int .i64 0, .int .i64 0, .int .u64 0, .int .u64 0, .int .u64 0, .int .u64 0] (fun _ => by kernel_rfl) fun w4 hb4 hu4 hs4 => ?_
    have I4 := I3.upd hu4
    refine stw hb4 rfl rfl rfl fun w5 hb5 hu5 hs5 => ?_
    have hnew : Upd [] w3 w5 := hu4.step hu5 (by simp)
    have I5 := I3.upd hnew
    have hx3 : w3.heap.size ∉ mfoot p vm lv := fun hn => by have := I3.mem.lt _ hn; omega
    refine fa ?_
    refine ldb hb5 rfl ?_
    have skip : ∀ {w' : World} {on' : Bool} {lv' : Value}, MI w w' p vm lv' wv gv ⟨W, k, on', L⟩ W L → ∃ (jj : Nat) (W' : List Int) (L' : List Acc) (k' : Nat) (on : Bool) (lv wv' gv' : Value), [wv, gv, Value.int .i64 k, Value.int .i64 ((j + 1 : Nat) : Int)] = [wv', gv', .int .i64 k', .int .i64 jj] ∧ jj ≤ ls.length ∧ ls.length - (j + 1) = ls.length - jj ∧ MI w w' p vm lv wv' gv' ⟨W', k', on, L'⟩ W' L' ∧ W'.length = nn ∧ k' ≤ jj ∧ L'.length ≤ jj := fun hI =>
      ⟨j + 1, W, L, k, _, _, wv, gv, rfl, by omega, rfl, hI, hWn, by omega, by omega⟩
    refine cd (fun k0 => ?_) (fun k0 => ?_)
    · refine ar64 (by omega) ?_
      refine round_mk [wv, gv, .int .i64 k, .int .i64 ((j + 1 : Nat) : Int)] (ls.length - (j + 1)) rfl rfl ?_ (by omega)
      exact skip I5
    refine fa ?_
    refine ldb hb5 rfl ?_
    refine cd (fun k1 => ?_) (fun k1 => ?_)
    · refine ar64 (by omega) ?_
      refine round_mk [wv, gv, .int .i64 k, .int .i64 ((j + 1 : Nat) : Int)] (ls.length - (j + 1)) rfl rfl ?_ (by omega)
      exact skip I5
    replace k0 : ¬ K < 0 := k0
    replace k1 : ¬ K > 5 := k1
    refine cl (watch_c I5.mem (decide ((j : Int) ≥ from_))) ?_
    rintro _ w6 ⟨hm6, hu6⟩
    have I6 := I5.watch _ hm6 hu6
    have hp3 : w3.heap.size ≠ p := fun he => hx3 (by simp [mem_foot, he])
    have hb6 := hb5.upd hu6 (by simpa using hp3)
    refine ldw hb6 rfl ?_
    refine cl (do_c I6.mem ⟨by simp, by simp; omega, by simp; omega⟩ ⟨K, A, B, O, N, P, Q⟩ ⟨by simpa using k0, by simpa using k1⟩) ?_
    rintro r7 w7 ⟨g1, g2⟩
    by_cases hR : rightO ⟨K, A, B, O, N, P, Q⟩ W.length
    · obtain ⟨rfl, hp7⟩ := g1 hR
      obtain ⟨lv7, I7, hk7⟩ := I6.step hp7
      have hb7 : Blk w7 w3.heap.size 60 (o7 ⟨K, A, B, O, N, P, Q⟩) := (hk7 _ hb6.lt hx3).trans hb6
      refine ldw hb7 rfl ?_
      rw [← hWn]
      refine cl (right_law ⟨K, A, B, O, N, P, Q⟩ W.length w7) ?_
      rintro _ w8 ⟨rfl, hu8⟩
      rw [decide_eq_true hR]
      have I8 := I7.upd hu8
      have hb8 := hb7.upd hu8 (by simp)
      refine ldw hb8 rfl ?_
      refine cl (doref_c I8.words ⟨K, A, B, O, N, P, Q⟩ hR (by omega)) ?_
      rintro _ w9 ⟨rv, rfl, hs9, hu9, hf9⟩
      have hWl : (eff ⟨K, A, B, O, N, P, Q⟩ W).1.length = W.length := eff_length _ W
      rw [← hWl] at hs9
      have I9 := I8.words_ hs9 hu9 hf9
      have hb9 := hb8.upd hu9 (by simp)
      refine ar64 (by omega) ?_
      refine fa ?_
      refine ldb hb9 rfl ?_
      refine fa ?_
      refine ldb hb9 rfl ?_
      refine cd (fun k4 => ?_) (fun k4 => ?_)
      · replace k4 : K < 4 := k4
        have hms : stepped ⟨W, (k : Int), decide ((j : Int) ≥ from_), L⟩ ⟨K, A, B, O, N, P, Q⟩ = ⟨(eff ⟨K, A, B, O, N, P, Q⟩ W).1, ((k + 1 : Nat) : Int), decide ((j : Int) ≥ from_), if (j : Int) ≥ from_ then L ++ [(K, A, -1, (eff ⟨K, A, B, O, N, P, Q⟩ W).2.2)] else L⟩ := by
          simp [stepped, tick, accOf, k4]
        rw [hms] at I9
        refine cd (fun cf => ?_) (fun cf => ?_)
        · rw [if_pos cf] at I9
          refine fa ?_
          refine ldb hb9 rfl ?_
          refine fa ?_
          refine ldb hb9 rfl ?_
          refine bd (accCells (K, A, -1, (eff ⟨K, A, B, O, N, P, Q⟩ W).2.2)).toArray (fun _ => by kernel_rfl) ?_
          refine bs (accCells (K, A, -1, (eff ⟨K, A, B, O, N, P, Q⟩ W).2.2)).toArray (fun _ => by kernel_rfl) fun w10 hb10 hu10 hs10 => ?_
          have I10 := I9.upd hu10
          refine app I10.log hb10 rfl rfl (by decide) (by simp [maxLen]; omega) (by omega) fun gg og cg w11 hs11 hu11 hg11 => ?_
          have I11 := I10.log_ hs11 hu11 hg11
          refine cN (by simp) ?_
          refine bnq ?_
          refine cN (by simp) ?_
          refine ar64 (by omega) ?_
          refine round_mk [rv, .slice (some ⟨gg, og, none⟩) (L.length + 1) cg, .int .i64 ((k + 1 : Nat) : Int), .int .i64 ((j + 1 : Nat) : Int)] (ls.length - (j + 1)) rfl rfl ?_ (by omega)
          exact ⟨j + 1, (eff ⟨K, A, B, O, N, P, Q⟩ W).1, L ++ [(K, A, -1, (eff ⟨K, A, B, O, N, P, Q⟩ W).2.2)], k + 1, _, _, rv, _, rfl, by omega, rfl, I11, by omega, by omega, by simp; omega⟩
        · rw [if_neg cf] at I9
          refine cN (by simp) ?_
          refine bnq ?_
          refine cN (by simp) ?_
          refine ar64 (by omega) ?_
          refine round_mk [rv, gv, .int .i64 ((k + 1 : Nat) : Int), .int .i64 ((j + 1 : Nat) : Int)] (ls.length - (j + 1)) rfl rfl ?_ (by omega)
          exact ⟨j + 1, (eff ⟨K, A, B, O, N, P, Q⟩ W).1, L, k + 1, _, _, rv, gv, rfl, by omega, rfl, I9, by omega, by omega, by omega⟩
      · replace k4 : ¬ K < 4 := k4
        have hms : stepped ⟨W, (k : Int), decide ((j : Int) ≥ from_), L⟩ ⟨K, A, B, O, N, P, Q⟩ = ⟨(eff ⟨K, A, B, O, N, P, Q⟩ W).1, ((k + 1 : Nat) : Int), decide ((j : Int) ≥ from_), if (j : Int) ≥ from_ then L ++ [(K, A, B, (eff ⟨K, A, B, O, N, P, Q⟩ W).2.2)] else L⟩ := by
          simp [stepped, tick, accOf, k4]
        rw [hms] at I9
        refine cd (fun cf => ?_) (fun cf => ?_)
        · rw [if_pos cf] at I9
          refine fa ?_
          refine ldb hb9 rfl ?_
          refine fa ?_
          refine ldb hb9 rfl ?_
          refine bd (accCells (K, A, B, (eff ⟨K, A, B, O, N, P, Q⟩ W).2.2)).toArray (fun _ => by kernel_rfl) ?_
          refine bs (accCells (K, A, B, (eff ⟨K, A, B, O, N, P, Q⟩ W).2.2)).toArray (fun _ => by kernel_rfl) fun w10 hb10 hu10 hs10 => ?_
          have I10 := I9.upd hu10
          refine app I10.log hb10 rfl rfl (by decide) (by simp [maxLen]; omega) (by omega) fun gg og cg w11 hs11 hu11 hg11 => ?_
          have I11 := I10.log_ hs11 hu11 hg11
          refine cN (by simp) ?_
          refine bnq ?_
          refine cN (by simp) ?_
          refine ar64 (by omega) ?_
          refine round_mk [rv, .slice (some ⟨gg, og, none⟩) (L.length + 1) cg, .int .i64 ((k + 1 : Nat) : Int), .int .i64 ((j + 1 : Nat) : Int)] (ls.length - (j + 1)) rfl rfl ?_ (by omega)
          exact ⟨j + 1, (eff ⟨K, A, B, O, N, P, Q⟩ W).1, L ++ [(K, A, B, (eff ⟨K, A, B, O, N, P, Q⟩ W).2.2)], k + 1, _, _, rv, _, rfl, by omega, rfl, I11, by omega, by omega, by simp; omega⟩
        · rw [if_neg cf] at I9
          refine cN (by simp) ?_
          refine bnq ?_
          refine cN (by simp) ?_
          refine ar64 (by omega) ?_
          refine round_mk [rv, gv, .int .i64 ((k + 1 : Nat) : Int), .int .i64 ((j + 1 : Nat) : Int)] (ls.length - (j + 1)) rfl rfl ?_ (by omega)
          exact ⟨j + 1, (eff ⟨K, A, B, O, N, P, Q⟩ W).1, L, k + 1, _, _, rv, gv, rfl, by omega, rfl, I9, by omega, by omega, by omega⟩
    · obtain ⟨rfl, hp7⟩ := g2 hR
      obtain ⟨lv7, I7, hk7⟩ := I6.step hp7
      have hb7 : Blk w7 w3.heap.size 60 (o7 ⟨K, A, B, O, N, P, Q⟩) := (hk7 _ hb6.lt hx3).trans hb6
      refine ldw hb7 rfl ?_
      rw [← hWn]
      refine cl (right_law ⟨K, A, B, O, N, P, Q⟩ W.length w7) ?_
      rintro _ w8 ⟨rfl, hu8⟩
      rw [decide_eq_false hR]
      refine ar64 (by omega) ?_
      refine round_mk [wv, gv, .int .i64 k, .int .i64 ((j + 1 : Nat) : Int)] (ls.length - (j + 1)) rfl rfl ?_ (by omega)
      rw [hWn]
      exact skip (I7.upd hu8)
  · have hj : j = ls.length := by omega
    refine cl (log_c I3.mem (by dsimp only; omega)) ?_
    rintro rl w4 ⟨hs4, hu4, hf4⟩
    have I4 := I3.upd hu4
    obtain ⟨al, cl_, rfl, -⟩ := hs4.form
    obtain ⟨ag, cg, rfl, -⟩ := I4.log.form
    refine len_sl ?_
    refine len_sl ?_
    refine cN (by simp) ?_
    refine loop_rule [7, 9, 10, 11, 21] [22] (fun vs w' m => ∃ i : Nat, vs = [.int .i64 i] ∧ i ≤ L.length ∧ m = L.length - i ∧ Upd [] w4 w') rfl [.int .i64 0] L.length rfl ⟨0, rfl, by omega, by omega, Upd.refl _ _⟩ ?_
    rintro _ w5 m ⟨i, rfl, hi, rfl, hu5⟩
    refine len_sl ?_
    refine cd (fun hlt => ?_) (fun hlt => ?_)
    · have hlt : i < L.length := by have h : (i : Int) < (L.length : Int) := hlt; omega
      have hs5 := hs4.upd hu5 (by simp)
      have I5 := I4.upd hu5
      obtain ⟨g1, o1, c1', e1, -⟩ := hs5.some_ (by show 0 < L.length; omega)
      obtain ⟨g2, o2, c2', e2, -⟩ := I5.log.some_ (by omega)
      cases e1; cases e2
      refine draw_all (fun w' => w' = w5.drew) (by decide +kernel) rfl ?_
      refine q_ix i rfl hlt ?_
      refine rq (.agg (accCells (L.getD i (0, 0, 0, false))).toArray) (fun w' hw' => by subst hw'; exact lda (accCells (L.getD i (0, 0, 0, false))) rfl (acc_at hs5.drew i hlt rfl) ⟨rfl, rfl⟩) ?_
      refine q_ix i rfl hlt ?_
      refine rq (.agg (accCells (L.getD i (0, 0, 0, false))).toArray) (fun w' hw' => by subst hw'; exact lda (accCells (L.getD i (0, 0, 0, false))) rfl (acc_at I5.log.drew i hlt rfl) ⟨rfl, rfl⟩) ?_
      refine rq (.bool (!eqCells (accCells (L.getD i (0, 0, 0, false))).toArray.toList (accCells (L.getD i (0, 0, 0, false))).toArray.toList)) (fun w' hw' => anq rfl rfl ⟨rfl, rfl⟩) ?_
      rintro _ rfl
      rw [show eqCells (accCells (L.getD i (0, 0, 0, false))).toArray.toList (accCells (L.getD i (0, 0, 0, false))).toArray.toList = true from eqCells_refl [.i .i64, .i .i64, .i .i64, .b] _ rfl]
      refine ar64 (by omega) ?_
      refine round_mk [.int .i64 ((i + 1 : Nat) : Int)] (L.length - (i + 1)) rfl rfl ?_ (by omega)
      exact ⟨i + 1, rfl, by omega, rfl, hu5.drew⟩
    · have I5 := I4.upd hu5
      refine cl (words_c I5.mem (by dsimp only; omega)) ?_
      rintro rw_ w6 ⟨hs6, hu6, hf6⟩
      have I6 := I5.upd hu6
      refine cl (wordsame_c hs6 I6.words) ?_
      rintro _ w7 ⟨rfl, hu7⟩
      rw [show (({ W := W, k := (k : Int), on := on, L := L } : MS).W == W) = true by simp]
      have I7 := I6.upd hu7
      refine cl (steps_c I7.mem) ?_
      rintro _ w7 ⟨rfl, rfl⟩
      refine cY (by rfl) ?_
      exact out I7.up fun w3 h => ⟨rfl, h⟩
theorem MemSteps_walk (w : World) (n : Int) (wn : (Lit.int .i64 n).wf = true) (v : Value) (ls : List (List Int)) (h : SlRows w w.heap.size opKs v ls) (f : Int) (wf : (Lit.int .i64 f).wf = true) :
    Calls Try.prog 11 #[.int .i64 n, v, .int .i64 f] w fun e w' => e = .returned (.bool true) ∧ Below w.heap.size w w' :=
  (MemSteps_fn w n f v ls h).mono fun _ _ ⟨_, he, hv, hu⟩ => ⟨by rw [he, hv], hu.below⟩
end Go.Proofs.Ytjninopakpfklaa
