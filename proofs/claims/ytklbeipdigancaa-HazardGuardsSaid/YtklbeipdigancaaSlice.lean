/- Slices that lie anywhere in a block of the call's own: reading, storing, cutting, appending; whatever the program. -/
import Derived.Test.YtklbeipdigancaaHeap
namespace Go.Proofs.Ytklbeipdigancaa
open Go.RowKit

/-- the slice value v holds n elements, the cells xs (size cells an element), in a block of element type e that isn't frozen -/
def Sl (w : World) (e : TypeId) (size : Nat) (v : Value) (n : Nat) (xs : List Value) : Prop :=
  xs.length = n * size ∧
  ((v = .slice none 0 0 ∧ n = 0) ∨
   ∃ g off cap cur, v = .slice (some ⟨g, off, none⟩) n cap ∧ Blk w g e cur ∧ n ≤ cap ∧ cap ≤ maxLen ∧ off + cap * size ≤ cur.size ∧ (cur.toList.drop off).take (n * size) = xs)

section
variable {w w' : World} {e : TypeId} {size : Nat} {v : Value} {n : Nat} {xs : List Value}

theorem Sl.nil_ (w : World) (e : TypeId) (size : Nat) : Sl w e size (.slice none 0 0) 0 [] := ⟨by simp, .inl ⟨rfl, rfl⟩⟩

theorem Sl.keep (h : Sl w e size v n xs) (hk : ∀ g, v.ownBlock = some g → g < w.heap.size → w'.heap[g]? = w.heap[g]?) : Sl w' e size v n xs := by
  refine ⟨h.1, ?_⟩
  rcases h.2 with h0 | ⟨g, off, cap, cur, rfl, hb, r⟩
  · exact .inl h0
  · exact .inr ⟨g, off, cap, cur, rfl, (hk g rfl hb.lt).trans hb, r⟩
theorem Sl.upd {S : List Nat} (h : Sl w e size v n xs) (hu : Upd S w w') (hn : ∀ g, v.ownBlock = some g → g ∉ S) : Sl w' e size v n xs :=
  h.keep fun g hg hlt => hu.block g hlt (hn g hg)
theorem Sl.alloc (h : Sl w e size v n xs) (o : Obj) : Sl (w.alloc o) e size v n xs := h.keep fun g _ hlt => Below.heap_alloc w o g hlt
theorem Sl.drew (h : Sl w e size v n xs) : Sl w.drew e size v n xs := h
theorem Sl.drewN (h : Sl w e size v n xs) (k : Nat) : Sl (w.drewN k) e size v n xs := h
theorem Sl.far (h : Sl w e size v n xs) {p : Addr} (hp : v.ownBlock ≠ some p.block) (u : Value) : Sl (w.setCell p u) e size v n xs :=
  h.keep fun g hg _ => Below.heap_setCell w p u g (fun e' => hp (by rw [← e']; exact hg))
theorem Sl.lt (h : Sl w e size v n xs) : ∀ g, v.ownBlock = some g → g < w.heap.size := by
  intro g hg
  rcases h.2 with ⟨rfl, _⟩ | ⟨g', off, cap, cur, rfl, hb, _⟩
  · simp [Value.ownBlock] at hg
  · simp [Value.ownBlock] at hg; subst hg; exact hb.lt
theorem Sl.blk_ne (h : Sl w e size v n xs) {g : Nat} {t : TypeId} {cs : Array Value} (hb : Blk w g t cs) (hne : e ≠ t) : v.ownBlock ≠ some g := by
  rcases h.2 with ⟨rfl, _⟩ | ⟨g', off, cap, cur, rfl, hb', _⟩
  · simp [Value.ownBlock]
  · intro he
    have : g' = g := by simpa [Value.ownBlock] using he
    subst this
    exact hb'.ne_ hb hne rfl
theorem Sl.ne_ {e' : TypeId} {size' n' : Nat} {v' : Value} {xs' : List Value} (h : Sl w e size v n xs) (h' : Sl w e' size' v' n' xs') (hne : e ≠ e') : ∀ g, v.ownBlock = some g → v'.ownBlock ≠ some g := by
  intro g hg hg'
  rcases h.2 with ⟨rfl, _⟩ | ⟨g1, off, cap, cur, rfl, hb, _⟩
  · simp [Value.ownBlock] at hg
  · have : g1 = g := by simpa [Value.ownBlock] using hg
    subst this
    exact h'.blk_ne hb (fun e1 => hne e1.symm) hg'

/-- what the value looks like, its length in the walk's words -/
theorem Sl.form (h : Sl w e size v n xs) : ∃ a cap, v = .slice a n cap ∧ n ≤ cap ∧ (a = none → n = 0 ∧ cap = 0) := by
  rcases h.2 with ⟨rfl, rfl⟩ | ⟨g, off, cap, cur, rfl, _, hc, _⟩
  · exact ⟨none, 0, rfl, Nat.le_refl _, fun _ => ⟨rfl, rfl⟩⟩
  · exact ⟨_, cap, rfl, hc, fun h => by cases h⟩
theorem Sl.le (h : Sl w e size v n xs) : n ≤ maxLen := by
  rcases h.2 with ⟨_, rfl⟩ | ⟨g, off, cap, cur, rfl, _, hc, hm, _⟩
  · unfold maxLen; omega
  · omega
/-- a cell -/
theorem Sl.cells (h : Sl w e size v n xs) {g off c : Nat} (hv : v = .slice (some ⟨g, off, none⟩) n c) (j : Nat) (hj : j < n * size) : w.cell? ⟨g, off + j, none⟩ = xs[j]? ∧ w.frozen? ⟨g, off + j, none⟩ = false := by
  rcases h.2 with ⟨h0, _⟩ | ⟨g', off', cap, cur, h1, hb, hc, hm, hs, ht⟩
  · rw [h0] at hv; cases hv
  · rw [h1] at hv; injection hv with hv _ hc'; injection hv with hv; injection hv with hv1 hv2
    subst hv1; subst hv2
    refine ⟨?_, hb.frozen _⟩
    rw [hb.cell, ← ht, List.getElem?_take, if_pos hj, List.getElem?_drop]
    simp
/-- a store of one cell -/
theorem Sl.store (h : Sl w e size v n xs) {g off c : Nat} (hv : v = .slice (some ⟨g, off, none⟩) n c) (j : Nat) (hj : j < n * size) (u : Value) : Sl (w.setCell ⟨g, off + j, none⟩ u) e size v n (xs.set j u) := by
  rcases h.2 with ⟨h0, _⟩ | ⟨g', off', cap, cur, h1, hb, hc, hm, hs, ht⟩
  · rw [h0] at hv; cases hv
  · rw [h1] at hv; injection hv with hv _ hc'; injection hv with hv; injection hv with hv1 hv2
    subst hv1; subst hv2
    refine ⟨by simpa using h.1, .inr ⟨g', off', cap, _, h1, hb.set_ _ _, hc, hm, by simpa using hs, ?_⟩⟩
    rw [← ht]
    have h2 : n * size ≤ cap * size := Nat.mul_le_mul_right _ hc
    have hlt : off' + j < cur.toList.length := by rw [Array.length_toList]; omega
    have hl2 : j < ((cur.toList.drop off').take (n * size)).length := by rw [List.length_take, List.length_drop, Array.length_toList]; omega
    apply List.ext_getElem?
    intro i
    rw [List.getElem?_take, List.getElem?_drop, Array.toList_setIfInBounds, List.getElem?_set, List.getElem?_set]
    by_cases hij : j = i
    · subst hij
      rw [if_pos hj, if_pos rfl, if_pos rfl, if_pos hlt, if_pos hl2]
    · rw [if_neg hij, if_neg (show ¬ off' + j = off' + i by omega), List.getElem?_take, List.getElem?_drop]

/-- cut to the left: v[k:] -/
theorem Sl.drop_ (h : Sl w e size v n xs) {g off c : Nat} (hv : v = .slice (some ⟨g, off, none⟩) n c) (k : Nat) (hk : k ≤ n) :
    Sl w e size (.slice (some ⟨g, off + k * size, none⟩) (n - k) (c - k)) (n - k) (xs.drop (k * size)) := by
  rcases h.2 with ⟨h0, _⟩ | ⟨g', off', cap, cur, h1, hb, hc, hm, hs, ht⟩
  · rw [h0] at hv; cases hv
  · rw [h1] at hv; injection hv with hv _ hc'; injection hv with hv; injection hv with hv1 hv2
    subst hv1; subst hv2; subst hc'
    refine ⟨by rw [List.length_drop, h.1, Nat.sub_mul], .inr ⟨g', off' + k * size, cap - k, cur, rfl, hb, by omega, by omega, ?_, ?_⟩⟩
    · have : (cap - k) * size = cap * size - k * size := Nat.sub_mul _ _ _
      have h2 : k * size ≤ cap * size := Nat.mul_le_mul_right _ (by omega)
      omega
    · rw [← ht, List.drop_take, List.drop_drop, Nat.sub_mul]
/-- cut to the left where nothing is left (the address stays) -/
theorem Sl.empty_at (h : Sl w e size v n xs) {g off c : Nat} (hv : v = .slice (some ⟨g, off, none⟩) n c) : Sl w e size (.slice (some ⟨g, off, none⟩) 0 0) 0 [] := by
  rcases h.2 with ⟨h0, _⟩ | ⟨g', off', cap, cur, h1, hb, hc, hm, hs, ht⟩
  · rw [h0] at hv; cases hv
  · rw [h1] at hv; injection hv with hv _ hc'; injection hv with hv; injection hv with hv1 hv2
    subst hv1; subst hv2; subst hc'
    exact ⟨by simp, .inr ⟨g', off', 0, cur, rfl, hb, by omega, by omega, by omega, by simp⟩⟩
/-- cut to the right: v[:k] -/
theorem Sl.take_ (h : Sl w e size v n xs) {g off c : Nat} (hv : v = .slice (some ⟨g, off, none⟩) n c) (k : Nat) (hk : k ≤ n) :
    Sl w e size (.slice (some ⟨g, off, none⟩) k c) k (xs.take (k * size)) := by
  rcases h.2 with ⟨h0, _⟩ | ⟨g', off', cap, cur, h1, hb, hc, hm, hs, ht⟩
  · rw [h0] at hv; cases hv
  · rw [h1] at hv; injection hv with hv _ hc'; injection hv with hv; injection hv with hv1 hv2
    subst hv1; subst hv2; subst hc'
    have h2 : k * size ≤ n * size := Nat.mul_le_mul_right _ hk
    refine ⟨by rw [List.length_take, h.1]; omega, .inr ⟨g', off', cap, cur, rfl, hb, by omega, hm, hs, ?_⟩⟩
    rw [← ht, List.take_take, Nat.min_eq_left h2]
/-- made: a new block whole -/
theorem Sl.made (w : World) (e : TypeId) (cs : Array Value) (n : Nat) (hm : n ≤ maxLen) (hs : cs.size = n * size) : Sl (w.alloc (.cells cs e)) e size (.slice (some ⟨w.heap.size, 0, none⟩) n n) n cs.toList :=
  ⟨by simpa using hs, .inr ⟨w.heap.size, 0, n, cs, rfl, Blk.new _ _ _, Nat.le_refl _, hm, by omega, by rw [List.drop_zero, ← hs]; exact List.take_of_length_le (by simp)⟩⟩
end

section
variable {P : Program} (w : World)

theorem run_append_sl (t ty e : TypeId) (i : TypeInfo) (z : Value) (size bytes : Nat) (ht : P.underlying t = some (.slice e)) (hi : P.info? e = some i) (hz : i.zero = some z)
    (hsize : i.size = size) (hby : i.bytes = bytes) (hzs : z.cells.size = size) (hsz : 0 < size)
    (v : Value) (n : Nat) (xs : List Value) (hown : Sl w e size v n xs)
    (a : Addr) (m c : Nat) (news : List Value) (hl : news.length = m * size) (hnews : ∀ j u, news[j]? = some u → w.cell? (a.add j) = some u) (h1 : ∀ u ∈ news, u.oneCell' = true)
    (hm : 0 < m) (h63 : n + m ≤ maxLen) (hbytes : (n + m) * bytes ≤ 140737488355328) :
    ∃ g off cap w', (Builtin.append_ #[t, t] ty #[v, .slice (some a) m c]).run P w = .ok (.slice (some ⟨g, off, none⟩) (n + m) cap) w' ∧
      Sl w' e size (.slice (some ⟨g, off, none⟩) (n + m) cap) (n + m) (xs ++ news) ∧ w.grownBy w' v.ownBlock ∧ (v.ownBlock = some g ∨ g = w.heap.size) := by
  subst hsize
  subst hby
  have hsmall : n + m ≤ 9223372036854775807 := by simp only [maxLen] at h63; omega
  have hlen : (xs ++ news).length = (n + m) * i.size := by rw [List.length_append, hown.1, hl, Nat.add_mul]
  have grown : ∀ (old : Nat), old < n + m → ∀ (row : Option Nat),
      Sl (w.drew.alloc (.cells (xs.toArray ++ news.toArray ++ Builtin.zeroCells z.cells (grownCap w (n + m) old e - (n + m))) e)) e i.size
        (.slice (some ⟨w.heap.size, 0, none⟩) (n + m) (grownCap w (n + m) old e)) (n + m) (xs ++ news) ∧
      w.grownBy (w.drew.alloc (.cells (xs.toArray ++ news.toArray ++ Builtin.zeroCells z.cells (grownCap w (n + m) old e - (n + m))) e)) row := by
    intro old ho row
    have hge := grownCap_ge w (n + m) old e
    have hcm : grownCap w (n + m) old e ≤ maxLen := grownCap_le_maxLen w (n + m) old e h63
    refine ⟨⟨hlen, .inr ⟨w.heap.size, 0, _, _, rfl, heap_alloc_new w.drew _, hge, hcm, ?_, ?_⟩⟩, ⟨rfl, rfl, rfl, by simp, fun k hk _ => Below.heap_alloc w.drew _ k hk⟩⟩
    · simp only [Array.size_append, List.size_toArray, size_zeroCells, hzs, hown.1, hl, ← Nat.add_mul, Nat.zero_add]
      apply Nat.mul_le_mul_right
      omega
    · simp only [Array.toList_append, List.append_assoc, List.drop_zero]
      rw [← List.append_assoc, ← hlen]
      exact List.take_left
  rcases hown.2 with ⟨rfl, rfl⟩ | ⟨g, off, cap, cur, rfl, hg, hnc, hcm, hcs, htake⟩
  · have hx : xs = [] := List.eq_nil_of_length_eq_zero (by simpa using hown.1)
    subst hx
    have hr := run_append_nil (P := P) w t ty e i z ht hi hz a m c news hl hnews (by omega) (by omega) (by have hb := hbytes; simp only [Nat.zero_add] at hb; omega)
    have hgr := grown 0 (by omega) (Value.ownBlock (.slice none 0 0))
    simp only [Nat.zero_add, List.nil_append, Array.empty_append] at hgr ⊢
    exact ⟨_, _, _, _, hr, hgr.1, hgr.2, Or.inr rfl⟩
  · by_cases hroom : n + m ≤ cap
    · have hmul : n * i.size + m * i.size ≤ cap * i.size := by rw [← Nat.add_mul]; exact Nat.mul_le_mul_right _ hroom
      have hfit : off + n * i.size + 0 + news.length ≤ cur.size := by rw [hl]; omega
      have hr : (Builtin.append_ #[t, t] ty #[.slice (some ⟨g, off, none⟩) n cap, .slice (some a) m c]).run P w =
          .ok (.slice (some ⟨g, off, none⟩) (n + m) cap) (w.setRow g (cur.toList.take (off + n * i.size) ++ news ++ cur.toList.drop (off + n * i.size + news.length)).toArray) := by
        have hf := run_firstCells_some (P := P) w i.size m a m c news hl hnews
        have hst := run_storeCells_at P g (off + n * i.size) e news 0 cur w hg hfit h1
        simp only [Nat.add_zero] at hst
        simp [Builtin.append_, run_underlying ht, sizeOf, typeInfo, hi, Builtin.lenOf, hroom, hf, Addr.add_lit, hst]
      refine ⟨g, off, cap, _, hr, ⟨hlen, .inr ⟨g, off, cap, _, rfl, setRow_heap w g cur _ e _ hg, hroom, hcm, ?_, ?_⟩⟩, ⟨rfl, rfl, rfl, by simp, fun k _ hk => setRow_other w g k _ (fun e => hk (by simp [Value.ownBlock, e]))⟩, Or.inl rfl⟩
      · simp only [List.size_toArray, List.length_append, List.length_take, List.length_drop, Array.length_toList]
        omega
      · have e1 : (cur.toList.take (off + n * i.size) ++ news ++ cur.toList.drop (off + n * i.size + news.length)).toArray.toList.drop off = (cur.toList.drop off).take (n * i.size) ++ news ++ cur.toList.drop (off + n * i.size + news.length) := by
          rw [List.append_assoc, List.drop_append_of_le_length (by rw [List.length_take, Array.length_toList]; omega), List.drop_take, List.append_assoc]
          simp
        rw [e1, htake, ← hlen]
        exact List.take_left
    · have holds : ∀ j u, xs[j]? = some u → w.cell? ((⟨g, off, none⟩ : Addr).add j) = some u := by
        intro j u hu
        have hj : j < n * i.size := by
          rw [← hown.1]
          rcases Nat.lt_or_ge j xs.length with h | h
          · exact h
          · rw [List.getElem?_eq_none h] at hu; cases hu
        rw [Addr.add_lit, (hown.cells rfl j hj).1]; exact hu
      have hr := run_append_grow (P := P) w t ty e i z ht hi hz ⟨g, off, none⟩ n cap xs hown.1 holds a m c news hl hnews (by omega) (by omega) (growslice_fits (by omega) hbytes)
      have hgr := grown cap (by omega) (Value.ownBlock (.slice (some ⟨g, off, none⟩) n cap))
      exact ⟨_, _, _, _, hr, hgr.1, hgr.2, Or.inr rfl⟩

/-- nothing appended -/
theorem run_append_none (t ty e : TypeId) (i : TypeInfo) (ht : P.underlying t = some (.slice e)) (hi : P.info? e = some i)
    (b : Option Addr) (n cap : Nat) (hn : n ≤ cap) (a : Option Addr) (c : Nat) :
    (Builtin.append_ #[t, t] ty #[.slice b n cap, .slice a 0 c]).run P w = .ok (.slice b n cap) w := by
  cases b <;> cases a <;> simp [Builtin.append_, run_underlying ht, sizeOf, typeInfo, hi, Builtin.lenOf, Builtin.firstCells, hn, storeCells, loadCells, loadCellsFrom]

/-- .. as an arm at a plain region's list -/
theorem wpList_append_none {ops : Array Oper} {rest : List Oper} {o : Oper} {a : Act} {Q : Exit → Act → World → Prop} (hgd : o.guard = none) (s x : Operand) (t : TypeId)
    (ho : o.op = .call { callee := .builtin .append, args := #[s, x], argTypes := #[t, t] })
    (e : TypeId) (ht : P.underlying t = some (.slice e)) (hinfo : (P.info? e).isSome = true)
    (b : Option Addr) (n cap : Nat) (hs : a.eval s = .slice b n cap) (hn : n ≤ cap) (ad : Option Addr) (c : Nat) (hx : a.eval x = .slice ad 0 c)
    (h : wpList P ops Q rest (a.put o.dst (.slice b n cap)) w) : wpList P ops Q (o :: rest) a w := by
  obtain ⟨i, hi⟩ := Option.isSome_iff_exists.1 hinfo
  have hr := run_append_none (P := P) w t o.type e i ht hi b n cap hn ad c
  refine wpList_plain hgd fun K hK => ?_
  unfold Oper.wp execOp
  simp only [ho, resolve, invoke, builtin, Sem.run_bind, Sem.run_pure, Result.andThen_ok, List.map_toArray, List.map_cons, List.map_nil, hs, hx, hr]
  exact hK _ _ h

/-- .. as an arm at a plain region's list -/
theorem wpList_append_sl {ops : Array Oper} {rest : List Oper} {o : Oper} {a : Act} {Q : Exit → Act → World → Prop} (hgd : o.guard = none) (s x : Operand) (t : TypeId)
    (ho : o.op = .call { callee := .builtin .append, args := #[s, x], argTypes := #[t, t] })
    (e : TypeId) (z : Value) (size bytes : Nat) (ht : P.underlying t = some (.slice e)) (hinfo : (P.info? e).map (fun i => (i.zero, i.size, i.bytes)) = some (some z, size, bytes)) (hzs : z.cells.size = size) (hsz : 0 < size)
    (v : Value) (n : Nat) (xs : List Value) (hs : a.eval s = v) (hown : Sl w e size v n xs)
    (ad : Addr) (m c : Nat) (news : List Value) (hx : a.eval x = .slice (some ad) m c) (hl : news.length = m * size) (hnews : ∀ j u, news[j]? = some u → w.cell? (ad.add j) = some u) (h1 : ∀ u ∈ news, u.oneCell' = true)
    (hm : 0 < m) (h63 : n + m ≤ maxLen) (hbytes : (n + m) * bytes ≤ 140737488355328)
    (h : ∀ g off cap w', Sl w' e size (.slice (some ⟨g, off, none⟩) (n + m) cap) (n + m) (xs ++ news) → w.grownBy w' v.ownBlock → (v.ownBlock = some g ∨ g = w.heap.size) → wpList P ops Q rest (a.put o.dst (.slice (some ⟨g, off, none⟩) (n + m) cap)) w') :
    wpList P ops Q (o :: rest) a w := by
  obtain ⟨i, hi, hzz⟩ := Option.map_eq_some_iff.1 hinfo
  simp only [Prod.mk.injEq] at hzz
  obtain ⟨hz, hsi, hb⟩ := hzz
  obtain ⟨g, off, cap, w', hr, h2, h3, h4⟩ := run_append_sl (P := P) w t o.type e i z size bytes ht hi hz hsi hb hzs hsz v n xs hown ad m c news hl hnews h1 hm h63 hbytes
  refine wpList_plain hgd fun K hK => ?_
  unfold Oper.wp execOp
  simp only [ho, resolve, invoke, builtin, Sem.run_bind, Sem.run_pure, Result.andThen_ok, List.map_toArray, List.map_cons, List.map_nil, hs, hx, hr]
  exact hK _ _ (h g off cap w' h2 h3 h4)
end
end Go.Proofs.Ytklbeipdigancaa
