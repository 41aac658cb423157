/- Histories: contract: their operations. -/
import Derived.Test.YtblngbagjieeiaaOn
import Derived.Test.YtblngbagjieeiaaV18
namespace Go.Proofs.Ytblngbagjieeiaa
open Go.RowKit
attribute [local irreducible] Instr.loadAt Instr.storeAt Instr.fieldAt Instr.indexAt Instr.sliceAt Instr.buildSlice Instr.box Instr.alloc Builtin.append_ Builtin.len_ Builtin.min_ Builtin.max_ Calls Instr.build Instr.makeSlice binSem convert Instr.index Instr.range Instr.next
attribute [local irreducible] Builtin.unsafeSliceData_ Builtin.unsafeString_ Instr.lookup Instr.mapUpdate Instr.makeMap Builtin.delete_
abbrev TOp : Nat := 49
instance : MapT Try.prog 72 3 3 := ⟨Try.underlying72, Try.underlying3⟩
instance : ZeroT Try.prog 3 (.int .i64 0) := ⟨by kernel_rfl⟩
def opV (o : OpD) : Array Value := #[.int .i64 o.th, .int .i64 o.c.1, .int .u32 o.c.2.1, .int .u32 o.c.2.2, .int .i64 o.a.1, .int .u32 o.a.2.1, .int .u32 o.a.2.2, .int .i64 o.frm, .int .i64 o.to]
def opL (o : OpD) : List Value := (opV o).toList
def opsC (l : List OpD) : List Value := l.flatMap opL
theorem opsC_app (l : List OpD) (e : OpD) : opsC (l ++ [e]) = opsC l ++ opL e := by simp [opsC]
theorem opsC_len : ∀ l : List OpD, (opsC l).length = l.length * 9
  | [] => rfl
  | e :: l => by
    show (opL e ++ opsC l).length = _
    rw [List.length_append, opsC_len l, List.length_cons]
    show 9 + _ = _
    omega
theorem opsC_at : ∀ (l : List OpD) (i j : Nat), i < l.length → j < 9 → (opsC l)[i * 9 + j]? = (opL (l.getD i opZ))[j]?
  | [], _, _, h, _ => absurd h (by simp)
  | e :: l, 0, j, _, hj => by
    show (opL e ++ opsC l)[0 * 9 + j]? = _
    rw [List.getElem?_append_left (show 0 * 9 + j < 9 by omega)]
    simp [List.getD]
  | e :: l, i + 1, j, h, hj => by
    show (opL e ++ opsC l)[(i + 1) * 9 + j]? = _
    rw [List.getElem?_append_right (show 9 ≤ (i + 1) * 9 + j by omega), show (i + 1) * 9 + j - (opL e).length = i * 9 + j by show _ - 9 = _; omega, opsC_at l i j (by simpa using h) hj]
    rfl
theorem one_ops {l : List OpD} : ∀ x ∈ opsC l, x.oneCell' = true := by
  intro x hx
  obtain ⟨e, -, he⟩ := List.mem_flatMap.1 hx
  simp only [opL, opV, List.mem_cons, List.not_mem_nil, or_false] at he
  rcases he with rfl | rfl | rfl | rfl | rfl | rfl | rfl | rfl | rfl <;> rfl
def setL : List Value → Nat → List Value → List Value
  | xs, _, [] => xs
  | xs, j, v :: vs => setL (xs.set j v) (j + 1) vs
theorem setL_len : ∀ (vs xs : List Value) (j : Nat), (setL xs j vs).length = xs.length
  | [], _, _ => rfl
  | v :: vs, xs, j => by show (setL (xs.set j v) (j + 1) vs).length = _; rw [setL_len vs]; simp
theorem setL_at : ∀ (vs xs : List Value) (j k : Nat), j + vs.length ≤ xs.length → (setL xs j vs)[k]? = if j ≤ k ∧ k < j + vs.length then vs[k - j]? else xs[k]?
  | [], xs, j, k, _ => by rw [if_neg (by simp)]; rfl
  | v :: vs, xs, j, k, h => by
    simp only [List.length_cons] at h
    show (setL (xs.set j v) (j + 1) vs)[k]? = _
    rw [setL_at vs _ _ _ (by simp; omega), List.getElem?_set]
    simp only [List.length_cons]
    by_cases h1 : j + 1 ≤ k ∧ k < j + 1 + vs.length
    · rw [if_pos h1, if_pos (by omega), show k - j = (k - (j + 1)) + 1 by omega]; rfl
    · rw [if_neg h1]
      by_cases h2 : j = k
      · subst h2
        rw [if_pos rfl, if_pos (by omega), if_pos (by omega), Nat.sub_self]; rfl
      · rw [if_neg h2, if_neg (by omega)]
theorem run_setCells_sl {e n len g o c : Nat} {v : Value} (hv : v = .slice (some ⟨g, o, none⟩) len c) : ∀ (vs : List Value) (j : Nat) (w : World) (xs : List Value), Sl w e n v len xs → j + vs.length ≤ len * n → Sl (w.setCells g (o + j) vs) e n v len (setL xs j vs) ∧ Upd [g] w (w.setCells g (o + j) vs) ∧ (w.setCells g (o + j) vs).heap.size = w.heap.size
  | [], j, w, xs, h, _ => ⟨h, Upd.refl _ _, rfl⟩
  | u :: vs, j, w, xs, h, hj => by
    simp only [List.length_cons] at hj
    obtain ⟨h1, h2, h3⟩ := run_setCells_sl hv vs (j + 1) (w.setCell ⟨g, o + j, none⟩ u) _ (h.store hv j (by omega) u) (by omega)
    refine ⟨h1, ((Upd.refl [g] w).setCell (.inl (by simp)) u).trans h2, ?_⟩
    show ((w.setCell ⟨g, o + j, none⟩ u).setCells g (o + (j + 1)) vs).heap.size = _
    rw [h3]; simp [World.setCell]
/-- a struct written inside a slice -/
theorem stA {P : Program} {w : World} {t n e size g o c a : Nat} [AggT P t n] {K : World → Prop} {v : Value} {len : Nat} {xs : List Value} {new : Array Value} (j : Nat) (h : Sl w e size v len xs) (hv : v = .slice (some ⟨g, o, none⟩) len c) (hj : j + n ≤ len * size) (ha : a = o + j) (hn : new.toList.length = n) (h1 : new.toList.all (·.oneCell') = true)
    (k : ∀ w', Sl w' e size v len (setL xs j new.toList) → Upd [g] w w' → w'.heap.size = w.heap.size → K w') : RunU P (Instr.storeAt t (.pointer (some ⟨g, a, none⟩)) (.agg new)) K w := by
  subst ha
  obtain ⟨h2, h3, h4⟩ := run_setCells_sl hv new.toList j w xs h (by omega)
  refine ⟨⟨_, run_storeAt_mid w g (o + j) t new (fun i hi => ?_) (by rw [AggT.i (P := P) (t := t) (n := n)]; simpa using hn.symm) (by rw [← Array.all_toList]; exact h1), k _ h2 h3 h4⟩⟩
  have hi' : i < n := by rw [← hn]; simpa using hi
  have h5 := h.cells hv (j + i) (by omega)
  rw [Nat.add_assoc]
  refine ⟨?_, h5.2⟩
  rw [h5.1]
  have := h.1
  simp; omega
theorem ops_set {l : List OpD} {m : Nat} (hm : m < l.length) (a : C3) (n : Int) : (setL (opsC l) (m * 9 + 4) (c3V a).toList).set (m * 9 + 8) (.int .i64 n) = opsC (l.set m { l.getD m opZ with a := a, to := n }) := by
  apply List.ext_getElem?
  intro k
  have hlen := opsC_len l
  have hl2 : (setL (opsC l) (m * 9 + 4) (c3V a).toList).length = l.length * 9 := by rw [setL_len, hlen]
  rw [List.getElem?_set, hl2, setL_at _ _ _ _ (by rw [hlen]; show m * 9 + 4 + 3 ≤ _; omega)]
  rcases Nat.lt_or_ge k (l.length * 9) with hk | hk
  rotate_left
  · have e1 : (opsC (l.set m { l.getD m opZ with a := a, to := n }))[k]? = none := List.getElem?_eq_none (by rw [opsC_len, List.length_set]; exact hk)
    have e2 : (opsC l)[k]? = none := List.getElem?_eq_none (by rw [hlen]; exact hk)
    rw [e1, if_neg (by omega), if_neg (by show ¬ (m * 9 + 4 ≤ k ∧ k < m * 9 + 4 + 3); omega), e2]
  have ek : k / 9 * 9 + k % 9 = k := by omega
  have h9 : k % 9 < 9 := Nat.mod_lt _ (by decide)
  have hr := opsC_at (l.set m { l.getD m opZ with a := a, to := n }) (k / 9) (k % 9) (by rw [List.length_set]; omega) h9
  have ho := opsC_at l (k / 9) (k % 9) (by omega) h9
  rw [ek] at hr ho
  rw [hr]
  by_cases hq : k / 9 = m
  · have hg : (l.set m { l.getD m opZ with a := a, to := n }).getD (k / 9) opZ = { l.getD m opZ with a := a, to := n } := by
      rw [hq]; simp [List.getD, hm]
    rw [hg]
    rw [hq] at ho
    generalize l.getD m opZ = q at *
    obtain ⟨q1, q2, q3, q4, q5⟩ := q
    generalize hz : k % 9 = z at *
    have hk2 : k = m * 9 + z := by omega
    match z, h9 with
    | 0, _ => rw [if_neg (by omega), if_neg (by show ¬ (m * 9 + 4 ≤ k ∧ k < m * 9 + 4 + 3); omega), ho]; rfl
    | 1, _ => rw [if_neg (by omega), if_neg (by show ¬ (m * 9 + 4 ≤ k ∧ k < m * 9 + 4 + 3); omega), ho]; rfl
    | 2, _ => rw [if_neg (by omega), if_neg (by show ¬ (m * 9 + 4 ≤ k ∧ k < m * 9 + 4 + 3); omega), ho]; rfl
    | 3, _ => rw [if_neg (by omega), if_neg (by show ¬ (m * 9 + 4 ≤ k ∧ k < m * 9 + 4 + 3); omega), ho]; rfl
    | 4, _ => rw [if_neg (by omega), if_pos (by show (m * 9 + 4 ≤ k ∧ k < m * 9 + 4 + 3); omega), show k - (m * 9 + 4) = 0 by omega]; rfl
    | 5, _ => rw [if_neg (by omega), if_pos (by show (m * 9 + 4 ≤ k ∧ k < m * 9 + 4 + 3); omega), show k - (m * 9 + 4) = 1 by omega]; rfl
    | 6, _ => rw [if_neg (by omega), if_pos (by show (m * 9 + 4 ≤ k ∧ k < m * 9 + 4 + 3); omega), show k - (m * 9 + 4) = 2 by omega]; rfl
    | 7, _ => rw [if_neg (by omega), if_neg (by show ¬ (m * 9 + 4 ≤ k ∧ k < m * 9 + 4 + 3); omega), ho]; rfl
    | 8, _ => rw [if_pos (by omega), if_pos (by omega)]; rfl
  · have hg : (l.set m { l.getD m opZ with a := a, to := n }).getD (k / 9) opZ = l.getD (k / 9) opZ := by
      simp [List.getD, List.getElem?_set, Ne.symm hq]
    rw [hg, if_neg (by omega), if_neg (by show ¬ (m * 9 + 4 ≤ k ∧ k < m * 9 + 4 + 3); omega), ho]
theorem opF_len (l : List EvD) : (opF l).length ≤ l.length := by
  refine snoc_ind (p := fun l => (opF l).length ≤ l.length) (by decide) (fun l e ih => ?_) l
  rw [opF_app]
  cases e.bk with
  | true => simp; omega
  | false => simp; exact ih
set_option maxRecDepth 10000 in
theorem opers_c {w : World} {v : Value} {l : List EvD} (h : RdE w v l) (hl : l.length ≤ 1000) : Fn Try.prog 16 #[v] w fun r w' => (¬ rightH l → r = .tuple #[.slice none 0 0, .int .i64 11] ∧ Upd [] w w') ∧
    (rightH l → ∃ ov, r = .tuple #[ov, .int .i64 0] ∧ Sl w' TOp 9 ov (opF l).length (opsC (opF l)) ∧ Upd [] w w') := by
  have hh := h
  obtain ⟨va, vc, rfl, hl1, hl2⟩ := h.form
  refine fn_enter Try.func16 rfl rfl ?_
  refine cl (rightH_c h hl) ?_
  rintro _ w1 ⟨rfl, hu1⟩
  by_cases hR : rightH l
  rotate_left
  · refine cY hR ?_
    exact ⟨fun _ => ⟨rfl, hu1⟩, fun h => absurd h hR⟩
  refine cN (fun h => h hR) ?_
  refine mkm fun w2 hM2 hu2 hs2 => ?_
  refine len_sl ?_
  have hU2 := hu1.trans hu2
  have hmb : w.heap.size ≤ w1.heap.size := hu1.size
  generalize hmbe : w1.heap.size = mb at *
  refine loop_rule [5, 13, 14] [4, 15] (fun vs w' mm => ∃ (i : Nat) (ov : Value) (g : Int → Option Int), vs = [ov, .int .i64 (i : Int)] ∧ i ≤ l.length ∧ mm = l.length - i ∧ OpI (l.take i) g ∧ MapF w' mb (fun k => (g k).map (.int .i64)) ∧ Sl w' TOp 9 ov (opF (l.take i)).length (opsC (opF (l.take i))) ∧ Upd [] w w' ∧ ∀ q, ov.ownBlock = some q → w.heap.size ≤ q) rfl [.slice none 0 0, .int .i64 0] l.length rfl
    ⟨0, _, fun _ => none, rfl, by omega, rfl, OpI.nil _, hM2, Sl.nil_ _ _ _, hU2, by simp [Value.ownBlock]⟩ ?_
  clear hM2
  rintro _ w3 mm ⟨i, ov, g, rfl, hi, rfl, I, hM, hS, hU, hF⟩
  refine cd (fun hlt => ?_) (fun hlt => ?_)
  · have hlt : i < l.length := by omega
    have h3 := hh.upd0 hU
    obtain ⟨b, o, c, hv, -⟩ := h3.some_ (by omega)
    cases hv
    have hri := hR i hlt
    have htk := take_snoc evZ l i hlt
    have hlen : (l.take i).length = i := by rw [List.length_take]; omega
    have hE : evE (fOf (l.take i)) (l.getD i evZ) = 0 := hri.1
    refine ix i rfl hlt ?_
    refine lda (evL (l.getD i evZ)) rfl (h3.ldE rfl i hlt) ?_
    refine al (evV evZ) (fun _ => by kernel_rfl) fun w4 hb4 hu4 hs4 => ?_
    refine stw hb4 rfl rfl rfl fun w5 hb5 hu5 hs5 => ?_
    have hb5 : Blk w5 w3.heap.size TEv (evV (l.getD i evZ)) := hb5
    have hU5 : Upd [] w3 w5 := hu4.step hu5 (by simp)
    have hM5 := hM.upd hU5 (by simp)
    have hS5 := hS.upd hU5 (by simp)
    have hol := opF_len (l.take i)
    generalize l.getD i evZ = e at *
    refine fa ?_
    refine ldb hb5 (v := .bool e.bk) rfl ?_
    cases hbk : e.bk with
    | false =>
      obtain ⟨I', hop⟩ := I.call hE hbk
      rw [← htk] at I' hop
      refine fa ?_
      refine ldb hb5 (v := .int .i64 e.th) rfl ?_
      obtain ⟨oa, oc, hoe, -⟩ := hS5.form
      rw [hoe]
      refine len_sl ?_
      refine mup hM5 fun w6 hM6 hu6 hs6 => ?_
      rw [← hoe]
      have hS6 := hS5.upd hu6 (fun q hq => by simp; intro e; subst e; exact map_sl hM5 hS5 hq)
      have hb6 := hb5.upd hu6 (by simpa using (map_ne hM5 hb5).symm)
      refine fa ?_
      refine ldb hb6 (v := .int .i64 e.th) rfl ?_
      refine fa ?_
      refine lda (c3V e.c).toList rfl (ev_c hb6) ?_
      refine bd (opV (newOp i e)) (fun _ => by kernel_rfl) ?_
      refine bs (opV (newOp i e)) (fun _ => by kernel_rfl) fun w7 hb7 hu7 hs7 => ?_
      have hS7 := hS6.upd hu7 (by simp)
      refine apg hS7 hb7 rfl rfl (by decide) (by simp only [maxLen]; omega) (by omega) fun ov' w8 hs8 hG8 => ?_
      have hM8 := (hM6.upd hu7 (by simp)).upd hG8.up (by simpa using map_sl (hM6.upd hu7 (by simp)) hS7)
      have hU6 : Upd [] w w7 := (((hU.trans hU5).step hu6 (fun k hk => by rw [List.mem_singleton.1 hk]; right; omega)).trans hu7)
      obtain ⟨n1, n2⟩ := hG8.from_ hU6 hF
      refine ar64 (by omega) ?_
      refine round_mk [ov', .int .i64 ((i + 1 : Nat) : Int)] (l.length - (i + 1)) rfl rfl ⟨i + 1, ov', _, rfl, by omega, rfl, I', ?_, ?_, n1, n2⟩ (by omega)
      · have e1 : (fun k => ((if k = e.th then some ((opF (l.take i)).length : Int) else g k)).map (Value.int .i64)) = updF (fun k => (g k).map (.int .i64)) e.th (some (.int .i64 ((opF (l.take i)).length : Int))) := by
          funext k; unfold updF
          by_cases hk : k = e.th
          · rw [if_pos hk, if_pos hk]; rfl
          · rw [if_neg hk, if_neg hk]
        rw [e1]; exact hM8
      · rw [hop, hlen, List.length_append, opsC_app]; exact hs8
    | true =>
      obtain ⟨I', m, hg, hm, hop⟩ := I.back hE hbk
      rw [← htk] at I' hop
      rw [hlen] at hop
      refine fa ?_
      refine ldb hb5 (v := .int .i64 e.th) rfl ?_
      have hkey : (fun k => (g k).map (Value.int .i64)) e.th = some (.int .i64 (m : Int)) := by show (g e.th).map _ = _; rw [hg]; rfl
      refine mlk1s hM5 hkey ?_
      obtain ⟨ob, oo, oc, hoe, -⟩ := hS5.some_ (by omega)
      rw [hoe]
      refine ix m rfl hm ?_
      refine fa ?_
      refine lda (c3V e.a).toList rfl (ev_a hb5) ?_
      refine fa ?_
      refine stA (n := 3) (m * 9 + 4) hS5 hoe (by omega) (by omega) rfl rfl fun w6 hS6 hu6 hs6 => ?_
      refine fa ?_
      refine stC (m * 9 + 8) hS6 hoe (by omega) (by omega) rfl fun w7 hS7 hu7 hs7 => ?_
      rw [ops_set hm] at hS7
      have nb : ob ≠ mb := by
        have := map_sl hM5 hS5
        rw [hoe] at this
        intro h; subst h; exact this rfl
      have hM7 := (hM5.upd hu6 (by simpa using nb.symm)).upd hu7 (by simpa using nb.symm)
      have hob : w.heap.size ≤ ob := hF ob (by rw [hoe]; rfl)
      have hU7 : Upd [] w w7 := ((hU.trans hU5).step hu6 (fun k hk => by rw [List.mem_singleton.1 hk]; exact .inr hob)).step hu7 (fun k hk => by rw [List.mem_singleton.1 hk]; exact .inr hob)
      refine ar64 (by omega) ?_
      rw [← hoe]
      refine round_mk [ov, .int .i64 ((i + 1 : Nat) : Int)] (l.length - (i + 1)) rfl rfl ⟨i + 1, ov, g, rfl, by omega, rfl, I', hM7, ?_, hU7, hF⟩ (by omega)
      rw [hop, List.length_set]; exact hS7
  · have hie : i = l.length := by omega
    subst hie
    rw [List.take_length] at hS
    obtain ⟨oa, oc, rfl, -⟩ := hS.form
    exact ⟨fun h => absurd hR h, fun _ => ⟨_, rfl, hS, hU⟩⟩
end Go.Proofs.Ytblngbagjieeiaa
