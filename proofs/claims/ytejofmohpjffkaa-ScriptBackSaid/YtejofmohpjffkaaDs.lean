/- The law ScriptBack: plain laws (Dp, Dq) and the walk (Dr), in one text, as a claim has at most 60 files. -/
import Derived.Test.YtejofmohpjffkaaDo
namespace Go.Proofs.Ytejofmohpjffkaa
open Go.RowKit
attribute [local irreducible] Instr.loadAt Instr.storeAt Instr.fieldAt Instr.indexAt Instr.sliceAt Instr.buildSlice Instr.box Instr.alloc Builtin.append_ Builtin.len_ Builtin.min_ Builtin.max_ Calls Instr.build Instr.makeSlice binSem convert Instr.index Instr.range Instr.next
/-- threads and their calls, in a row -/
def pairsL (ls : List (List C3)) (i : Nat) : List (Nat × C3) := (List.range i).flatMap fun t => (ls.getD t []).map fun x => (t, x)
def encP (p : Nat × C3) : List Int := (p.1 : Int) :: codeC p.2
theorem pairsL_succ (ls : List (List C3)) (i : Nat) : pairsL ls (i + 1) = pairsL ls i ++ (ls.getD i []).map fun x => (i, x) := by simp [pairsL, List.range_succ]
theorem callsL_pairs (ls : List (List C3)) : ∀ i, callsL ls i = (pairsL ls i).flatMap encP
  | 0 => rfl
  | i + 1 => by
    rw [callsL_succ, pairsL_succ, List.flatMap_append, callsL_pairs ls i, List.flatMap_map]
    rfl
theorem pairsL_len (ls : List (List C3)) : ∀ i, i ≤ ls.length → (pairsL ls i).length = tot (ls.take i)
  | 0, _ => by simp [pairsL, tot]
  | i + 1, hi => by rw [pairsL_succ, List.length_append, List.length_map, pairsL_len ls i (by omega), tot_take ls i (by omega)]
theorem pairsL_lt (ls : List (List C3)) : ∀ i, ∀ p ∈ pairsL ls i, p.1 < i
  | 0, p, hp => by simp [pairsL] at hp
  | i + 1, p, hp => by
    rw [pairsL_succ] at hp
    rcases List.mem_append.1 hp with h | h
    · have := pairsL_lt ls i p h; omega
    · obtain ⟨x, -, rfl⟩ := List.mem_map.1 h
      exact Nat.lt_succ_self i
theorem pairsL_mem (ls : List (List C3)) : ∀ i, i ≤ ls.length → ∀ p ∈ pairsL ls i, ∃ l ∈ ls, p.2 ∈ l
  | 0, _, p, hp => by simp [pairsL] at hp
  | i + 1, hi, p, hp => by
    rw [pairsL_succ] at hp
    rcases List.mem_append.1 hp with h | h
    · exact pairsL_mem ls i (by omega) p h
    · obtain ⟨x, hx, rfl⟩ := List.mem_map.1 h
      exact ⟨_, memL (by omega), hx⟩
theorem pairsL_filter (ls : List (List C3)) (t : Nat) : ∀ i, ((pairsL ls i).filter fun p => decide (p.1 = t)).map (·.2) = if t < i then ls.getD t [] else []
  | 0 => by simp [pairsL]
  | i + 1 => by
    rw [pairsL_succ, List.filter_append, List.map_append, pairsL_filter ls t i]
    by_cases h : t = i
    · subst h
      rw [if_neg (by omega), if_pos (by omega)]
      have e : ((ls.getD t []).map fun x => (t, x)).filter (fun p => decide (p.1 = t)) = (ls.getD t []).map fun x => (t, x) := by
        rw [List.filter_eq_self]
        intro p hp
        obtain ⟨x, -, rfl⟩ := List.mem_map.1 hp
        simp
      rw [e, List.map_map, List.nil_append]
      exact List.map_id _
    · have e : ((ls.getD i []).map fun x => (i, x)).filter (fun p => decide (p.1 = t)) = [] := by
        rw [List.filter_eq_nil_iff]
        intro p hp
        obtain ⟨x, -, rfl⟩ := List.mem_map.1 hp
        simp only [decide_eq_true_eq]; omega
      rw [e, List.map_nil, List.append_nil]
      by_cases h2 : t < i
      · rw [if_pos h2, if_pos (by omega)]
      · rw [if_neg h2, if_neg (by omega)]
theorem encP_len (p : Nat × C3) : (encP p).length = 10 := rfl
theorem flat_len : ∀ (E : List (Nat × C3)), (E.flatMap encP).length = 10 * E.length
  | [] => rfl
  | p :: E => by rw [List.flatMap_cons, List.length_append, encP_len, flat_len E, List.length_cons]; omega
/-- the i-th entry's bytes -/
theorem flat_at (E : List (Nat × C3)) (rest : List Int) (i : Nat) (h : i < E.length) : (E.flatMap encP ++ rest).drop (10 * i) = encP E[i] ++ ((E.drop (i + 1)).flatMap encP ++ rest) := by
  have e : E = E.take i ++ (E[i] :: E.drop (i + 1)) := by rw [List.getElem_cons_drop, List.take_append_drop]
  have h1 : E.flatMap encP = (E.take i).flatMap encP ++ (encP E[i] ++ (E.drop (i + 1)).flatMap encP) := by
    conv => lhs; rw [e]
    rw [List.flatMap_append, List.flatMap_cons]
  have hl : ((E.take i).flatMap encP).length = 10 * i := by rw [flat_len, List.length_take, Nat.min_eq_left (by omega)]
  rw [h1, List.append_assoc, ← hl, List.drop_left, List.append_assoc]
theorem callsOf_flat (E : List (Nat × C3)) (rest : List Int) (T : Nat) (t : Nat) (hT : ∀ p ∈ E, p.1 < T) (hd : ∀ p ∈ E, decR (codeC p.2) = p.2) :
    ∀ i, i ≤ E.length → callsOf (E.flatMap encP ++ rest) (T : Int) i t = ((E.take i).filter fun p => decide (p.1 = t)).map (·.2)
  | 0, _ => by simp [callsOf]
  | i + 1, hi => by
    have hi : i < E.length := by omega
    rw [callsOf_succ, callsOf_flat E rest T t hT hd i (by omega), List.take_succ_eq_append_getElem hi, List.filter_append, List.map_append]
    congr 1
    have hat := flat_at E rest i hi
    have hin := hT E[i] (List.getElem_mem hi)
    have hdi := hd E[i] (List.getElem_mem hi)
    have g0 : (E.flatMap encP ++ rest).getD (10 * i) 0 = (E[i].1 : Int) := by
      have : (E.flatMap encP ++ rest).getD (10 * i) 0 = ((E.flatMap encP ++ rest).drop (10 * i)).getD 0 0 := by simp [List.getD]
      rw [this, hat]; rfl
    have g1 : ((E.flatMap encP ++ rest).drop (10 * i + 1)).take 9 = codeC E[i].2 := by
      rw [← List.drop_drop, hat]; rfl
    have g2 : (E[i].1 : Int).tmod (T : Int) = (E[i].1 : Int) := by rw [Int.tmod_eq_of_lt (by omega) (by omega)]
    rw [g0, g1, g2, hdi]
    by_cases ht : E[i].1 = t
    · rw [if_pos (by omega)]; simp [ht]
    · rw [if_neg (by omega)]; simp [ht]
theorem parse_write {c : K.Cf} {ls : List (List C3)} {ps ds : List Int} (hR : rightS c ls ps ds) (hk : ∀ l ∈ ls, ∀ x ∈ l, (0 ≤ x.2.1 ∧ x.2.1 ≤ 4294967295) ∧ (0 ≤ x.2.2 ∧ x.2.2 ≤ 4294967295)) :
    errS (writeL c ls ps ds) = 0 ∧ K.cfOf (writeL c ls ps ds) = c ∧ lsB (writeL c ls ps ds) = ls ∧ psB (writeL c ls ps ds) = ps ∧ restB (writeL c ls ps ds) = ds := by
  obtain ⟨hc, hT, r3, r4, r5, r6, r7⟩ := hR
  have hWl := writeL_len c ls ps ds
  obtain ⟨B, hB⟩ : ∃ B, B = callsL ls ls.length ++ ([((ps.length % 256 : Nat) : Int), ((ps.length / 256 : Nat) : Int)] ++ (ps ++ ds)) := ⟨_, rfl⟩
  have hW : writeL c ls ps ds = K.cfL c ++ ((tot ls : Int) :: B) := by
    rw [hB]; unfold writeL; simp only [List.append_assoc, List.singleton_append]; rfl
  generalize writeL c ls ps ds = W at *
  have e1 : K.cfOf W = c := by rw [hW]; cases c; rfl
  have e2 : cntB W = tot ls := by
    have : W.getD 7 0 = (tot ls : Int) := by rw [hW]; cases c; rfl
    unfold cntB; rw [this]; simp
  have e3 : W.drop 8 = B := by rw [hW]; cases c; rfl
  have hat : atB W = 8 + 10 * tot ls := by unfold atB; rw [e2]
  have hdr : ∀ k, W.drop (8 + k) = B.drop k := fun k => by rw [← List.drop_drop, e3]
  have hgd : ∀ k, W.getD (8 + k) 0 = B.getD k 0 := fun k => by rw [← e3]; simp [List.getD]
  have hcl : (callsL ls ls.length).length = 10 * tot ls := by rw [callsL_len ls _ (Nat.le_refl _), List.take_length]
  have hdB : B.drop (10 * tot ls) = [((ps.length % 256 : Nat) : Int), ((ps.length / 256 : Nat) : Int)] ++ (ps ++ ds) := by rw [hB, ← hcl, List.drop_left]
  have hgB : ∀ k, B.getD (10 * tot ls + k) 0 = ([((ps.length % 256 : Nat) : Int), ((ps.length / 256 : Nat) : Int)] ++ (ps ++ ds)).getD k 0 := fun k => by rw [← hdB]; simp [List.getD]
  have e4 : numB W = ps.length := by
    unfold numB
    rw [hat, Nat.add_assoc, hgd, hgd, hgB, show 10 * tot ls = 10 * tot ls + 0 by rfl, hgB]
    show (((ps.length % 256 : Nat) : Int)).toNat + 256 * (((ps.length / 256 : Nat) : Int)).toNat = ps.length
    omega
  have e5 : restB W = ds := by
    unfold restB
    rw [hat, e4, show 8 + 10 * tot ls + 2 + ps.length = 8 + (10 * tot ls + (2 + ps.length)) by omega, hdr, ← List.drop_drop, hdB, ← List.drop_drop]
    show (ps ++ ds).drop ps.length = ds
    rw [List.drop_left]
  have e6 : (W.drop (atB W + 2)).take (numB W) = ps := by
    rw [hat, e4, show 8 + 10 * tot ls + 2 = 8 + (10 * tot ls + 2) by omega, hdr, ← List.drop_drop, hdB]
    show (ps ++ ds).take ps.length = ps
    rw [List.take_left]
  obtain ⟨T, hTn⟩ : ∃ T : Nat, c.T = (T : Int) := ⟨ls.length, by omega⟩
  have hTl : ls.length = T := by omega
  refine ⟨?_, e1, ?_, ?_, e5⟩
  · unfold errS
    rw [e1, e2, hat, e4, e5, if_neg (by omega), if_neg (fun h => h hc), if_neg (by omega), if_neg (by omega), if_neg (by omega), if_neg (by omega), if_neg (by omega), if_neg (by omega)]
  · unfold lsB
    rw [e1, e2, e3, hTn, hB, callsL_pairs]
    have hlen : (pairsL ls ls.length).length = tot ls := by rw [pairsL_len ls _ (Nat.le_refl _), List.take_length]
    apply List.ext_getElem
    · simp [hTl]
    · intro t h1 h2
      simp only [callsUp, List.getElem_map, List.getElem_range]
      rw [← hlen, callsOf_flat _ _ T t (fun p hp => by have := pairsL_lt ls _ p hp; omega) (fun p hp => ?_) _ (Nat.le_refl _), List.take_length, pairsL_filter, if_pos h2]
      · simp [List.getD, h2]
      · obtain ⟨l, hl, hx⟩ := pairsL_mem ls _ (Nat.le_refl _) p hp
        obtain ⟨i, hi, rfl⟩ := List.mem_iff_getElem.1 hl
        obtain ⟨j, hj, hpj⟩ := List.mem_iff_getElem.1 hx
        have h6 := r6 i hi j (by simpa [List.getD, hi] using hj)
        have hg : (ls.getD i []).getD j (0, 0, 0) = p.2 := by simp [List.getD, hi, hj, hpj]
        rw [hg] at h6
        have h7 := hk _ hl _ hx
        obtain ⟨t', o, k, v⟩ := p
        obtain ⟨k, rfl⟩ := Int.eq_ofNat_of_zero_le h7.1.1
        obtain ⟨v, rfl⟩ := Int.eq_ofNat_of_zero_le h7.2.1
        have hk32 : (k : Int) ≤ 4294967295 := h7.1.2
        have hv32 : (v : Int) ≤ 4294967295 := h7.2.2
        have := dec_code (o := o) (k := k) (v := v) (by omega) (by omega) h6 []
        rw [List.append_nil] at this
        exact this
  · unfold psB
    rw [e6, e1, hTn]
    apply List.ext_getElem
    · simp
    · intro i h1 h2
      rw [List.getElem_map]
      have := r7 i h2
      have hg : ps.getD i 0 = ps[i] := by simp [List.getD, h2]
      rw [hg, hTn] at this
      exact Int.tmod_eq_of_lt this.1 this.2
theorem tot_set : ∀ (ls : List (List C3)) (t : Nat) (x : C3), t < ls.length → tot (ls.set t (ls.getD t [] ++ [x])) = tot ls + 1
  | l :: ls, 0, x, _ => by
    simp [tot]; omega
  | l :: ls, t + 1, x, h => by
    have := tot_set ls t x (by simpa using h)
    unfold tot at *
    simp only [List.set_cons_succ, List.map_cons, List.sum_cons, List.getD_cons_succ]
    omega
theorem tot_nil (n : Nat) : tot (List.replicate n []) = 0 := by simp [tot]
theorem tot_up (B : List Int) (T : Int) (hT : 1 ≤ T) (hB : ∀ k, 0 ≤ B.getD k 0) : ∀ n, tot (callsUp B T n) = n
  | 0 => by rw [callsUp_zero, tot_nil]
  | n + 1 => by
    have h1 := Int.tmod_nonneg T (hB (10 * n))
    have h2 := Int.tmod_lt_of_pos (B.getD (10 * n) 0) (show 0 < T by omega)
    have ht : (B.getD (10 * n) 0).tmod T = ((((B.getD (10 * n) 0).tmod T).toNat : Nat) : Int) := (Int.toNat_of_nonneg h1).symm
    rw [← callsUp_succ B T n _ ht (by omega), tot_set _ _ _ (by rw [callsUp_len]; omega), tot_up B T hT hB n]
theorem decR_right (l : List Int) : rightCall (decR l).1 (decR l).2.1 (decR l).2.2 := by
  unfold decR
  split
  · exact .inl rfl
  · split
    · exact .inl rfl
    · rename_i h
      refine .inr ⟨?_, rfl, rfl⟩
      unfold decO at *
      show (_ : Int) = 1 ∨ _ = 2
      omega
theorem decR_keys {l : List Int} (h : ∀ i, (l.getD i 0).toNat ≤ 255) : (0 ≤ (decR l).2.1 ∧ (decR l).2.1 ≤ 4294967295) ∧ (0 ≤ (decR l).2.2 ∧ (decR l).2.2 ≤ 4294967295) := by
  have hd : ∀ d i, ((l.drop d).getD i 0).toNat ≤ 255 := fun d i => by
    have := h (d + i)
    simpa [List.getD] using this
  have h1 := leN_lt (l.drop 1) (hd 1) 4
  have h5 := leN_lt (l.drop 5) (hd 5) 4
  unfold decR
  split
  · show ((0 : Int) ≤ 0 ∧ (0 : Int) ≤ 4294967295) ∧ ((0 : Int) ≤ 0 ∧ (0 : Int) ≤ 4294967295); omega
  · split
    · show ((0 : Int) ≤ (leN (l.drop 1) 4 : Int) ∧ (leN (l.drop 1) 4 : Int) ≤ 4294967295) ∧ ((0 : Int) ≤ (leN (l.drop 5) 4 : Int) ∧ (leN (l.drop 5) 4 : Int) ≤ 4294967295)
      omega
    · show ((0 : Int) ≤ 0 ∧ (0 : Int) ≤ 4294967295) ∧ ((0 : Int) ≤ 0 ∧ (0 : Int) ≤ 4294967295); omega
theorem callsOf_mem {B : List Int} {T : Int} {n t : Nat} {x : C3} (h : x ∈ callsOf B T n t) : ∃ j, x = decR ((B.drop (10 * j + 1)).take 9) := by
  unfold callsOf at h
  obtain ⟨j, -, rfl⟩ := List.mem_map.1 h
  exact ⟨j, rfl⟩
theorem callsUp_mem {B : List Int} {T : Int} {n : Nat} {l : List C3} (h : l ∈ callsUp B T n) : ∃ t, l = callsOf B T n t := by
  unfold callsUp at h
  obtain ⟨j, -, rfl⟩ := List.mem_map.1 h
  exact ⟨j, rfl⟩
theorem errS_ok {b : List Int} (h : errS b = 0) : 7 ≤ b.length ∧ K.rightC (K.cfOf b) ∧ cntB b ≤ 48 ∧ numB b ≤ 60000 ∧ atB b + 2 + numB b ≤ b.length ∧ (restB b).length ≤ 4096 := by
  unfold errS at h
  split at h
  · cases h
  split at h
  · cases h
  rename_i h1 h2
  have h2 := Classical.not_not.1 h2
  split at h
  · cases h
  split at h
  · cases h
  split at h
  · cases h
  split at h
  · cases h
  split at h
  · cases h
  split at h
  · cases h
  exact ⟨by omega, h2, by omega, by omega, by omega, by omega⟩
theorem parsed_right {b : List Int} (hb : ∀ x ∈ b, 0 ≤ x ∧ x ≤ 255) (he : errS b = 0) :
    rightS (K.cfOf b) (lsB b) (psB b) (restB b) ∧ tot (lsB b) = cntB b ∧ (∀ l ∈ lsB b, ∀ x ∈ l, (0 ≤ x.2.1 ∧ x.2.1 ≤ 4294967295) ∧ (0 ≤ x.2.2 ∧ x.2.2 ≤ 4294967295)) ∧ b.length = 10 + 10 * tot (lsB b) + (psB b).length + (restB b).length := by
  obtain ⟨h7, hc, hn, hm, hl, hr⟩ := errS_ok he
  have hT : 1 ≤ (K.cfOf b).T ∧ (K.cfOf b).T ≤ 6 := by
    obtain ⟨⟨h0, h1, -⟩, -⟩ := hc
    exact h1
  have hby : ∀ i, 0 ≤ b.getD i 0 ∧ b.getD i 0 ≤ 255 := fun i => by
    by_cases hi : i < b.length
    · exact hb _ (getD_mem hi)
    · rw [List.getD_eq_getElem?_getD, List.getElem?_eq_none (by omega)]; simp
  have hby8 : ∀ i, 0 ≤ (b.drop 8).getD i 0 ∧ (b.drop 8).getD i 0 ≤ 255 := fun i => by
    have := hby (8 + i)
    simpa [List.getD] using this
  have ht : tot (lsB b) = cntB b := tot_up _ _ hT.1 (fun k => (hby8 k).1) _
  have hpl : (psB b).length = numB b := by unfold psB; rw [List.length_map, List.length_take, List.length_drop]; omega
  have hrl : (restB b).length = b.length - (atB b + 2 + numB b) := by unfold restB; rw [List.length_drop]
  have hat : atB b = 8 + 10 * cntB b := rfl
  have hlen : (lsB b).length = (K.cfOf b).T.toNat := by unfold lsB; simp
  refine ⟨⟨hc, by omega, by omega, by omega, hr, fun i hi j hj => ?_, fun i hi => ?_⟩, ht, fun l hl x hx => ?_, by omega⟩
  · obtain ⟨t, h1⟩ := callsUp_mem (show (lsB b).getD i [] ∈ callsUp (b.drop 8) (K.cfOf b).T (cntB b) from memL hi)
    have h2 := mem3 hj
    rw [h1] at h2
    obtain ⟨k, h3⟩ := callsOf_mem h2
    rw [← h1] at h3
    rw [h3]
    exact decR_right _
  · have : (psB b).getD i 0 ∈ psB b := getD_mem hi
    unfold psB at this
    obtain ⟨x, hx, h1⟩ := List.mem_map.1 this
    have hx := (hb x (List.mem_of_mem_drop (List.mem_of_mem_take hx))).1
    have e : (psB b).getD i 0 = x.tmod (K.cfOf b).T := by rw [h1]; rfl
    rw [e]
    exact ⟨Int.tmod_nonneg _ hx, Int.tmod_lt_of_pos _ (by omega)⟩
  · obtain ⟨t, rfl⟩ := callsUp_mem hl
    obtain ⟨k, rfl⟩ := callsOf_mem hx
    refine decR_keys fun i => ?_
    by_cases hi : i < 9
    · have := hby (8 + (10 * k + 1) + i)
      have e : (((b.drop 8).drop (10 * k + 1)).take 9).getD i 0 = b.getD (8 + (10 * k + 1) + i) 0 := by
        rw [List.drop_drop]; simp [List.getD, hi]
      rw [e]; omega
    · rw [List.getD_eq_getElem?_getD, List.getElem?_eq_none (by simp; omega)]; simp
theorem writeL_bytes {c : K.Cf} {ls : List (List C3)} {ps ds : List Int} (hR : rightS c ls ps ds) (hd : ∀ d ∈ ds, 0 ≤ d ∧ d ≤ 255) : ∀ x ∈ writeL c ls ps ds, 0 ≤ x ∧ x ≤ 255 := by
  obtain ⟨hc, hT, r3, r4, r5, r6, r7⟩ := hR
  have hT6 : c.T ≤ 6 := by
    obtain ⟨⟨h0, h1, -⟩, -⟩ := hc
    exact h1.2
  intro x hx
  unfold writeL at hx
  simp only [List.mem_append] at hx
  rcases hx with (((((hx | hx) | hx) | hx) | hx) | hx)
  · obtain ⟨i, hi, rfl⟩ := List.mem_iff_getElem.1 hx
    have := K.cfL_at c hc i (by rw [cfL_len] at hi; exact hi)
    simpa [List.getD, hi] using this
  · simp only [List.mem_singleton] at hx; omega
  · rw [callsL_pairs] at hx
    obtain ⟨p, hp, hx⟩ := List.mem_flatMap.1 hx
    have hlt := pairsL_lt ls _ p hp
    rcases List.mem_cons.1 hx with h | h
    · omega
    · obtain ⟨l, hl, hpl⟩ := pairsL_mem ls _ (Nat.le_refl _) p hp
      obtain ⟨i, hi, rfl⟩ := List.mem_iff_getElem.1 hl
      obtain ⟨j, hj, hpj⟩ := List.mem_iff_getElem.1 hpl
      have h6 := r6 i hi j (by simpa [List.getD, hi] using hj)
      have hg : (ls.getD i []).getD j (0, 0, 0) = p.2 := by simp [List.getD, hi, hj, hpj]
      rw [hg] at h6
      exact codeL_bytes (by unfold rightCall at h6; omega) x h
  · simp only [List.mem_cons, List.mem_nil_iff, or_false] at hx
    rcases hx with h | h <;> omega
  · obtain ⟨i, hi, rfl⟩ := List.mem_iff_getElem.1 hx
    have := r7 i hi
    have e : ps.getD i 0 = ps[i] := by simp [List.getD, hi]
    rw [e] at this
    omega
  · exact hd x hx
theorem Wr.bts {w w' : World} {v : Value} {L : List Int} (h : Wr w w' v L) (hp : 0 < L.length) (hr : ∀ x ∈ L, 0 ≤ x ∧ x ≤ 255) : Bts w' v L := (RdK.of_sl h.s).bts hp hr
/-- what was parsed, as one that came in -/
theorem parsed_in {w : World} {s : Value} {b : List Int} (hb : ∀ x ∈ b, 0 ≤ x ∧ x ≤ 255) (he : errS b = 0) (h : Scr w (K.cfOf b) (lsB b) (psB b) (restB b) s) : ScrIn w s (K.cfOf b) (lsB b) (psB b) (restB b) := by
  obtain ⟨hR, ht, hk, -⟩ := parsed_right hb he
  obtain ⟨-, -, hn, -⟩ := errS_ok he
  refine ⟨h, hk, fun d hd => hb d (List.mem_of_mem_drop hd), fun l hl => ?_⟩
  obtain ⟨i, hi, rfl⟩ := List.mem_iff_getElem.1 hl
  have h1 := tot_take (lsB b) i hi
  have h2 := tot_le (lsB b) (i + 1)
  have h3 : (lsB b).getD i [] = (lsB b)[i] := by simp [List.getD, hi]
  rw [h3] at h1
  omega
set_option maxRecDepth 100000 in
theorem sback_law {w : World} {c : K.Cf} {ls : List (List C3)} {ps ds : List Int} {v u : Value} {b : List Int} (h : ScrIn w v c ls ps ds) (hv : Bts w u b) : Fn Try.prog 11 #[v, u] w fun r w' => r = .bool true ∧ Upd [] w w' := by
  have hscr := h.scr
  obtain ⟨cs, rfl, hl0, ho0⟩ := h.scr.form
  obtain ⟨ua, uc, rfl, -⟩ := hv.form
  refine fn_enter Try.func11 rfl rfl ?_
  refine bx fun w1 hb1 hu1 hs1 => ?_
  have hb1 : Blk w1 w.heap.size TS cs := hb1
  refine ldw hb1 hl0 ?_
  by_cases hL : lightS ls ps ds
  rotate_left
  · refine cl (light_v (h.upd0 hu1) false (iff_of_false (by simp) hL)) ?_
    rintro _ w2 ⟨rfl, hu2⟩
    refine cl (lives11 w2) ?_
    rintro _ w3 ⟨rfl, hu3⟩
    exact ⟨rfl, (hu1.trans hu2).trans hu3⟩
  refine cl (light_v (h.upd0 hu1) true (iff_of_true rfl hL)) ?_
  rintro _ w2 ⟨rfl, hu2⟩
  obtain ⟨l1, l2, l3, l4⟩ := hL
  refine len_sl ?_
  have gb2 := hb1.upd hu2 (by simp)
  have hU2 := hu1.trans hu2
  refine cd (fun hbig => ?_) (fun hbig => ?_)
  · refine cl (lives11 w2) ?_
    rintro _ w3 ⟨rfl, hu3⟩
    exact ⟨rfl, hU2.trans hu3⟩
  refine ldw gb2 hl0 ?_
  refine cl (write_c (h.upd0 hU2) (by omega)) ?_
  rintro r w3 ⟨hn, hy, hu3⟩
  have gb3 := gb2.upd hu3 (by simp)
  have hU3 := hU2.trans hu3
  by_cases hR : rightS c ls ps ds
  · obtain ⟨bv, rfl, hW⟩ := hy hR
    have hwl0 := writeL_len c ls ps ds
    have hwb0 := writeL_bytes hR h.bytes
    obtain ⟨z1, z2, z3, z4, z5⟩ := parse_write hR h.keys
    refine cl (sparse_c (hW.bts (by omega) hwb0)) ?_
    rintro _ w4 ⟨hq4, hu4⟩
    unfold parseV at hq4
    rw [if_pos z1, z2, z3, z4, z5] at hq4
    obtain ⟨s4, rfl, hs4⟩ := hq4
    obtain ⟨cs4, rfl, hl4, ho4⟩ := hs4.form
    refine al zS (fun _ => by kernel_rfl) fun w5 hb5 hu5 hs5 => ?_
    refine stw hb5 rfl hl4 ho4 fun w6 hb6 hu6 hs6 => ?_
    have hU46 : Upd [] w4 w6 := hu5.step hu6 (by simp)
    have hU6 := (hU3.trans hu4).trans hU46
    refine ldw ((gb3.upd hu4 (by simp)).upd hU46 (by simp)) hl0 ?_
    refine ldw hb6 hl4 ?_
    refine cl (same_c (hscr.upd0 hU6) (hs4.upd0 hU46)) ?_
    rintro _ w7 ⟨rfl, hu7⟩
    have hU7 := hU6.trans hu7
    refine cl (sparse_c (hv.upd hU7)) ?_
    rintro _ x1 ⟨hq, ku1⟩
    obtain ⟨s1, rfl, hs1⟩ := hq.form
    obtain ⟨cs1, rfl, hl1, ho1⟩ := hs1.form
    refine al zS (fun _ => by kernel_rfl) fun x2 kb2 ku2 ks2 => ?_
    refine stw kb2 rfl hl1 ho1 fun x3 kb3 ku3 ks3 => ?_
    have kU13 : Upd [] x1 x3 := ku2.step ku3 (by simp)
    have kU3 : Upd [] w x3 := ((hU7).trans ku1).trans kU13
    by_cases he : errS b = 0
    rotate_left
    · refine cY he ?_
      obtain ⟨kv, pv, dv, vals, hcs, q2, q3, q4⟩ := hs1.h
      injection hcs with hcs
      subst hcs
      obtain ⟨ka', kc', rfl, -⟩ := q2.out.form
      refine fa ?_
      refine ldb kb3 rfl ?_
      refine len_sl ?_
      refine cY (p := ((pl b).length : Int) = 0) (by unfold pl; rw [if_neg he]; rfl) ?_
      refine cl (lives11 x3) ?_
      rintro _ x4 ⟨rfl, ku4⟩
      exact ⟨rfl, kU3.trans ku4⟩
    rw [he]
    have hbyt := hv.bytes_
    obtain ⟨hRb, htb, hkb, hlb⟩ := parsed_right hbyt he
    have hsb : Scr x1 (K.cfOf b) (lsB b) (psB b) (restB b) (.agg cs1) := by
      unfold pc pl pp pd at hs1
      rw [if_pos he, if_pos he, if_pos he, if_pos he] at hs1
      exact hs1
    have hsb3 := hsb.upd0 kU13
    have hnb := (errS_ok he).2.2.1
    refine ldw kb3 hl1 ?_
    refine cl (write_c (parsed_in hbyt he hsb3) (by omega)) ?_
    rintro r x4 ⟨-, hy4, ku4⟩
    obtain ⟨xv, rfl, hX⟩ := hy4 hRb
    have hwl := writeL_len (K.cfOf b) (lsB b) (psB b) (restB b)
    have hwb := writeL_bytes hRb (fun d hd => hbyt d (List.mem_of_mem_drop hd))
    obtain ⟨p1, p2, p3, p4, p5⟩ := parse_write hRb hkb
    obtain ⟨xa, xc, rfl, -⟩ := hX.s.form
    refine cl (sparse_c (hX.bts (by omega) hwb)) ?_
    rintro _ x5 ⟨hq5, ku5⟩
    unfold parseV at hq5
    rw [if_pos p1, p2, p3, p4, p5] at hq5
    obtain ⟨s5, rfl, hs5⟩ := hq5
    obtain ⟨cs5, rfl, hl5, ho5⟩ := hs5.form
    refine al zS (fun _ => by kernel_rfl) fun x6 kb6 ku6 ks6 => ?_
    refine stw kb6 rfl hl5 ho5 fun x7 kb7 ku7 ks7 => ?_
    have kU57 : Upd [] x5 x7 := ku6.step ku7 (by simp)
    have kU37 : Upd [] x3 x7 := (ku4.trans ku5).trans kU57
    have gk := kb3.upd kU37 (by simp)
    refine ldw gk hl1 ?_
    refine cl (right_v (hsb3.upd0 kU37) (by omega) true (iff_of_true rfl hRb)) ?_
    rintro _ x8 ⟨rfl, ku8⟩
    refine ldw (gk.upd ku8 (by simp)) hl1 ?_
    refine ldw (kb7.upd ku8 (by simp)) hl5 ?_
    refine cl (same_c ((hsb3.upd0 kU37).upd0 ku8) ((hs5.upd0 kU57).upd0 ku8)) ?_
    rintro _ x9 ⟨rfl, ku9⟩
    refine len_sl ?_
    refine len_sl ?_
    refine cY (p := ((writeL (K.cfOf b) (lsB b) (psB b) (restB b)).length : Int) = (b.length : Int)) (by omega) ?_
    refine cl (lives11 x9) ?_
    rintro _ x10 ⟨rfl, ku10⟩
    exact ⟨rfl, (((kU3.trans kU37).trans ku8).trans ku9).trans ku10⟩
  · obtain rfl := hn hR
    refine cl (sparse_c (hv.upd hU3)) ?_
    rintro _ x1 ⟨hq, ku1⟩
    obtain ⟨s1, rfl, hs1⟩ := hq.form
    obtain ⟨cs1, rfl, hl1, ho1⟩ := hs1.form
    refine al zS (fun _ => by kernel_rfl) fun x2 kb2 ku2 ks2 => ?_
    refine stw kb2 rfl hl1 ho1 fun x3 kb3 ku3 ks3 => ?_
    have kU13 : Upd [] x1 x3 := ku2.step ku3 (by simp)
    have kU3 : Upd [] w x3 := ((hU3).trans ku1).trans kU13
    by_cases he : errS b = 0
    rotate_left
    · refine cY he ?_
      obtain ⟨kv, pv, dv, vals, hcs, q2, q3, q4⟩ := hs1.h
      injection hcs with hcs
      subst hcs
      obtain ⟨ka', kc', rfl, -⟩ := q2.out.form
      refine fa ?_
      refine ldb kb3 rfl ?_
      refine len_sl ?_
      refine cY (p := ((pl b).length : Int) = 0) (by unfold pl; rw [if_neg he]; rfl) ?_
      refine cl (lives11 x3) ?_
      rintro _ x4 ⟨rfl, ku4⟩
      exact ⟨rfl, kU3.trans ku4⟩
    rw [he]
    have hbyt := hv.bytes_
    obtain ⟨hRb, htb, hkb, hlb⟩ := parsed_right hbyt he
    have hsb : Scr x1 (K.cfOf b) (lsB b) (psB b) (restB b) (.agg cs1) := by
      unfold pc pl pp pd at hs1
      rw [if_pos he, if_pos he, if_pos he, if_pos he] at hs1
      exact hs1
    have hsb3 := hsb.upd0 kU13
    have hnb := (errS_ok he).2.2.1
    refine ldw kb3 hl1 ?_
    refine cl (write_c (parsed_in hbyt he hsb3) (by omega)) ?_
    rintro r x4 ⟨-, hy4, ku4⟩
    obtain ⟨xv, rfl, hX⟩ := hy4 hRb
    have hwl := writeL_len (K.cfOf b) (lsB b) (psB b) (restB b)
    have hwb := writeL_bytes hRb (fun d hd => hbyt d (List.mem_of_mem_drop hd))
    obtain ⟨p1, p2, p3, p4, p5⟩ := parse_write hRb hkb
    obtain ⟨xa, xc, rfl, -⟩ := hX.s.form
    refine cl (sparse_c (hX.bts (by omega) hwb)) ?_
    rintro _ x5 ⟨hq5, ku5⟩
    unfold parseV at hq5
    rw [if_pos p1, p2, p3, p4, p5] at hq5
    obtain ⟨s5, rfl, hs5⟩ := hq5
    obtain ⟨cs5, rfl, hl5, ho5⟩ := hs5.form
    refine al zS (fun _ => by kernel_rfl) fun x6 kb6 ku6 ks6 => ?_
    refine stw kb6 rfl hl5 ho5 fun x7 kb7 ku7 ks7 => ?_
    have kU57 : Upd [] x5 x7 := ku6.step ku7 (by simp)
    have kU37 : Upd [] x3 x7 := (ku4.trans ku5).trans kU57
    have gk := kb3.upd kU37 (by simp)
    refine ldw gk hl1 ?_
    refine cl (right_v (hsb3.upd0 kU37) (by omega) true (iff_of_true rfl hRb)) ?_
    rintro _ x8 ⟨rfl, ku8⟩
    refine ldw (gk.upd ku8 (by simp)) hl1 ?_
    refine ldw (kb7.upd ku8 (by simp)) hl5 ?_
    refine cl (same_c ((hsb3.upd0 kU37).upd0 ku8) ((hs5.upd0 kU57).upd0 ku8)) ?_
    rintro _ x9 ⟨rfl, ku9⟩
    refine len_sl ?_
    refine len_sl ?_
    refine cY (p := ((writeL (K.cfOf b) (lsB b) (psB b) (restB b)).length : Int) = (b.length : Int)) (by omega) ?_
    refine cl (lives11 x9) ?_
    rintro _ x10 ⟨rfl, ku10⟩
    exact ⟨rfl, (((kU3.trans kU37).trans ku8).trans ku9).trans ku10⟩
theorem ScriptBack_walk (w : World) (v : Value) (c : K.Cf) (ls : List (List C3)) (ps ds : List Int) (h : ScrIn w v c ls ps ds) (u : Value) (bs : List (List Int)) (hb : SlRows w w.heap.size [.u8] u bs) : Calls Try.prog 11 #[v, u] w fun e w' => e = .returned (.bool true) ∧ Below w.heap.size w w' :=
  (sback_law h ⟨hb.ints⟩).mono fun _ _ ⟨_, he, hv, hu⟩ => ⟨by rw [he, hv], hu.below⟩
end Go.Proofs.Ytejofmohpjffkaa
