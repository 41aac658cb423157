/- The law SchedAll: all interleavings, level by level; its walk. -/
import Derived.Test.YtjninopakpfklaaSc
namespace Go.Proofs.Ytjninopakpfklaa
open Go.RowKit
attribute [local irreducible] Instr.loadAt Instr.storeAt Instr.fieldAt Instr.indexAt Instr.sliceAt Instr.buildSlice Instr.box Instr.alloc Builtin.append_ Builtin.len_ Builtin.min_ Builtin.max_ Calls Instr.build Instr.makeSlice binSem convert Instr.index Instr.range Instr.next

def exts (c p : List Nat) : List (List Nat) := (List.range c.length).flatMap fun t => if p.count t < c.getD t 0 then [p ++ [t]] else []
theorem exts_cons (c q : List Nat) (t : Nat) (ht : c.getD t 0 ≠ 0) : exts c (t :: q) = (exts (dec1 c t) q).map (t :: ·) := by
  unfold exts
  rw [List.map_flatMap, dec1_len]
  congr 1
  funext s
  have hlt := getD_lt_len ht
  by_cases hs : s = t
  · subst hs
    have e1 : (s :: q).count s = q.count s + 1 := by simp
    have e2 : (dec1 c s).getD s 0 = c.getD s 0 - 1 := by simp [dec1, List.getD, hlt]
    rw [e1, e2]
    by_cases h : q.count s + 1 < c.getD s 0
    · rw [if_pos h, if_pos (by omega)]; rfl
    · rw [if_neg h, if_neg (by omega)]; rfl
  · have e1 : (t :: q).count s = q.count s := by rw [List.count_cons_of_ne]; exact fun h => hs h.symm
    have e2 : (dec1 c t).getD s 0 = c.getD s 0 := by simp [dec1, List.getD, List.getElem?_set_ne (Ne.symm hs)]
    rw [e1, e2]
    by_cases h : q.count s < c.getD s 0
    · rw [if_pos h, if_pos h]; rfl
    · rw [if_neg h, if_neg h]; rfl
theorem inter_snoc : ∀ (k : Nat) (c : List Nat), inter (k + 1) c = (inter k c).flatMap (exts c)
  | 0, c => by
    show (List.range c.length).flatMap _ = [[]].flatMap (exts c)
    rw [List.flatMap_singleton]
    unfold exts
    congr 1
    funext t
    by_cases h : c.getD t 0 = 0
    · rw [if_pos h, if_neg (fun hh => by rw [List.count_nil] at hh; omega)]
    · rw [if_neg h, if_pos (by rw [List.count_nil]; omega)]; rfl
  | k + 1, c => by
    show (List.range c.length).flatMap _ = ((List.range c.length).flatMap _).flatMap (exts c)
    rw [List.flatMap_assoc]
    congr 1
    funext t
    by_cases h : c.getD t 0 = 0
    · rw [if_pos h, if_pos h]; rfl
    · rw [if_neg h, if_neg h, inter_snoc k (dec1 c t), List.map_flatMap, List.flatMap_map]
      congr 1
      funext q
      rw [exts_cons c q t h]
theorem exists_pos : ∀ (c : List Nat), 0 < c.sum → ∃ t, t < c.length ∧ c.getD t 0 ≠ 0
  | [], h => absurd h (by simp)
  | k :: r, h => by
    by_cases hk : k = 0
    · obtain ⟨t, h1, h2⟩ := exists_pos r (by simp only [List.sum_cons] at h; omega)
      exact ⟨t + 1, by simpa using h1, by simpa [List.getD] using h2⟩
    · exact ⟨0, by simp, hk⟩
theorem exts_ne : ∀ (k : Nat) (c x : List Nat), k < c.sum → x ∈ inter k c → exts c x ≠ []
  | 0, c, x, h, hx => by
    have hx : x ∈ [[]] := hx
    simp at hx
    subst hx
    obtain ⟨t, h1, h2⟩ := exists_pos c h
    intro he
    have : [t] ∈ exts c [] := by
      unfold exts
      rw [List.mem_flatMap]
      exact ⟨t, by simpa using h1, by rw [if_pos (by rw [List.count_nil]; omega)]; simp⟩
    rw [he] at this
    cases this
  | k + 1, c, x, h, hx => by
    have hx : x ∈ (List.range c.length).flatMap fun t => if c.getD t 0 = 0 then [] else (inter k (dec1 c t)).map (t :: ·) := hx
    rw [List.mem_flatMap] at hx
    obtain ⟨t, -, hx⟩ := hx
    by_cases h0 : c.getD t 0 = 0
    · rw [if_pos h0] at hx; cases hx
    · rw [if_neg h0, List.mem_map] at hx
      obtain ⟨q, hq, rfl⟩ := hx
      have hd := dec1_sum c t h0
      rw [exts_cons c q t h0]
      have := exts_ne k (dec1 c t) q (by omega) hq
      simpa using this
theorem take_le {α : Type} {a b : List α} {m j : Nat} (h : a.take m = b.take m) (hj : j ≤ m) : a.take j = b.take j := by
  have := congrArg (List.take j) h
  rwa [List.take_take, List.take_take, Nat.min_eq_left hj] at this
theorem take_flat {α : Type} (f : α → List α) : ∀ (L : List α) (m : Nat), (∀ x ∈ L, f x ≠ []) → ((L.take m).flatMap f).take m = (L.flatMap f).take m
  | [], m, _ => by simp
  | x :: xs, 0, _ => by simp
  | x :: xs, m + 1, h => by
    have ih := take_flat f xs m fun y hy => h y (by simp [hy])
    have hx := List.length_pos_iff.2 (h x (by simp))
    rw [List.take_succ_cons, List.flatMap_cons, List.flatMap_cons, List.take_append, List.take_append]
    congr 1
    exact take_le ih (by omega)
def bfs (c : List Nat) : Nat → List (List Nat)
  | 0 => [[]]
  | k + 1 => ((bfs c k).flatMap (exts c)).take 401
theorem bfs_eq (c : List Nat) : ∀ k, k ≤ c.sum → bfs c k = (inter k c).take 401
  | 0, _ => rfl
  | k + 1, h => by
    show ((bfs c k).flatMap (exts c)).take 401 = _
    rw [bfs_eq c k (by omega), inter_snoc, take_flat]
    exact fun x hx => exts_ne k c x (by omega) hx
theorem exts_part (c p : List Nat) (t : Nat) : ((List.range (t + 1)).flatMap fun t => if p.count t < c.getD t 0 then [p ++ [t]] else []) = ((List.range t).flatMap fun t => if p.count t < c.getD t 0 then [p ++ [t]] else []) ++ (if p.count t < c.getD t 0 then [p ++ [t]] else []) := by
  rw [List.range_succ, List.flatMap_append]; simp
def part (c p : List Nat) (t : Nat) : List (List Nat) := (List.range t).flatMap fun t => if p.count t < c.getD t 0 then [p ++ [t]] else []
theorem part_len (c p : List Nat) : ∀ t, (part c p t).length ≤ t
  | 0 => by simp [part]
  | t + 1 => by
    have := part_len c p t
    unfold part at *
    rw [exts_part, List.length_append]
    split
    · simp only [List.length_singleton]; omega
    · simp only [List.length_nil]; omega
/-- lists of lists in memory -/
structure Rows2 (w : World) (v : Value) (ps : List (List Nat)) (vals : List Value) : Prop where
  sl : Sl w 47 1 v ps.length vals
  at_ : ∀ i, i < ps.length → ∃ x, vals[i]? = some x ∧ Sl w 3 1 x (ps.getD i []).length ((nI (ps.getD i [])).map (.int .i64))
theorem Rows2.upd {w w' : World} {v : Value} {ps : List (List Nat)} {vals : List Value} (h : Rows2 w v ps vals) (hu : Upd [] w w') : Rows2 w' v ps vals :=
  ⟨h.sl.upd hu (by simp), fun i hi => let ⟨x, h1, h2⟩ := h.at_ i hi; ⟨x, h1, h2.upd hu (by simp)⟩⟩
/-- another list of lists has grown -/
theorem Rows2.grow {w w' : World} {v u u' : Value} {ps : List (List Nat)} {vals us : List Value} {n : Nat} (h : Rows2 w v ps vals) (hs : Sl w 47 1 u n us) (hg : Grow w w' u u') (hd : ∀ g, v.ownBlock = some g → u.ownBlock ≠ some g) : Rows2 w' v ps vals :=
  ⟨h.sl.upd hg.up (fun g hgg => by simpa using hd g hgg), fun i hi => let ⟨x, h1, h2⟩ := h.at_ i hi; ⟨x, h1, h2.upd hg.up fun g hgg => by
    have := h2.ne_ hs (by decide) g hgg
    simpa using this⟩⟩
theorem Rows2.push {w w' : World} {v v' : Value} {ps : List (List Nat)} {vals : List Value} {x : Value} {p : List Nat} (h : Rows2 w v ps vals) (hg : Grow w w' v v') (hs : Sl w' 47 1 v' (ps.length + 1) (vals ++ [x])) (hx : Sl w 3 1 x p.length ((nI p).map (.int .i64))) : Rows2 w' v' (ps ++ [p]) (vals ++ [x]) := by
  have hl : vals.length = ps.length := by have := h.sl.1; simpa using this
  refine ⟨by simpa using hs, fun i hi => ?_⟩
  by_cases hlt : i < ps.length
  · obtain ⟨y, h1, h2⟩ := h.at_ i hlt
    refine ⟨y, by rw [List.getElem?_append_left (by omega)]; exact h1, ?_⟩
    have e : (ps ++ [p]).getD i [] = ps.getD i [] := by simp [List.getD, List.getElem?_append_left hlt]
    rw [e]
    exact h2.upd hg.up fun g hgg => by
      have := h2.ne_ h.sl (by decide) g hgg
      simpa using this
  · have hi2 : i = ps.length := by simp at hi; omega
    subst hi2
    refine ⟨x, by rw [← hl]; simp, ?_⟩
    have e : (ps ++ [p]).getD ps.length [] = p := by simp [List.getD]
    rw [e]
    exact hx.upd hg.up fun g hgg => by
      have := hx.ne_ h.sl (by decide) g hgg
      simpa using this
structure AllI (w w' : World) (c : List Nat) (k i t : Nat) (ov nv : Value) (ovs nvs : List Value) (ns : List (List Nat)) : Prop where
  out : Rows2 w' ov (bfs c k) ovs
  nx : Rows2 w' nv ns nvs
  fo : Fresh w ov
  fn : Fresh w nv
  dj : ∀ g, ov.ownBlock = some g → nv.ownBlock ≠ some g
  eq : ns = (((bfs c k).take i).flatMap (exts c) ++ part c ((bfs c k).getD i []) t).take 401
  up : Upd [] w w'
theorem bfs_len (c : List Nat) : ∀ k, (bfs c k).length ≤ 401
  | 0 => by simp [bfs]
  | k + 1 => by rw [bfs]; simp; omega
theorem bfs_elem_len (c : List Nat) : ∀ (k : Nat) (p : List Nat), p ∈ bfs c k → p.length = k
  | 0, p, h => by simp [bfs] at h; simp [h]
  | k + 1, p, h => by
    have h := List.mem_of_mem_take h
    rw [List.mem_flatMap] at h
    obtain ⟨q, hq, hp⟩ := h
    have := bfs_elem_len c k q hq
    unfold exts at hp
    rw [List.mem_flatMap] at hp
    obtain ⟨t, -, hp⟩ := hp
    split at hp
    · simp at hp; subst hp; simp [this]
    · cases hp
theorem cnt_step (p : List Nat) (t j : Nat) (hj : j < p.length) : (p.take (j + 1)).count t = (p.take j).count t + (if p.getD j 0 = t then 1 else 0) := by
  rw [natD_take p j hj, List.count_append]
  congr 1
  by_cases h : p.getD j 0 = t
  · rw [if_pos h, h]; simp
  · rw [if_neg h, List.count_singleton, if_neg (by simpa using h)]
set_option maxRecDepth 10000 in
theorem all_c {w : World} {v : Value} {c : List Nat} (hv : RdK w .i64 v (nI c)) (h6 : c.length ≤ 6) (h20 : c.sum ≤ 20) :
    Fn Try.prog 37 #[v, .int .i64 400] w fun r w' => (∃ vals, Rows2 w' r ((inter c.sum c).take 401) vals) ∧ Upd [] w w' := by
  obtain ⟨a, ca, rfl, -⟩ := hv.form
  refine fn_enter Try.func37 rfl rfl ?_
  refine bs #[.slice none 0 0] (fun _ => by kernel_rfl) fun w1 hb1 hu1 hs1 => ?_
  refine apg (Sl.nil_ w1 47 1) hb1 rfl rfl (by decide) (by decide) (by decide) fun ov w2 ho hG2 => ?_
  obtain ⟨hU2, hf2⟩ := hG2.from_ hu1 (Fresh.nil_ _)
  have hR0 : Rows2 w2 ov [[]] [.slice none 0 0] := ⟨ho, fun i hi => by
    obtain rfl : i = 0 := by simpa using hi
    exact ⟨_, rfl, Sl.nil_ _ _ _⟩⟩
  refine loop_rule [0, 1, 5] [7, 8] (fun vs w' m => ∃ (j : Nat), vs = [.int .i64 ((c.take j).sum : Nat), .int .i64 j] ∧ j ≤ c.length ∧ m = c.length - j ∧ w' = w2) rfl [.int .i64 0, .int .i64 0] c.length rfl ⟨0, rfl, by omega, rfl, rfl⟩ ?_
  rintro _ w3 m ⟨j, rfl, hj, rfl, rfl⟩
  refine len_sl ?_
  refine cd (fun hlt => ?_) (fun hlt => ?_)
  · have hlt : j < c.length := by simpa using hlt
    have hlt' : j < (nI c).length := by simpa using hlt
    obtain ⟨b_, o_, c_, he_, -⟩ := (hv.upd0 hU2).some_ (by omega)
    cases he_
    refine ix j (by omega) hlt' ?_
    refine ld ((hv.upd0 hU2).at_ rfl j hlt') ?_
    rw [nI_getD]
    have htk := natD_take c j hlt
    have hs1 := sum_take_nat c (j + 1)
    rw [htk, List.sum_append] at hs1
    have hs1 : (c.take j).sum + c.getD j 0 ≤ c.sum := by simpa using hs1
    refine ar64 (by omega) ?_
    refine ar64 (by omega) ?_
    refine round_mk [.int .i64 (((c.take (j + 1)).sum : Nat) : Int), .int .i64 ((j + 1 : Nat) : Int)] (c.length - (j + 1)) rfl (by rw [htk, List.sum_append]; simp; rfl) ?_ (by omega)
    exact ⟨j + 1, rfl, by omega, rfl, rfl⟩
  have hj : j = c.length := by simp at hlt; omega
  subst hj
  rw [List.take_length]
  clear hlt hj
  refine loop_rule [0, 1, 7] [5, 9] (fun vs w' m => ∃ (k : Nat) (ov : Value) (ovs : List Value), vs = [ov, .int .i64 k] ∧ k ≤ c.sum ∧ m = c.sum - k ∧ Rows2 w' ov (bfs c k) ovs ∧ Fresh w ov ∧ Upd [] w w') rfl [ov, .int .i64 0] c.sum rfl ⟨0, ov, _, rfl, by omega, rfl, hR0, hf2, hU2⟩ ?_
  clear hR0 hf2 hU2 ho hG2 hb1 hu1 hs1
  rintro _ w4 m ⟨k, ov, ovs, rfl, hk, rfl, hO, hfo, hU4⟩
  have hbl := bfs_len c k
  obtain ⟨oa, oc, rfl, -⟩ := hO.sl.form
  refine cd (fun hlt => ?_) (fun hlt => ?_)
  · have hlt : k < c.sum := by omega
    refine loop_rule [0, 1, 5, 7, 9] [10, 11] (fun vs w' m => ∃ (i : Nat) (nv : Value) (nvs : List Value) (ns : List (List Nat)), vs = [nv, .int .i64 i] ∧ m = (bfs c k).length - i ∧ i ≤ (bfs c k).length ∧ AllI w w' c k i 0 (.slice oa (bfs c k).length oc) nv ovs nvs ns) rfl [.slice none 0 0, .int .i64 0] (bfs c k).length rfl
      ⟨0, _, [], [], rfl, rfl, by omega, ⟨hO, ⟨Sl.nil_ _ _ _, fun i hi => absurd hi (by simp)⟩, hfo, Fresh.nil_ _, by simp [Value.ownBlock], by simp [part], hU4⟩⟩ ?_
    clear hO hfo hU4
    rintro _ w5 m ⟨i, nv, nvs, ns, rfl, rfl, hi, I⟩
    refine len_sl ?_
    refine cd (fun hlt2 => ?_) (fun hlt2 => ?_)
    · have hi : i < (bfs c k).length := by omega
      clear hlt2
      obtain ⟨ob, oo, oc2, he, -⟩ := I.out.sl.some_ (by omega)
      cases he
      have hpl : ((bfs c k).getD i []).length = k := bfs_elem_len c k _ (by simp [List.getD, hi])
      refine loop_rule [0, 1, 5, 7, 9, 11] [10, 12] (fun vs w' m => ∃ (t : Nat) (nv : Value) (nvs : List Value) (ns : List (List Nat)), vs = [nv, .int .i64 t] ∧ m = c.length - t ∧ t ≤ c.length ∧ AllI w w' c k i t (.slice (some ⟨ob, oo, none⟩) (bfs c k).length oc) nv ovs nvs ns) rfl [nv, .int .i64 0] c.length rfl
        ⟨0, nv, nvs, ns, rfl, rfl, by omega, I⟩ ?_
      clear I
      rintro _ w6 m ⟨t, nv, nvs, ns, rfl, rfl, ht, I⟩
      have hnl : ns.length ≤ 401 := by rw [I.eq]; simp; omega
      obtain ⟨na, nc, rfl, -⟩ := I.nx.sl.form
      refine len_sl ?_
      refine cd (fun hlt3 => ?_) (fun hlt3 => ?_)
      · have hlt3 : t < c.length := by simpa using hlt3
        refine len_sl ?_
        refine cd (fun h400 => ?_) (fun h400 => ?_)
        · have h400 : ns.length ≤ 400 := by omega
          obtain ⟨pv, hpv, hps⟩ := I.out.at_ i hi
          have hocell : ∀ w', Sl w' 47 1 (.slice (some ⟨ob, oo, none⟩) (bfs c k).length oc) (bfs c k).length ovs → w'.cell? ⟨ob, oo + i * 1, none⟩ = some pv := fun w' h => by
            rw [Nat.mul_one, (h.cells rfl i (by omega)).1]; exact hpv
          obtain ⟨pa, pc, rfl, -⟩ := hps.form
          have hprd := RdK.of_sl hps
          generalize hp : (bfs c k).getD i [] = p at *
          refine loop_rule [0, 1, 5, 7, 9, 10, 11, 12] [13, 14] (fun vs w' m => ∃ (j : Nat), vs = [.int .i64 ((p.take j).count t : Nat), .int .i64 j] ∧ m = p.length - j ∧ j ≤ p.length ∧ w' = w6) rfl [.int .i64 0, .int .i64 0] p.length rfl ⟨0, by simp, rfl, by omega, rfl⟩ ?_
          rintro _ w7 m ⟨j, rfl, rfl, hj, rfl⟩
          refine ix i rfl hi ?_
          refine ld (hocell _ I.out.sl) ?_
          refine len_sl ?_
          refine cd (fun hlt4 => ?_) (fun hlt4 => ?_)
          · have hlt4 : j < p.length := by omega
            have hcl : (p.take j).count t ≤ j := Nat.le_trans List.count_le_length (by simp; omega)
            refine ix i rfl hi ?_
            refine ld (hocell _ I.out.sl) ?_
            have hlt5 : j < (nI p).length := by simpa using hlt4
            have hprd1 : RdK w7 .i64 (.slice pa (nI p).length pc) (nI p) := by rw [nI_length]; exact hprd
            obtain ⟨b2, o2, c2, e2, -⟩ := hprd1.some_ (by omega)
            cases e2
            refine ix j rfl hlt4 ?_
            refine ld (hprd1.at_ rfl j hlt5) ?_
            rw [nI_getD]
            have hstep := cnt_step p t j hlt4
            refine cd (fun heq => ?_) (fun heq => ?_)
            · rw [if_pos (by omega)] at hstep
              refine ar64 (by omega) ?_
              refine ar64 (by omega) ?_
              refine round_mk [.int .i64 (((p.take (j + 1)).count t : Nat) : Int), .int .i64 ((j + 1 : Nat) : Int)] (p.length - (j + 1)) rfl (by rw [hstep]; rfl) ⟨j + 1, rfl, rfl, by omega, rfl⟩ (by omega)
            · rw [if_neg (by omega)] at hstep
              refine ar64 (by omega) ?_
              refine round_mk [.int .i64 (((p.take (j + 1)).count t : Nat) : Int), .int .i64 ((j + 1 : Nat) : Int)] (p.length - (j + 1)) rfl (by rw [hstep]; rfl) ⟨j + 1, rfl, rfl, by omega, rfl⟩ (by omega)
          · have hj : j = p.length := by omega
            subst hj
            rw [List.take_length]
            have hlt' : t < (nI c).length := by simpa using hlt3
            obtain ⟨b_, o_, c_, he_, -⟩ := (hv.upd0 I.up).some_ (by omega)
            cases he_
            refine ix t (by omega) hlt' ?_
            refine ld ((hv.upd0 I.up).at_ rfl t hlt') ?_
            rw [nI_getD]
            refine cd (fun hin => ?_) (fun hin => ?_)
            · have hin : p.count t < c.getD t 0 := by omega
              refine ix i rfl hi ?_
              refine ld (hocell _ I.out.sl) ?_
              refine apx (Sl.nil_ w7 3 1) hprd.rd one_ints (by simp only [maxLen, nI_length]; omega) (by simp only [nI_length]; omega) fun q1 w8 hq1 hG1 => ?_
              obtain ⟨hU8, hfq1⟩ := hG1.from_ (Upd.refl [] w7) (Fresh.nil_ _)
              refine bs #[.int .i64 t] (fun _ => by kernel_rfl) fun w9 hb9 hu9 hs9 => ?_
              refine apg (hq1.upd hu9 (by simp)) hb9 rfl rfl (by decide) (by simp only [maxLen, nI_length]; omega) (by simp only [nI_length]; omega) fun q2 w10 hq2 hG2 => ?_
              obtain ⟨hU10, hfq2⟩ := hG2.from_ (hU8.trans hu9) hfq1
              have hq2 : Sl w10 3 1 q2 (p ++ [t]).length ((nI (p ++ [t])).map (.int .i64)) := by simpa [nI] using hq2
              obtain ⟨qa, qc, rfl, -⟩ := hq2.form
              refine bs #[.slice qa (p ++ [t]).length qc] (fun _ => by kernel_rfl) fun w11 hb11 hu11 hs11 => ?_
              have hU11 := hU10.trans hu11
              have hn11 := I.nx.upd hU11
              refine apg hn11.sl hb11 rfl rfl (by decide) (by simp only [maxLen]; omega) (by omega) fun nv12 w12 hn12 hG12 => ?_
              obtain ⟨hU12, hfn12⟩ := hG12.from_ (I.up.trans hU11) I.fn
              have hR := hn11.push hG12 hn12 (hq2.upd hu11 (by simp))
              refine ar64 (by omega) ?_
              refine round_mk [nv12, .int .i64 ((t + 1 : Nat) : Int)] (c.length - (t + 1)) rfl rfl ⟨t + 1, nv12, _, ns ++ [p ++ [t]], rfl, rfl, by omega, ⟨(I.out.upd hU11).grow hn11.sl hG12 I.dj, hR, I.fo, hfn12, ?_, ?_, hU12⟩⟩ (by omega)
              · intro g hg hg2
                rcases hG12.own g hg2 with h | h
                · exact I.dj g hg h
                · have := (I.out.sl.upd hU11 (by simp)).lt g hg; omega
              · have he := I.eq
                rw [hp] at he ⊢
                have e2 : part c p (t + 1) = part c p t ++ [p ++ [t]] := by unfold part; rw [exts_part, if_pos hin]
                rw [e2, ← List.append_assoc]
                generalize ((bfs c k).take i).flatMap (exts c) ++ part c p t = Y at *
                have hl : Y.length ≤ 400 := by
                  have h1 := congrArg List.length he
                  rw [List.length_take] at h1
                  omega
                rw [List.take_of_length_le (by omega)] at he
                rw [he, List.take_of_length_le (by rw [List.length_append, List.length_singleton]; omega)]
            · have hin : ¬ p.count t < c.getD t 0 := by omega
              refine ar64 (by omega) ?_
              refine round_mk [_, .int .i64 ((t + 1 : Nat) : Int)] (c.length - (t + 1)) rfl rfl ⟨t + 1, _, nvs, ns, rfl, rfl, by omega, ⟨I.out, I.nx, I.fo, I.fn, I.dj, ?_, I.up⟩⟩ (by omega)
              have he := I.eq
              rw [hp] at he ⊢
              have e2 : part c p (t + 1) = part c p t := by unfold part; rw [exts_part, if_neg hin, List.append_nil]
              rw [e2]; exact he
        · obtain ⟨nv, hnv⟩ : ∃ nv, nv = Value.slice na ns.length nc := ⟨_, rfl⟩
          rw [← hnv] at I ⊢
          have h401 : ns.length = 401 := by omega
          have hfull : ns = (((bfs c k).take (i + 1)).flatMap (exts c)).take 401 := by
            have e0 : (bfs c k).take (i + 1) = (bfs c k).take i ++ (bfs c k)[i]?.toList := List.take_add_one
            rw [e0, List.flatMap_append]
            have e1 : (bfs c k)[i]?.toList.flatMap (exts c) = exts c ((bfs c k).getD i []) := by simp [List.getD, hi]
            rw [e1]
            (have he := I.eq; have e3 : ∀ (x y z : List (List Nat)), ns = (x ++ y).take 401 → ns = (x ++ (y ++ z)).take 401 := fun x y z h => by rw [← List.append_assoc, List.take_append_of_le_length]; exact h; (have := congrArg List.length h; rw [List.length_take] at this; omega)); obtain ⟨z, hz⟩ : ∃ z, exts c ((bfs c k).getD i []) = part c ((bfs c k).getD i []) t ++ z := ⟨(List.range' t (c.length - t)).flatMap fun t => if ((bfs c k).getD i []).count t < c.getD t 0 then [((bfs c k).getD i []) ++ [t]] else [], by unfold exts part; rw [← List.flatMap_append]; congr 1; rw [List.range_eq_range', List.range_eq_range']; have := List.range'_append (s := 0) (m := t) (n := c.length - t) (step := 1); simp only [Nat.one_mul, Nat.zero_add] at this; rw [this]; congr 1; omega⟩; rw [hz]; exact e3 _ _ z he
          refine ar64 (by omega) ?_
          refine round_mk [nv, .int .i64 ((i + 1 : Nat) : Int)] ((bfs c k).length - (i + 1)) rfl rfl ⟨i + 1, nv, nvs, ns, rfl, rfl, by omega, ⟨I.out, I.nx, I.fo, I.fn, I.dj, by rw [hfull]; simp [part], I.up⟩⟩ (by omega)
      · have hte : t = c.length := by simp at hlt3; omega
        obtain ⟨nv, hnv⟩ : ∃ nv, nv = Value.slice na ns.length nc := ⟨_, rfl⟩
        rw [← hnv] at I ⊢
        have hfull : ns = (((bfs c k).take (i + 1)).flatMap (exts c)).take 401 := by
          have e0 : (bfs c k).take (i + 1) = (bfs c k).take i ++ (bfs c k)[i]?.toList := List.take_add_one
          rw [e0, List.flatMap_append]
          have e1 : (bfs c k)[i]?.toList.flatMap (exts c) = exts c ((bfs c k).getD i []) := by simp [List.getD, hi]
          rw [e1]
          (rw [I.eq, hte]; rfl)
        refine ar64 (by omega) ?_
        refine round_mk [nv, .int .i64 ((i + 1 : Nat) : Int)] ((bfs c k).length - (i + 1)) rfl rfl ⟨i + 1, nv, nvs, ns, rfl, rfl, by omega, ⟨I.out, I.nx, I.fo, I.fn, I.dj, by rw [hfull]; simp [part], I.up⟩⟩ (by omega)
    · have hi : i = (bfs c k).length := by omega
      subst hi
      have he := I.eq
      rw [List.take_length] at he
      have he : ns = bfs c (k + 1) := by rw [he]; simp [part, bfs]
      refine ar64 (by omega) ?_
      refine round_mk [nv, .int .i64 ((k + 1 : Nat) : Int)] (c.sum - (k + 1)) rfl rfl ⟨k + 1, nv, nvs, rfl, by omega, rfl, by rw [← he]; exact I.nx, I.fn, I.up⟩ (by omega)
  · have hk : k = c.sum := by omega
    subst hk
    have e := bfs_eq c c.sum (Nat.le_refl _)
    exact ⟨⟨ovs, by rw [← e]; exact hO⟩, hU4⟩
end Go.Proofs.Ytjninopakpfklaa
