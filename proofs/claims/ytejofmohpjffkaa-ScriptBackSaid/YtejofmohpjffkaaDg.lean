/- The reference's Parse: the walk. -/
import Derived.Test.YtejofmohpjffkaaDe
namespace Go.Proofs.Ytejofmohpjffkaa
open Go.RowKit
attribute [local irreducible] Instr.loadAt Instr.storeAt Instr.fieldAt Instr.indexAt Instr.sliceAt Instr.buildSlice Instr.box Instr.alloc Builtin.append_ Builtin.len_ Builtin.min_ Builtin.max_ Calls Instr.build Instr.makeSlice binSem convert Instr.index Instr.range Instr.next

theorem RdK.sub {w : World} {k : IntKind} {a : Option Addr} {cap : Nat} {l : List Int} (h : RdK w k (.slice a l.length cap) l) (i j : Nat) (hi : i ≤ j) (hj : j ≤ l.length) : RdK w k (.slice (if cap = i then a else a.map (·.add (i * 1))) (j - i) (cap - i)) ((l.drop i).take (j - i)) := by
  obtain ⟨a', cap', h0, h1, h2, h5⟩ := (h.cut i (by omega)).h
  injection h0 with h01 h02 h03
  subst h03; subst h01
  have hl : ((l.drop i).take (j - i)).length = j - i := by simp; omega
  refine ⟨_, _, by rw [hl], by simp only [hl]; simp at h1; omega, h2, fun hp => ?_⟩
  rw [hl] at hp
  obtain ⟨b, o, hab, hb, hc⟩ := h5 (by simp; omega)
  refine ⟨b, o, hab, hb, fun n hn => ?_⟩
  rw [hl] at hn
  rw [hc n (by simp; omega)]
  simp [List.getD, hn]
/-- one more list -/
theorem CallsS.push {w w1 : World} {v v' x : Value} {ls : List (List C3)} {vals : List Value} {l : List C3} (h : CallsS w v ls vals) (hx : Sl w 43 3 x l.length (cellsC l)) (hd : ∀ y ∈ vals, ∀ g, y.ownBlock = some g → x.ownBlock ≠ some g)
    (hG : Grow w w1 v v') (hs : Sl w1 64 1 v' (ls.length + 1) (vals ++ [x])) : CallsS w1 v' (ls ++ [l]) (vals ++ [x]) := by
  have hkeep : ∀ {y : Value} {m : Nat} {xs : List Value}, Sl w 43 3 y m xs → Sl w1 43 3 y m xs := fun hy => hy.upd hG.up (fun k hk hm => by
    have := h.out.ne_ hy (by decide) k (by simpa using hm)
    exact this hk)
  refine ⟨by simpa using hs, fun i hi => ?_, fun i j y z g hij hy hz hg => ?_⟩
  · rw [List.length_append, List.length_singleton] at hi
    by_cases hlt : i < ls.length
    · obtain ⟨y, hy, hys⟩ := h.at_ i hlt
      refine ⟨y, by rw [List.getElem?_append_left (by rw [h.len]; exact hlt)]; exact hy, ?_⟩
      have e : (ls ++ [l]).getD i [] = ls.getD i [] := by simp [List.getD, List.getElem?_append_left hlt]
      rw [e]; exact hkeep hys
    · have hi : i = ls.length := by omega
      subst hi
      refine ⟨x, by rw [List.getElem?_append_right (by rw [h.len]; omega), h.len]; simp, ?_⟩
      have e : (ls ++ [l]).getD ls.length [] = l := by simp [List.getD]
      rw [e]; exact hkeep hx
  · rw [List.getElem?_append] at hy hz
    split at hy <;> split at hz
    · exact h.dj i j y z g hij hy hz hg
    · have : z = x := by
        rename_i h2
        have h3 : j - vals.length = 0 := by
          rcases Nat.eq_zero_or_pos (j - vals.length) with h4 | h4
          · exact h4
          · rw [List.getElem?_eq_none (by simp; omega)] at hz; cases hz
        rw [h3] at hz; simpa using hz.symm
      subst this
      exact hd y (List.mem_of_getElem? hy) g hg
    · have : y = x := by
        rename_i h2 _
        have h3 : i - vals.length = 0 := by
          rcases Nat.eq_zero_or_pos (i - vals.length) with h4 | h4
          · exact h4
          · rw [List.getElem?_eq_none (by simp; omega)] at hy; cases hy
        rw [h3] at hy; simpa using hy.symm
      subst this
      intro hz2
      exact hd z (List.mem_of_getElem? hz) g hz2 hg
    · rename_i h2 h3
      have h4 : i - vals.length = 0 := by
        rcases Nat.eq_zero_or_pos (i - vals.length) with h4 | h4
        · exact h4
        · rw [List.getElem?_eq_none (by simp; omega)] at hy; cases hy
      have h5 : j - vals.length = 0 := by
        rcases Nat.eq_zero_or_pos (j - vals.length) with h4 | h4
        · exact h4
        · rw [List.getElem?_eq_none (by simp; omega)] at hz; cases hz
      omega
theorem CallsS.grow {w w' : World} {v x x' : Value} {ls : List (List C3)} {vals : List Value} {e n m : Nat} {xs : List Value} (h : CallsS w v ls vals) (hs : Sl w e n x m xs) (h1 : 64 ≠ e) (h2 : 43 ≠ e) (hG : Grow w w' x x') : CallsS w' v ls vals := by
  refine h.upd hG.up (fun k hk hm => h.out.ne_ hs h1 k hk (by simpa using hm)) (fun y hy k hk hm => ?_)
  obtain ⟨i, hi, rfl⟩ := List.mem_iff_getElem.1 hy
  obtain ⟨y, hy, hys⟩ := h.at_ i (by rw [← h.len]; exact hi)
  rw [List.getElem?_eq_getElem hi] at hy
  cases hy
  exact hys.ne_ hs h2 k hk (by simpa using hm)
def lsUp (B : List Int) (T : Int) (n i : Nat) : List (List C3) := (List.range i).map fun t => callsOf B T n t
theorem lsUp_succ (B : List Int) (T : Int) (n i : Nat) : lsUp B T n (i + 1) = lsUp B T n i ++ [callsOf B T n i] := by simp [lsUp, List.range_succ]
@[simp] theorem lsUp_len (B : List Int) (T : Int) (n i : Nat) : (lsUp B T n i).length = i := by simp [lsUp]
theorem callsOf_len (B : List Int) (T : Int) (j t : Nat) : (callsOf B T j t).length ≤ j := by
  unfold callsOf
  rw [List.length_map]
  exact Nat.le_trans (List.length_filter_le _ _) (by simp)
abbrev TS : Nat := 37
abbrev zS : Array Value := scV K.zC (.slice none 0 0) (.slice none 0 0) (.slice none 0 0)
/-- the reference's blocks, on the way -/
structure RefI (w w' : World) (q p : Nat) (b : List Int) (ls : List (List C3)) (kv pv : Value) (vals : List Value) : Prop where
  res : Blk w' w.heap.size TS zS
  conf : Blk w' q 23 (K.cf7 (K.cfOf b))
  scr : Blk w' p TS (scV (K.cfOf b) kv pv (.slice none 0 0))
  calls : CallsS w' kv ls vals
  up : Upd [] w w'
  hpq : q ≠ p
  hpr : w.heap.size ≠ p
  hpn : w.heap.size ≤ p
  kvn : ∀ g, kv.ownBlock = some g → w.heap.size ≤ g
theorem RefI.step {S : List Nat} {w w1 w2 : World} {q p B : Nat} {b : List Int} {ls : List (List C3)} {kv pv : Value} {vals : List Value} (I : RefI w w1 q p b ls kv pv vals) (hB : w.heap.size < B ∧ q < B ∧ p < B) (hk : ∀ g, kv.ownBlock = some g → g < B) (hv : ∀ x ∈ vals, ∀ g, x.ownBlock = some g → g < B)
    (hu : Upd S w1 w2) (hS : ∀ g ∈ S, B ≤ g) : RefI w w2 q p b ls kv pv vals := by
  have no : ∀ g, g < B → g ∉ S := fun g hg hm => by have := hS g hm; omega
  exact ⟨I.res.upd hu (no _ hB.1), I.conf.upd hu (no _ hB.2.1), I.scr.upd hu (no _ hB.2.2), I.calls.upd hu (fun g hg => no _ (hk g hg)) (fun x hx g hg => no _ (hv x hx g hg)), I.up.step hu (fun x hx => .inr (by have := hS x hx; omega)), I.hpq, I.hpr, I.hpn, I.kvn⟩
theorem RefI.upd0 {w w1 w2 : World} {q p : Nat} {b : List Int} {ls : List (List C3)} {kv pv : Value} {vals : List Value} (I : RefI w w1 q p b ls kv pv vals) (hu : Upd [] w1 w2) : RefI w w2 q p b ls kv pv vals :=
  ⟨I.res.upd hu (by simp), I.conf.upd hu (by simp), I.scr.upd hu (by simp), I.calls.upd hu (by simp) (by simp), I.up.trans hu, I.hpq, I.hpr, I.hpn, I.kvn⟩
theorem RefI.drew {w w1 : World} {q p : Nat} {b : List Int} {ls : List (List C3)} {kv pv : Value} {vals : List Value} (I : RefI w w1 q p b ls kv pv vals) : RefI w w1.drew q p b ls kv pv vals := I.upd0 (Upd.refl [] w1).drew
theorem RefI.put {w w0 w1 w2 : World} {q p : Nat} {b : List Int} {ls ls' : List (List C3)} {kv pv kv' pv' x x' : Value} {vals vals' : List Value} (I : RefI w w0 q p b ls kv pv vals) (hG : Grow w0 w1 x x') (hx : ∀ g, x.ownBlock = some g → w.heap.size ≤ g ∧ g ≠ w.heap.size ∧ g ≠ q ∧ g ≠ p)
    (hb : Blk w2 p TS (scV (K.cfOf b) kv' pv' (.slice none 0 0))) (hu : Upd [p] w1 w2) (hc : CallsS w1 kv' ls' vals') (hk : ∀ g, kv'.ownBlock = some g → w.heap.size ≤ g) : RefI w w2 q p b ls' kv' pv' vals' :=
  ⟨(hG.blk I.res (fun h => (hx _ h).2.1 rfl)).upd hu (by simp; exact I.hpr), (hG.blk I.conf (fun h => (hx _ h).2.2.1 rfl)).upd hu (by simp; exact I.hpq), hb,
    hc.far (hG.blk I.scr (fun h => (hx _ h).2.2.2 rfl)) (by decide) (by decide) hu, (I.up.step hG.up (fun g hg => .inr (hx g (by simpa using hg)).1)).step hu (by simpa using I.hpn), I.hpq, I.hpr, I.hpn, hk⟩
/-- a block that is not of the three -/
theorem RefI.off {w w0 : World} {q p : Nat} {b : List Int} {ls : List (List C3)} {kv pv : Value} {vals : List Value} {x : Value} {n m e : Nat} {xs : List Value} (I : RefI w w0 q p b ls kv pv vals) (hs : Sl w0 e n x m xs) (h1 : e ≠ TS) (h2 : e ≠ 23) (hf : ∀ g, x.ownBlock = some g → w.heap.size ≤ g) :
    ∀ g, x.ownBlock = some g → w.heap.size ≤ g ∧ g ≠ w.heap.size ∧ g ≠ q ∧ g ≠ p := fun g hg =>
  ⟨hf g hg, fun h => hs.blk_ne I.res h1 (h ▸ hg), fun h => hs.blk_ne I.conf h2 (h ▸ hg), fun h => hs.blk_ne I.scr h1 (h ▸ hg)⟩
theorem RefI.lts {w w1 : World} {q p : Nat} {b : List Int} {ls : List (List C3)} {kv pv : Value} {vals : List Value} (I : RefI w w1 q p b ls kv pv vals) :
    (w.heap.size < w1.heap.size ∧ q < w1.heap.size ∧ p < w1.heap.size) ∧ (∀ g, kv.ownBlock = some g → g < w1.heap.size) ∧ (∀ x ∈ vals, ∀ g, x.ownBlock = some g → g < w1.heap.size) := by
  refine ⟨⟨I.res.lt, I.conf.lt, I.scr.lt⟩, I.calls.out.lt, fun x hx g hg => ?_⟩
  obtain ⟨i, hi, rfl⟩ := List.mem_iff_getElem.1 hx
  obtain ⟨y, hy, hs⟩ := I.calls.at_ i (by rw [← I.calls.len]; exact hi)
  rw [List.getElem?_eq_getElem hi] at hy
  cases hy
  exact hs.lt g hg
set_option maxRecDepth 10000 in
theorem ref_parse_c {w : World} {v : Value} {b : List Int} (hv : Bts w v b) (hl : b.length ≤ 200000) : Fn Try.prog 22 #[v] w fun r w' => parseV w' b r ∧ Upd [] w w' := by
  obtain ⟨a, cap, rfl, hcap⟩ := hv.form
  refine fn_enter Try.func22 rfl rfl ?_
  refine al zS (fun _ => by kernel_rfl) fun w1 hb1 hu1 hs1 => ?_
  refine len_sl ?_
  refine cd (fun h7 => ?_) (fun h7 => ?_)
  · refine bd (scV K.zC (.slice none 0 0) (.slice none 0 0) (.slice none 0 0)) (fun _ => by kernel_rfl) ?_
    refine stw (hb1) rfl rfl rfl fun wz hbz huz hsz => ?_
    refine rlw hbz rfl ?_
    have hee := (show errS b = 9 by unfold errS; rw [if_pos (by omega)])
    refine ⟨?_, (hu1).step huz (by simp)⟩
    unfold parseV
    rw [if_neg (by rw [hee]; decide), hee]
    rfl
  obtain ⟨b0, o, cap0, he, -, -⟩ := hv.some_ (by omega)
  cases he
  have hcell : ∀ w', Upd [] w w' → ∀ i, i < b.length → w'.cell? ⟨b0, o + i * 1, none⟩ = some (.int .u8 (b.getD i 0)) := by
    intro w' hu i hi
    obtain ⟨b', o', c', he, -, hc⟩ := (hv.upd hu).some_ (by omega)
    cases he
    exact hc i hi
  refine draw_mix 30 [(0, true), (1, true), (2, true), (3, true), (4, true), (5, true), (6, true), (7, true), (8, true), (9, true), (10, true), (11, true), (12, true), (13, true), (14, true), (15, true), (16, true), (17, true), (18, true), (19, true), (20, true), (21, true), (22, true), (23, true), (24, true), (25, true), (26, true), (27, true), (28, true), (29, false)] (fun w' => ∀ i, i < b.length → w'.cell? ⟨b0, o + i * 1, none⟩ = some (.int .u8 (b.getD i 0))) (by decide +kernel) (hcell _ hu1.drew) ?_
  refine q_ix 0 rfl (by omega) ?_
  refine q_ld (v := .int .u8 (b.getD 0 0)) (fun _ h => h 0 (by omega)) ?_
  refine rq (.int .i64 (b.getD 0 0)) (fun _ _ => cv (ar64 (by have := hv.byte 0 (by omega); omega) ⟨rfl, rfl⟩)) ?_
  refine q_ix 1 rfl (by omega) ?_
  refine q_ld (v := .int .u8 (b.getD 1 0)) (fun _ h => h 1 (by omega)) ?_
  refine rq (.int .i64 (b.getD 1 0)) (fun _ _ => cv (ar64 (by have := hv.byte 1 (by omega); omega) ⟨rfl, rfl⟩)) ?_
  refine q_ix 2 rfl (by omega) ?_
  refine q_ld (v := .int .u8 (b.getD 2 0)) (fun _ h => h 2 (by omega)) ?_
  refine rq (.int .i64 (b.getD 2 0)) (fun _ _ => cv (ar64 (by have := hv.byte 2 (by omega); omega) ⟨rfl, rfl⟩)) ?_
  refine q_ix 3 rfl (by omega) ?_
  refine q_ld (v := .int .u8 (b.getD 3 0)) (fun _ h => h 3 (by omega)) ?_
  refine rq (.int .i64 (b.getD 3 0)) (fun _ _ => cv (ar64 (by have := hv.byte 3 (by omega); omega) ⟨rfl, rfl⟩)) ?_
  refine q_ix 4 rfl (by omega) ?_
  refine q_ld (v := .int .u8 (b.getD 4 0)) (fun _ h => h 4 (by omega)) ?_
  refine rq (.int .i64 (b.getD 4 0)) (fun _ _ => cv (ar64 (by have := hv.byte 4 (by omega); omega) ⟨rfl, rfl⟩)) ?_
  refine q_ix 5 rfl (by omega) ?_
  refine q_ld (v := .int .u8 (b.getD 5 0)) (fun _ h => h 5 (by omega)) ?_
  refine rq (.int .i64 (b.getD 5 0)) (fun _ _ => cv (ar64 (by have := hv.byte 5 (by omega); omega) ⟨rfl, rfl⟩)) ?_
  refine q_ix 6 rfl (by omega) ?_
  refine q_ld (v := .int .u8 (b.getD 6 0)) (fun _ h => h 6 (by omega)) ?_
  refine rq (.int .i64 (b.getD 6 0)) (fun _ _ => cv (ar64 (by have := hv.byte 6 (by omega); omega) ⟨rfl, rfl⟩)) ?_
  refine rq (.agg (K.cf7 (K.cfOf b))) (fun _ _ => bd _ (fun _ => by kernel_rfl) ⟨rfl, rfl⟩) ?_
  refine al (K.cf7 K.zC) (fun _ => by kernel_rfl) fun w2 hb2 hu2 hs2 => ?_
  refine ⟨hcell _ (hu1.drew.trans hu2), ?_⟩
  refine stw hb2 rfl (K.cf7_len _) (K.cf7_one _) fun w3 hb3 hu3 hs3 => ?_
  refine ldw hb3 (K.cf7_len _) ?_
  refine cl (K.right_c (K.cfOf b) _) ?_
  rintro _ w4 ⟨rfl, hu4⟩
  have hz1 : w1.drew.heap.size = w1.heap.size := rfl
  have hq1 : w.heap.size ≠ w1.drew.heap.size := by omega
  have hq2 : w.heap.size ≤ w1.drew.heap.size := by omega
  have hR := (((hb1.drew.upd hu2 (by simp)).upd hu3 (by simp; exact hq1)).upd hu4 (by simp))
  have hC := hb3.upd hu4 (by simp)
  have hU : Upd [] w w4 := ((hu1.drew.trans hu2).step hu3 (by simp; exact hq2)).trans hu4
  generalize w1.drew.heap.size = q at *
  refine cd (fun hc => ?_) (fun hc => ?_)
  · refine bd (scV K.zC (.slice none 0 0) (.slice none 0 0) (.slice none 0 0)) (fun _ => by kernel_rfl) ?_
    refine stw (hR) rfl rfl rfl fun wz hbz huz hsz => ?_
    refine rlw hbz rfl ?_
    have hee := (show errS b = 6 by unfold errS; rw [if_neg (by omega), if_pos hc])
    refine ⟨?_, (hU).step huz (by simp)⟩
    unfold parseV
    rw [if_neg (by rw [hee]; decide), hee]
    rfl
  have hc : K.rightC (K.cfOf b) := Classical.not_not.1 hc
  have e7 : errS b = if b.length < 8 then 9 else if 48 < cntB b then 10 else if b.length < atB b + 2 then 9 else if 60000 < numB b then 10 else if b.length < atB b + 2 + numB b then 9 else if 4096 < (restB b).length then 10 else 0 := by
    unfold errS; rw [if_neg (by omega), if_neg (fun hn => hn hc)]
  refine len_sl ?_
  refine cd (fun h8 => ?_) (fun h8 => ?_)
  · refine bd (scV K.zC (.slice none 0 0) (.slice none 0 0) (.slice none 0 0)) (fun _ => by kernel_rfl) ?_
    refine stw (hR) rfl rfl rfl fun wz hbz huz hsz => ?_
    refine rlw hbz rfl ?_
    have hee := (show errS b = 9 by rw [e7, if_pos (by omega)])
    refine ⟨?_, (hU).step huz (by simp)⟩
    unfold parseV
    rw [if_neg (by rw [hee]; decide), hee]
    rfl
  rw [if_neg (by omega)] at e7
  refine ix 7 rfl (by omega) ?_
  refine ld (hcell _ hU 7 (by omega)) ?_
  refine cv ?_
  have hy7 := hv.byte 7 (by omega)
  refine val (cntB b : Int) (by rw [IntWalk.i64_in _ (by omega)]; unfold cntB; omega) ?_
  refine cd (fun hn => ?_) (fun hn => ?_)
  · refine bd (scV K.zC (.slice none 0 0) (.slice none 0 0) (.slice none 0 0)) (fun _ => by kernel_rfl) ?_
    refine stw (hR) rfl rfl rfl fun wz hbz huz hsz => ?_
    refine rlw hbz rfl ?_
    have hee := (show errS b = 10 by rw [e7, if_pos (by omega)])
    refine ⟨?_, (hU).step huz (by simp)⟩
    unfold parseV
    rw [if_neg (by rw [hee]; decide), hee]
    rfl
  have hn : cntB b ≤ 48 := by omega
  rw [if_neg (by omega)] at e7
  refine ar64 (by omega) ?_
  refine val (atB b : Int) (by rw [IntWalk.i64_in _ (by omega)]; simp [atB]) ?_
  have hat : atB b = 8 + 10 * cntB b := rfl
  refine len_sl ?_
  refine ar64 (by omega) ?_
  refine cd (fun h2 => ?_) (fun h2 => ?_)
  · refine bd (scV K.zC (.slice none 0 0) (.slice none 0 0) (.slice none 0 0)) (fun _ => by kernel_rfl) ?_
    refine stw (hR) rfl rfl rfl fun wz hbz huz hsz => ?_
    refine rlw hbz rfl ?_
    have hee := (show errS b = 9 by rw [e7, if_pos (by omega)])
    refine ⟨?_, (hU).step huz (by simp)⟩
    unfold parseV
    rw [if_neg (by rw [hee]; decide), hee]
    rfl
  have h2 : atB b + 2 ≤ b.length := by omega
  rw [if_neg (by omega)] at e7
  refine ldw hC (K.cf7_len _) ?_
  refine bd _ (build_sc _) ?_
  refine al zS (fun _ => by kernel_rfl) fun w5 hb5 hu5 hs5 => ?_
  refine stw hb5 rfl rfl rfl fun w6 hb6 hu6 hs6 => ?_
  have hz4 := hU.size
  have hqlt := hC.lt
  have hR6 := (hR.upd hu5 (by simp)).upd hu6 (by simp; have := hR.lt; omega)
  have hC6 := (hC.upd hu5 (by simp)).upd hu6 (by simp; omega)
  have hU6 : Upd [] w w6 := (hU.trans hu5).step hu6 (by simp; omega)
  have hpq : q ≠ w4.heap.size := by omega
  have hpr : w.heap.size ≠ w4.heap.size := by have := hR.lt; omega
  have hpn : w.heap.size ≤ w4.heap.size := by omega
  have hz56 : w6.heap.size = w4.heap.size + 1 := by omega
  generalize w4.heap.size = p at *
  have hT0 : 1 ≤ (K.cfOf b).T ∧ (K.cfOf b).T ≤ 6 := by
    obtain ⟨⟨h0, h1, -⟩, -⟩ := hc
    exact h1
  obtain ⟨T, hT⟩ : ∃ T : Nat, (K.cfOf b).T = (T : Int) := ⟨_, (Int.toNat_of_nonneg (by omega)).symm⟩
  have hTn : (K.cfOf b).T.toNat = T := by omega
  have hgd : ∀ k, (b.drop 8).getD k 0 = b.getD (8 + k) 0 := fun k => by simp [List.getD]
  have I6 : RefI w w6 q p b (lsUp (b.drop 8) (K.cfOf b).T (cntB b) 0) (.slice none 0 0) (.slice none 0 0) [] := ⟨hR6, hC6, hb6, ⟨Sl.nil_ _ _ _, fun i hi => by simp at hi, fun i j x y g _ hx => by simp at hx⟩, hU6, hpq, hpr, hpn, by simp [Value.ownBlock]⟩
  refine loop_rule [0, 2, 4, 5, 6, 7] [8] (fun vs w' m => ∃ (i : Nat) (kv : Value) (vals : List Value), vs = [.int .i64 i] ∧ i ≤ T ∧ m = T - i ∧ RefI w w' q p b (lsUp (b.drop 8) (K.cfOf b).T (cntB b) i) kv (.slice none 0 0) vals) rfl [.int .i64 0] T rfl
    ⟨0, _, _, rfl, by omega, rfl, I6⟩ ?_
  rintro _ w7 m ⟨i, kv, vals, rfl, hi, rfl, I⟩
  refine fa ?_
  refine ldb I.conf (v := .int .i64 (K.cfOf b).T) rfl ?_
  refine cd (fun hlt => ?_) (fun hlt => ?_)
  · have hlt : i < T := by omega
    obtain ⟨hB, hBk, hBv⟩ := I.lts
    refine loop_rule [0, 2, 4, 5, 6, 7, 8] [9, 10] (fun vs w' m => ∃ (j : Nat) (lv : Value), vs = [lv, .int .i64 j] ∧ j ≤ cntB b ∧ m = cntB b - j ∧ RefI w w' q p b (lsUp (b.drop 8) (K.cfOf b).T (cntB b) i) kv (.slice none 0 0) vals ∧
        Sl w' 43 3 lv (callsOf (b.drop 8) (K.cfOf b).T j i).length (cellsC (callsOf (b.drop 8) (K.cfOf b).T j i)) ∧ (∀ g, lv.ownBlock = some g → w7.heap.size ≤ g) ∧ w7.heap.size ≤ w'.heap.size) rfl [.slice none 0 0, .int .i64 0] (cntB b) rfl
      ⟨0, _, rfl, by omega, rfl, I, Sl.nil_ _ _ _, by simp [Value.ownBlock], Nat.le_refl _⟩ ?_
    rintro _ w8 m ⟨j, lv, rfl, hj, rfl, I8, hs8, hf8, hz8⟩
    refine cd (fun hlj => ?_) (fun hlj => ?_)
    · have hlj : j < cntB b := by omega
      refine draw_all (fun w' => w' = w8.drew) (by decide +kernel) rfl ?_
      refine q_ar64 (by omega) ?_
      refine q_ar64 (by omega) ?_
      refine q_ix (8 + 10 * j) (by omega) (by omega) ?_
      refine q_ld (v := .int .u8 (b.getD (8 + 10 * j) 0)) (by rintro _ rfl; exact hcell _ I8.drew.up _ (by omega)) ?_
      have hyj := hv.byte (8 + 10 * j) (by omega)
      refine rq (.int .i64 (b.getD (8 + 10 * j) 0)) (fun _ _ => cv (ar64 (by omega) ⟨rfl, rfl⟩)) ?_
      refine q_fa ?_
      refine q_ld (v := .int .i64 (K.cfOf b).T) (by rintro _ rfl; exact I8.drew.conf.cell 1) ?_
      refine rq (.int .i64 ((b.getD (8 + 10 * j) 0).tmod (K.cfOf b).T)) (fun _ _ => rm (by omega) (val _ rfl ⟨rfl, rfl⟩)) ?_
      rintro _ rfl
      have I9 := I8.drew
      have hs9 := hs8.upd (Upd.refl [] w8).drew (by simp)
      have hz9 : w7.heap.size ≤ w8.drew.heap.size := hz8
      generalize w8.drew = w9 at *
      have hcs := callsOf_succ (b.drop 8) (K.cfOf b).T j i
      rw [hgd] at hcs
      refine cd (fun heq => ?_) (fun heq => ?_)
      · rw [if_pos heq] at hcs
        refine ar64 (by omega) ?_
        refine ar64 (by omega) ?_
        refine ar64 (by omega) ?_
        refine ar64 (by omega) ?_
        refine sl_lohi (9 + 10 * j) (18 + 10 * j) (by omega) (by omega) (by omega) (by omega) ?_
        have hsub := hv.rdk.sub (9 + 10 * j) (18 + 10 * j) (by omega) (by omega)
        have hbt : Bts w9 _ _ := (hsub.upd0 I9.up).bts (by simp; omega) (fun x hx => hv.bytes_ x (List.mem_of_mem_drop (List.mem_of_mem_take hx)))
        refine cl (rdecode_c _ _ w9 hbt) ?_
        rintro _ w10 ⟨rfl, hu10⟩
        have hd : decR (((b.drop 8).drop (10 * j + 1)).take 9) = decR ((b.drop (9 + 10 * j)).take (18 + 10 * j - (9 + 10 * j))) := by
          rw [List.drop_drop, show 8 + (10 * j + 1) = 9 + 10 * j by omega, show 18 + 10 * j - (9 + 10 * j) = 9 by omega]
        rw [hd] at hcs
        generalize decR ((b.drop (9 + 10 * j)).take (18 + 10 * j - (9 + 10 * j))) = d at *
        refine bs (c3 d.1 d.2.1 d.2.2) (fun _ => by kernel_rfl) fun w11 hb11 hu11 hs11 => ?_
        have hle := callsOf_len (b.drop 8) (K.cfOf b).T j i
        refine apg ((hs9.upd hu10 (by simp)).upd hu11 (by simp)) hb11 rfl rfl (by decide) (by simp only [maxLen]; omega) (by omega) fun lv2 w12 hs12 hG12 => ?_
        have hz10 := hu10.size
        have hz12 := hG12.up.size
        refine ar64 (by omega) ?_
        refine round_mk [lv2, .int .i64 ((j + 1 : Nat) : Int)] (cntB b - (j + 1)) rfl rfl ⟨j + 1, lv2, rfl, by omega, rfl, ((I9.upd0 hu10).upd0 hu11).step hB hBk hBv hG12.up (fun g hg => hf8 g (by simpa using hg)), ?_, ?_, by omega⟩ (by omega)
        · rw [hcs, cellsC_app, List.length_append]; exact hs12
        · intro g hg
          rcases hG12.own g hg with h | h
          · exact hf8 g h
          · omega
      · rw [if_neg heq, List.append_nil] at hcs
        refine ar64 (by omega) ?_
        refine round_mk [lv, .int .i64 ((j + 1 : Nat) : Int)] (cntB b - (j + 1)) rfl rfl ⟨j + 1, lv, rfl, by omega, rfl, I9, by rw [hcs]; exact hs9, hf8, hz9⟩ (by omega)
    · have hj : j = cntB b := by omega
      subst hj
      obtain ⟨la, lc, hlv, -⟩ := hs8.form
      refine fa ?_
      refine ldb I8.scr (v := kv) rfl ?_
      refine bs #[lv] (fun _ => by subst hlv; kernel_rfl) fun w9 hb9 hu9 hs9 => ?_
      have I9 := I8.upd0 hu9
      refine apg I9.calls.out hb9 rfl (by subst hlv; rfl) (by decide) (by simp only [maxLen, lsUp_len]; omega) (by simp only [lsUp_len]; omega) fun kv2 w10 hs10 hG10 => ?_
      have hC10 := I9.calls.push (hs8.upd hu9 (by simp)) (fun y hy g hg hg2 => by have h1 := hBv y hy g hg; have h2 := hf8 g hg2; omega) hG10 hs10
      rw [← lsUp_succ] at hC10
      obtain ⟨ka, kc, rfl, -⟩ := hs10.form
      have hoff := I9.off I9.calls.out (by decide) (by decide) I9.kvn
      refine fa ?_
      refine st (hG10.blk I9.scr (fun h => (hoff _ h).2.2.2 rfl)) (by show 0 + 7 < 10; omega) rfl fun w11 hb11 hu11 hs11 => ?_
      refine ar64 (by omega) ?_
      refine round_mk [.int .i64 ((i + 1 : Nat) : Int)] (T - (i + 1)) rfl rfl ⟨i + 1, _, _, rfl, by omega, rfl, I9.put hG10 hoff hb11 hu11 hC10 (fun g hg => ?_)⟩ (by omega)
      rcases hG10.own g hg with h | h
      · exact I9.kvn g h
      · have := I9.up.size; omega
  have hi : i = T := by omega
  subst hi
  have hls : lsUp (b.drop 8) (K.cfOf b).T (cntB b) i = lsB b := by unfold lsB callsUp lsUp; rw [hTn]
  rw [hls] at I
  have hya := hv.byte (atB b) (by omega)
  have hya1 := hv.byte (atB b + 1) (by omega)
  have hnB : (numB b : Int) = b.getD (atB b) 0 + 256 * b.getD (atB b + 1) 0 := by unfold numB; omega
  refine draw_all (fun w' => w' = w7.drew) (by decide +kernel) rfl ?_
  refine q_ix (atB b) rfl (by omega) ?_
  refine q_ld (v := .int .u8 (b.getD (atB b) 0)) (by rintro _ rfl; exact hcell _ I.drew.up _ (by omega)) ?_
  refine rq (.int .i64 (b.getD (atB b) 0)) (fun _ _ => cv (ar64 (by omega) ⟨rfl, rfl⟩)) ?_
  refine q_ar64 (by omega) ?_
  refine q_ix (atB b + 1) (by omega) (by omega) ?_
  refine q_ld (v := .int .u8 (b.getD (atB b + 1) 0)) (by rintro _ rfl; exact hcell _ I.drew.up _ (by omega)) ?_
  refine rq (.int .i64 (b.getD (atB b + 1) 0)) (fun _ _ => cv (ar64 (by omega) ⟨rfl, rfl⟩)) ?_
  refine q_ar64 (by omega) ?_
  refine q_val (numB b : Int) (by rw [IntWalk.i64_in _ (by omega), hnB]) ?_
  rintro _ rfl
  have I := I.drew
  generalize w7.drew = w7 at *
  have hn64 : numB b ≤ 65535 := by omega
  refine cd (fun h60 => ?_) (fun h60 => ?_)
  · refine bd (scV K.zC (.slice none 0 0) (.slice none 0 0) (.slice none 0 0)) (fun _ => by kernel_rfl) ?_
    refine stw (I.res) rfl rfl rfl fun wz hbz huz hsz => ?_
    refine rlw hbz rfl ?_
    have hee := (show errS b = 10 by rw [e7, if_pos (by omega)])
    refine ⟨?_, (I.up).step huz (by simp)⟩
    unfold parseV
    rw [if_neg (by rw [hee]; decide), hee]
    rfl
  rw [if_neg (by omega)] at e7
  refine ar64 (by omega) ?_
  refine len_sl ?_
  refine ar64 (by omega) ?_
  refine cd (fun h3 => ?_) (fun h3 => ?_)
  · refine bd (scV K.zC (.slice none 0 0) (.slice none 0 0) (.slice none 0 0)) (fun _ => by kernel_rfl) ?_
    refine stw (I.res) rfl rfl rfl fun wz hbz huz hsz => ?_
    refine rlw hbz rfl ?_
    have hee := (show errS b = 9 by rw [e7, if_pos (by omega)])
    refine ⟨?_, (I.up).step huz (by simp)⟩
    unfold parseV
    rw [if_neg (by rw [hee]; decide), hee]
    rfl
  rw [if_neg (by omega)] at e7
  have h3 : atB b + 2 + numB b ≤ b.length := by omega
  have hpsB : psB b = modL ((b.drop (atB b + 2)).take (numB b)) (K.cfOf b).T := rfl
  have htkl : ((b.drop (atB b + 2)).take (numB b)).length = numB b := by simp; omega
  have htkg : ∀ j, j < numB b → ((b.drop (atB b + 2)).take (numB b)).getD j 0 = b.getD (atB b + 2 + j) 0 := fun j hj => by simp [List.getD, hj]
  generalize (b.drop (atB b + 2)).take (numB b) = tk at *
  refine loop_rule [0, 2, 4, 6, 7, 11] [12] (fun vs w' m => ∃ (j : Nat) (pv : Value), vs = [.int .i64 j] ∧ j ≤ numB b ∧ m = numB b - j ∧ RefI w w' q p b (lsB b) kv pv vals ∧
      Sl w' 3 1 pv j ((modL (tk.take j) (K.cfOf b).T).map (.int .i64)) ∧ (∀ g, pv.ownBlock = some g → w.heap.size ≤ g)) rfl [.int .i64 0] (numB b) rfl
    ⟨0, _, rfl, by omega, rfl, I, Sl.nil_ _ _ _, by simp [Value.ownBlock]⟩ ?_
  rintro _ w8 m ⟨j, pv, rfl, hj, rfl, I8, hs8, hf8⟩
  refine cd (fun hlj => ?_) (fun hlj => ?_)
  · have hlj : j < numB b := by omega
    have hyj := hv.byte (atB b + 2 + j) (by omega)
    refine draw_mix 14 [(0, true), (1, true), (2, true), (3, true), (4, true), (5, true), (6, true), (7, true), (8, true), (9, true), (10, true), (11, true), (12, false), (13, false)]
      (fun w' => w'.cell? ⟨p, 0 + 8, none⟩ = some pv ∧ w'.cell? ⟨b0, o + (atB b + 2 + j) * 1, none⟩ = some (.int .u8 (b.getD (atB b + 2 + j) 0)) ∧ w'.cell? ⟨q, 0 + 1, none⟩ = some (.int .i64 (K.cfOf b).T)) (by decide +kernel)
      ⟨I8.drew.scr.cell 8, hcell _ I8.drew.up _ (by omega), I8.drew.conf.cell 1⟩ ?_
    refine q_fa ?_
    refine q_ld (fun _ h => h.1) ?_
    refine q_ar64 (by omega) ?_
    refine q_ix (atB b + 2 + j) (by omega) (by omega) ?_
    refine q_ld (fun _ h => h.2.1) ?_
    refine rq (.int .i64 (b.getD (atB b + 2 + j) 0)) (fun _ _ => cv (ar64 (by omega) ⟨rfl, rfl⟩)) ?_
    refine q_fa ?_
    refine q_ld (fun _ h => h.2.2) ?_
    refine rq (.int .i64 ((b.getD (atB b + 2 + j) 0).tmod (K.cfOf b).T)) (fun _ _ => rm (by omega) (val _ rfl ⟨rfl, rfl⟩)) ?_
    have I9 := I8.drew
    have hs9 := hs8.upd (Upd.refl [] w8).drew (by simp)
    generalize w8.drew = w9 at *
    refine bs #[.int .i64 ((b.getD (atB b + 2 + j) 0).tmod (K.cfOf b).T)] (fun _ => by kernel_rfl) fun w10 hb10 hu10 hs10 => ?_
    have I10 := I9.upd0 hu10
    refine ⟨⟨I10.scr.cell 8, hcell _ I10.up _ (by omega), I10.conf.cell 1⟩, ?_⟩
    have hs10' := hs9.upd hu10 (by simp)
    refine apg hs10' hb10 rfl rfl (by decide) (by simp only [maxLen]; omega) (by omega) fun pv2 w11 hs11 hG11 => ?_
    have hoff := I10.off hs10' (by decide) (by decide) hf8
    have hscr := hG11.blk I10.scr (fun h => (hoff _ h).2.2.2 rfl)
    refine ⟨⟨hscr.cell 8, hcell _ (I10.up.step hG11.up (fun g hg => .inr (hf8 g (by simpa using hg)))) _ (by omega), (hG11.blk I10.conf (fun h => (hoff _ h).2.2.1 rfl)).cell 1⟩, ?_⟩
    refine fa ?_
    obtain ⟨pa, pc, rfl, -⟩ := hs11.form
    refine st hscr (by show 0 + 8 < 10; omega) rfl fun w12 hb12 hu12 hs12 => ?_
    refine ar64 (by omega) ?_
    refine round_mk [.int .i64 ((j + 1 : Nat) : Int)] (numB b - (j + 1)) rfl rfl ⟨j + 1, _, rfl, by omega, rfl, I10.put hG11 hoff hb12 hu12 (I10.calls.grow hs10' (by decide) (by decide) hG11) I10.kvn, ?_, ?_⟩ (by omega)
    · rw [getD_take tk j (by omega), htkg j hlj]
      have := hs11.farT hscr (by decide) hu12
      simpa [modL] using this
    · intro g hg
      rcases hG11.own g hg with h | h
      · exact hf8 g h
      · have := I10.up.size; omega
  have hj : j = numB b := by omega
  subst hj
  refine draw_tail 7 (by decide +kernel) ?_
  refine q_fa ?_
  refine q_ld (v := .slice none 0 0) (by rintro _ rfl; exact I8.drew.scr.cell 9) ?_
  refine q_ar64 (by omega) ?_
  refine rq _ (fun _ _ => sl_lo (atB b + 2 + numB b) (by omega) (by omega) ⟨rfl, rfl⟩) ?_
  have hrd := (hv.rdk.cut (atB b + 2 + numB b) h3).upd0 I8.drew.up
  have hrl : (b.drop (atB b + 2 + numB b)).length ≤ 200000 := by simp; omega
  have I9 := I8.drew
  have hs9 := hs8.upd (Upd.refl [] w8).drew (by simp)
  generalize w8.drew = w9 at *
  refine apx (Sl.nil_ w9 5 1) hrd.rd one_ints (by simp only [maxLen]; omega) (by omega) fun dv w10 hs10 hG10 => ?_
  have hn10 := (hG10.new rfl).1
  have I10 := I9.upd0 hn10
  obtain ⟨da, dc, rfl, -⟩ := hs10.form
  refine fa ?_
  refine st I10.scr (by show 0 + 9 < 10; omega) rfl fun w11 hb11 hu11 hs11 => ?_
  refine fa ?_
  refine ldb hb11 rfl ?_
  refine len_sl ?_
  have hR11 := I10.res.upd hu11 (by simp; exact hpr)
  have hU11 := I10.up.step hu11 (by simpa using hpn)
  have hrb : (restB b).length = (b.drop (atB b + 2 + numB b)).length := rfl
  refine cd (fun h4 => ?_) (fun h4 => ?_)
  · refine bd (scV K.zC (.slice none 0 0) (.slice none 0 0) (.slice none 0 0)) (fun _ => by kernel_rfl) ?_
    refine stw (hR11) rfl rfl rfl fun wz hbz huz hsz => ?_
    refine rlw hbz rfl ?_
    have hee := (show errS b = 10 by rw [e7, if_pos (by omega)])
    refine ⟨?_, (hU11).step huz (by simp)⟩
    unfold parseV
    rw [if_neg (by rw [hee]; decide), hee]
    rfl
  rw [if_neg (by omega)] at e7
  obtain ⟨ka, kc, rfl, -⟩ := I10.calls.out.form
  obtain ⟨qa, qc, rfl, -⟩ := hs9.form
  refine ldw hb11 rfl ?_
  refine stw hR11 rfl rfl rfl fun w12 hb12 hu12 hs12 => ?_
  refine rlw hb12 rfl ?_
  refine ⟨?_, hU11.step hu12 (by simp)⟩
  unfold parseV
  rw [if_pos e7]
  have htt : tk.take (numB b) = tk := List.take_of_length_le (by omega)
  rw [htt] at hs9
  have hp := ((hs9.upd hn10 (by simp)).farT I10.scr (by decide) hu11).farT hR11 (by decide) hu12
  have hd := (hs10.farT I10.scr (by decide) hu11).farT hR11 (by decide) hu12
  have hc12 := (I10.calls.far I10.scr (by decide) (by decide) hu11).far hR11 (by decide) (by decide) hu12
  exact ⟨_, rfl, ⟨_, _, _, _, rfl, hc12.rd, by rw [hpsB]; exact RdK.of_sl hp, RdK.of_sl (l := restB b) hd⟩⟩
end Go.Proofs.Ytejofmohpjffkaa
