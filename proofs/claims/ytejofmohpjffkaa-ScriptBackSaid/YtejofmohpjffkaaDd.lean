/- Contracts of the script's reader: its picks, and the parsing whole. -/
import Derived.Test.YtejofmohpjffkaaDc
namespace Go.Proofs.Ytejofmohpjffkaa
open Go.RowKit
attribute [local irreducible] Instr.loadAt Instr.storeAt Instr.fieldAt Instr.indexAt Instr.sliceAt Instr.buildSlice Instr.box Instr.alloc Builtin.append_ Builtin.len_ Builtin.min_ Builtin.max_ Calls Instr.build Instr.makeSlice binSem convert Instr.index Instr.range Instr.next

def val2 (b : List Int) (e : Int) : Int := (tT b e 2).getD 0 0 + 256 * (tT b e 2).getD 1 0
def e1S (b : List Int) (e : Int) : Int := nE (val2 b e) 60000 (tE b e 2)
def mS (b : List Int) (e : Int) : Nat := if e1S b e = 0 then (val2 b e).toNat else 0
def takS (b : List Int) (e : Int) : List Int := tT (tB b e 2) (e1S b e) (mS b e)
def modL (l : List Int) (T : Int) : List Int := l.map fun x => x.tmod T
set_option maxRecDepth 100000 in
theorem picks_c {w0 w : World} {p : Nat} {b : List Int} {e : Int} {c : K.Cf} {kv : Value} (R : Rdr w0 w p b e c kv (.slice none 0 0) (.slice none 0 0)) (hr : ∀ x ∈ b, 0 ≤ x ∧ x ≤ 255) (hT : 1 ≤ c.T ∧ c.T ≤ 6) :
    Fn Try.prog 52 #[.pointer (some ⟨p, 0, none⟩)] w fun _ w' => ∃ pv, Rdr w0 w' p (tB (tB b e 2) (e1S b e) (mS b e)) (tE (tB b e 2) (e1S b e) (mS b e)) c kv pv (.slice none 0 0) ∧
      Sl w' 3 1 pv (takS b e).length ((modL (takS b e) c.T).map (.int .i64)) ∧ (∀ g, pv.ownBlock = some g → w.heap.size ≤ g) ∧ Upd [p] w w' := by
  refine fn_enter Try.func52 rfl rfl ?_
  refine draw_mixA [(0, true), (1, true), (2, true), (3, true), (4, true), (5, true), (9, true), (6, false), (7, false), (8, false)] (fun _ => True) (by decide +kernel) trivial ?_
  refine q_fa ?_
  refine q_fa ?_
  refine cl (num2_c R.drew hr) ?_
  rintro _ w1 ⟨R1, rfl, hu1⟩
  refine ⟨trivial, ?_⟩
  have hval : (if nE ((tT b e 2).getD 0 0 + 256 * (tT b e 2).getD 1 0) 60000 (tE b e 2) = 0 then (tT b e 2).getD 0 0 + 256 * (tT b e 2).getD 1 0 else 0) = ((mS b e : Nat) : Int) := by
    unfold mS e1S val2
    have h0 := (tT_byte (e := e) (n := 2) hr 0).1
    have h1 := (tT_byte (e := e) (n := 2) hr 1).1
    split <;> omega
  rw [hval]
  have hm : mS b e ≤ 60000 := by
    unfold mS
    split
    · rename_i h0
      unfold e1S nE at h0
      split at h0
      · split at h0 <;> omega
      · have h1 := (tT_byte (e := e) (n := 2) hr 0).1
        have h2 := (tT_byte (e := e) (n := 2) hr 1).1
        unfold val2 at *; omega
    · omega
  refine cl (take_c R1 (mS b e) (by omega)) ?_
  rintro r w2 ⟨R2, hrd, hu2⟩
  refine ⟨trivial, ?_⟩
  have hl := tT_len (tB b e 2) (e1S b e) (mS b e)
  have hby := tT_mem (e := e1S b e) (n := mS b e) (tB_mem (e := e) (n := 2) hr)
  have R2 : Rdr w0 w2 p (tB (tB b e 2) (e1S b e) (mS b e)) (tE (tB b e 2) (e1S b e) (mS b e)) c kv (.slice none 0 0) (.slice none 0 0) := R2
  have hrd : ∀ w'', Upd [p] w2 w'' → RdK w'' .u8 r (takS b e) := hrd
  have hl : (takS b e).length = mS b e := hl
  have hby : ∀ x ∈ takS b e, 0 ≤ x ∧ x ≤ 255 := hby
  generalize takS b e = tk at *
  generalize tB (tB b e 2) (e1S b e) (mS b e) = bb at *
  generalize tE (tB b e 2) (e1S b e) (mS b e) = ee at *
  have hU2 : Upd [p] w w2 := ((Upd.refl [p] w).drew.trans hu1).trans hu2
  obtain ⟨ra, rc, rfl, -⟩ := (hrd w2 (Upd.refl _ _)).form
  refine len_sl ?_
  refine ⟨trivial, ?_⟩
  refine loop_rule [0, 11, 12] [13] (fun vs w' m => ∃ (j : Nat) (pv : Value), vs = [.int .i64 j] ∧ j ≤ tk.length ∧ m = tk.length - j ∧ Rdr w0 w' p bb ee c kv pv (.slice none 0 0) ∧ Sl w' 3 1 pv j ((modL (tk.take j) c.T).map (.int .i64)) ∧ (∀ g, pv.ownBlock = some g → w2.heap.size ≤ g) ∧ Upd [p] w2 w') rfl [.int .i64 0] tk.length rfl
    ⟨0, _, rfl, by omega, rfl, R2, Sl.nil_ _ _ _, by simp [Value.ownBlock], Upd.refl _ _⟩ ?_
  rintro _ w3 m ⟨j, pv, rfl, hj, rfl, R3, hs3, hf3, hU3⟩
  refine cd (fun hlt => ?_) (fun hlt => ?_)
  · have hlt : j < tk.length := by omega
    obtain ⟨rb, ro, rc2, he, -⟩ := (hrd w3 hU3).some_ (by omega)
    cases he
    have hx := hby _ (getD_mem hlt)
    have htk := getD_take tk j hlt
    refine ix j rfl hlt ?_
    refine ld ((hrd w3 hU3).at_ rfl j hlt) ?_
    generalize tk.getD j 0 = x at *
    refine draw_mix 17 [(0, true), (1, true), (2, true), (3, true), (4, true), (5, true), (6, true), (7, true), (8, true), (9, true), (10, true), (11, true), (12, true), (13, true), (14, true), (15, false), (16, false)]
      (fun w' => w'.cell? ⟨p, 0 + 2 + 8, none⟩ = some pv ∧ w'.cell? ⟨p, 0 + 2 + 0 + 1, none⟩ = some (.int .i64 c.T)) (by decide +kernel) ⟨R3.drew.pvc, R3.drew.thr⟩ ?_
    refine q_fa ?_
    refine q_fa ?_
    refine q_ld (fun _ h => h.1) ?_
    refine rq (.int .i64 x) (fun _ _ => cv (ar64 (by omega) ⟨rfl, rfl⟩)) ?_
    refine q_fa ?_
    refine q_fa ?_
    refine q_fa ?_
    refine q_ld (fun _ h => h.2) ?_
    refine rq (.int .i64 (x.tmod c.T)) (fun _ _ => rm (by omega) (val _ rfl ⟨rfl, rfl⟩)) ?_
    refine bs #[.int .i64 (x.tmod c.T)] (fun _ => by kernel_rfl) fun w4 hb4 hu4 hs4 => ?_
    have R4 := R3.drew.upd hu4
    refine ⟨⟨R4.pvc, R4.thr⟩, ?_⟩
    obtain ⟨bv4, hb4r⟩ := R4.blk
    have hs4' := hs3.drew.upd hu4 (by simp)
    have hne := hs4'.blk_ne hb4r (by decide)
    refine apg hs4' hb4 rfl rfl (by decide) (by simp only [maxLen]; omega) (by omega) fun pv5 w5 hs5 hG5 => ?_
    have R5 : Rdr w0 w5 p bb ee c kv pv (.slice none 0 0) := by
      obtain ⟨bv', h1, h2⟩ := R4.h
      have hsz := R2.up.size
      exact ⟨⟨bv', hG5.blk h1 hne, h2⟩, R4.up.step hG5.up (fun k hk => .inr (by have := hf3 k (by simpa using hk); omega)), R4.new⟩
    refine ⟨⟨R5.pvc, R5.thr⟩, ?_⟩
    refine fa ?_
    refine fa ?_
    obtain ⟨bv5, hb5, hv5⟩ := R5.h
    obtain ⟨pa, pc, rfl, -⟩ := hs5.form
    refine st hb5 (by show 0 + 2 + 8 < 12; omega) rfl fun w6 hb6 hu6 hz6 => ?_
    have hb6 : Blk w6 p TR (rdrC bv5 ee c kv (.slice pa (j + 1) pc) (.slice none 0 0)) := hb6
    have hn5 : (Value.slice pa (j + 1) pc).ownBlock ≠ some p := hs5.blk_ne hb5 (by decide)
    have hz4 := hu4.size
    have hz3 := hU3.size
    have hzd : w3.drew.heap.size = w3.heap.size := rfl
    have hU6 : Upd [p] w2 w6 := ((hU3.drew.trans (hu4.mono (by simp))).step hG5.up (fun k hk => .inr (hf3 k (by simpa using hk)))).trans hu6
    have hz2 := R2.up.size
    refine ar64 (by omega) ?_
    refine round_mk [.int .i64 ((j + 1 : Nat) : Int)] (tk.length - (j + 1)) rfl rfl ⟨j + 1, .slice pa (j + 1) pc, rfl, by omega, rfl, ⟨⟨bv5, hb6, hv5⟩, R5.up.step hu6 (by simpa using R5.new), R5.new⟩, ?_, ?_, hU6⟩ (by omega)
    · have := hs5.upd hu6 (fun g hg => by simp; intro e; subst e; exact hn5 hg)
      rw [htk]
      simpa [modL] using this
    · intro g hg
      rcases hG5.own g hg with h | h
      · exact hf3 g h
      · omega
  · have hj : j = tk.length := by omega
    subst hj
    rw [List.take_length] at hs3
    refine ⟨pv, R3, hs3, fun g hg => ?_, hU2.trans hU3⟩
    have := hf3 g hg
    have := hU2.size
    omega

def e3S (b2 : List Int) (e2 : Int) : Int := if 4096 < b2.length then (if e2 = 0 then 10 else e2) else e2
/-- what all this comes to -/
theorem parse_fin {b : List Int} (h7 : 7 ≤ b.length) (hc : K.rightC (K.cfOf b)) (hr : ∀ x ∈ b, 0 ≤ x ∧ x ≤ 255) {b1 : List Int} {e1 : Int} {ls : List (List C3)} (h : CallsOut (b.drop 7) (K.cfOf b).T b1 e1 ls) :
    e3S (tB (tB b1 e1 2) (e1S b1 e1) (mS b1 e1)) (tE (tB b1 e1 2) (e1S b1 e1) (mS b1 e1)) = errS b ∧
    (errS b = 0 → tE (tB b1 e1 2) (e1S b1 e1) (mS b1 e1) = 0 ∧ ls = lsB b ∧ modL (takS b1 e1) (K.cfOf b).T = psB b ∧ tB (tB b1 e1 2) (e1S b1 e1) (mS b1 e1) = restB b) := by
  have nz : ∀ e : Int, e1 = e → e ≠ 0 → e3S (tB (tB b1 e1 2) (e1S b1 e1) (mS b1 e1)) (tE (tB b1 e1 2) (e1S b1 e1) (mS b1 e1)) = e := by
    intro e he hne
    subst he
    have h1 := t_err (bs := b1) (n := 2) hne
    have hv : val2 b1 e1 = 0 := by unfold val2; rw [h1.2.2]; rfl
    have h2 : e1S b1 e1 = e1 := by unfold e1S; rw [hv, h1.1]; rfl
    rw [h2, (t_err hne).1]
    unfold e3S
    split <;> first | rfl | exact if_neg hne
  have h7g : ∀ i, (b.drop 7).getD i 0 = b.getD (7 + i) 0 := fun i => by simp [List.getD]
  have hb7 : 0 ≤ b.getD 7 0 := by
    by_cases hl : 7 < b.length
    · exact (hr _ (getD_mem hl)).1
    · rw [List.getD_eq_getElem?_getD, List.getElem?_eq_none (by omega)]; simp
  have hbi : ∀ i, 0 ≤ b.getD i 0 := fun i => by
    by_cases hl : i < b.length
    · exact (hr _ (getD_mem hl)).1
    · rw [List.getD_eq_getElem?_getD, List.getElem?_eq_none (by omega)]; simp
  have e7 : errS b = if b.length < 8 then 9 else if 48 < cntB b then 10 else if b.length < atB b + 2 then 9 else if 60000 < numB b then 10 else if b.length < atB b + 2 + numB b then 9 else if 4096 < (restB b).length then 10 else 0 := by
    unfold errS; rw [if_neg (by omega), if_neg (fun hn => hn hc)]
  by_cases h8 : b.length < 8
  · have ht := t_short (bs := b.drop 7) (n := 1) (by simp; omega)
    have hv : numV1 (b.drop 7) = 0 := by unfold numV1; rw [ht.2.2]; rfl
    have he0 : e0S (b.drop 7) = 9 := by unfold e0S; rw [hv, ht.1]; rfl
    have he1 : e1 = 9 := by
      rcases h with ⟨h1, -⟩ | ⟨h1, -⟩
      · rw [h1, he0]
      · rw [he0] at h1; cases h1
    rw [if_pos h8] at e7
    exact ⟨by rw [nz 9 he1 (by decide), e7], fun h0 => by rw [e7] at h0; cases h0⟩
  rw [if_neg h8] at e7
  have ht := t_ok (bs := b.drop 7) (n := 1) (by simp; omega)
  have hv : numV1 (b.drop 7) = b.getD 7 0 := by
    unfold numV1; rw [ht.2.2]
    have := h7g 0
    simp [List.getD] at this ⊢
  have hcn : b.getD 7 0 = ((cntB b : Nat) : Int) := by unfold cntB; omega
  have he0 : e0S (b.drop 7) = if 48 < cntB b then 10 else 0 := by
    unfold e0S nE; rw [hv, ht.1, hcn]
    by_cases hc : 48 < cntB b
    · rw [if_pos (by omega), if_pos rfl, if_pos hc]
    · rw [if_neg (by omega), if_neg hc]
  by_cases hc48 : 48 < cntB b
  · rw [if_pos hc48] at he0 e7
    have he1 : e1 = 10 := by
      rcases h with ⟨h1, -⟩ | ⟨h1, -⟩
      · rw [h1, he0]
      · rw [he0] at h1; cases h1
    exact ⟨by rw [nz 10 he1 (by decide), e7], fun h0 => by rw [e7] at h0; cases h0⟩
  rw [if_neg hc48] at he0 e7
  have hn : nS (b.drop 7) = cntB b := by unfold nS; rw [if_pos he0, hv]; rfl
  have hd8 : tB (b.drop 7) 0 1 = b.drop 8 := by rw [ht.2.1, List.drop_drop]
  unfold CallsOut at h
  rw [hn, hd8, he0] at h
  have hatl : atB b = 8 + 10 * cntB b := rfl
  rcases h with ⟨rfl, hb1, hlen, hls⟩ | ⟨-, h9, hlen⟩
  rotate_left
  · have hs : b.length < atB b + 2 := by simp at hlen; omega
    rw [if_pos hs] at e7
    exact ⟨by rw [nz 9 h9 (by decide), e7], fun h0 => by rw [e7] at h0; cases h0⟩
  have hb1 : b1 = b.drop (atB b) := by rw [hb1, List.drop_drop, hatl]
  have hlen : atB b ≤ b.length := by simp at hlen; omega
  by_cases h2 : b.length < atB b + 2
  · rw [if_pos h2] at e7
    have ht2 := t_short (bs := b1) (n := 2) (by rw [hb1]; simp; omega)
    have hv2 : val2 b1 0 = 0 := by unfold val2; rw [ht2.2.2]; rfl
    have he9 : e1S b1 0 = 9 := by unfold e1S; rw [hv2, ht2.1]; rfl
    refine ⟨?_, fun h0 => by rw [e7] at h0; cases h0⟩
    rw [he9, (t_err (by decide)).1, e7]
    unfold e3S; split <;> rfl
  rw [if_neg h2] at e7
  have ht2 := t_ok (bs := b1) (n := 2) (by rw [hb1]; simp; omega)
  have hg : ∀ i, i < 2 → (b1.take 2).getD i 0 = b.getD (atB b + i) 0 := fun i hi => by rw [hb1]; simp [List.getD, hi]
  have hv2 : val2 b1 0 = ((numB b : Nat) : Int) := by
    unfold val2 numB
    rw [ht2.2.2, hg 0 (by omega), hg 1 (by omega)]
    have h1 := hbi (atB b); have h2 := hbi (atB b + 1)
    rw [Nat.add_zero]; omega
  have he1 : e1S b1 0 = if 60000 < numB b then 10 else 0 := by
    unfold e1S nE; rw [hv2, ht2.1]
    by_cases hc : 60000 < numB b
    · rw [if_pos (by omega), if_pos rfl, if_pos hc]
    · rw [if_neg (by omega), if_neg hc]
  by_cases h60 : 60000 < numB b
  · rw [if_pos h60] at he1 e7
    refine ⟨?_, fun h0 => by rw [e7] at h0; cases h0⟩
    rw [he1, (t_err (by decide)).1, e7]
    unfold e3S; split <;> rfl
  rw [if_neg h60] at he1 e7
  have hm : mS b1 0 = numB b := by unfold mS; rw [if_pos he1, hv2]; rfl
  have hb2 : tB b1 0 2 = b.drop (atB b + 2) := by rw [ht2.2.1, hb1, List.drop_drop]
  unfold takS
  rw [he1, hm, hb2]
  by_cases h3 : b.length < atB b + 2 + numB b
  · rw [if_pos h3] at e7
    have ht3 := t_short (bs := b.drop (atB b + 2)) (n := numB b) (by simp; omega)
    refine ⟨?_, fun h0 => by rw [e7] at h0; cases h0⟩
    rw [ht3.1, e7]
    unfold e3S; split <;> rfl
  rw [if_neg h3] at e7
  have ht3 := t_ok (bs := b.drop (atB b + 2)) (n := numB b) (by simp; omega)
  have hrest : (b.drop (atB b + 2)).drop (numB b) = restB b := by rw [List.drop_drop]; rfl
  rw [ht3.1, ht3.2.1, ht3.2.2, hrest]
  refine ⟨?_, fun _ => ⟨rfl, by rw [hls]; rfl, rfl, rfl⟩⟩
  rw [e7]
  unfold e3S
  split <;> rfl
end Go.Proofs.Ytejofmohpjffkaa
