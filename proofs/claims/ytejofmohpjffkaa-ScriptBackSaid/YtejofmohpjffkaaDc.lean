/- Contracts of the script's reader: its calls, its picks. -/
import Derived.Test.YtejofmohpjffkaaDb
namespace Go.Proofs.Ytejofmohpjffkaa
open Go.RowKit
attribute [local irreducible] Instr.loadAt Instr.storeAt Instr.fieldAt Instr.indexAt Instr.sliceAt Instr.buildSlice Instr.box Instr.alloc Builtin.append_ Builtin.len_ Builtin.min_ Builtin.max_ Calls Instr.build Instr.makeSlice binSem convert Instr.index Instr.range Instr.next

theorem tB_mem {bs : List Int} {e : Int} {n : Nat} (hr : ∀ x ∈ bs, 0 ≤ x ∧ x ≤ 255) : ∀ x ∈ tB bs e n, 0 ≤ x ∧ x ≤ 255 := by
  intro x hx
  unfold tB at hx
  split at hx
  · exact hr x hx
  · exact hr x (List.mem_of_mem_drop hx)
theorem tT_mem {bs : List Int} {e : Int} {n : Nat} (hr : ∀ x ∈ bs, 0 ≤ x ∧ x ≤ 255) : ∀ x ∈ tT bs e n, 0 ≤ x ∧ x ≤ 255 := by
  intro x hx
  unfold tT at hx
  split at hx
  · have := List.eq_of_mem_replicate hx; omega
  · exact hr x (List.mem_of_mem_take hx)
theorem t_ok {bs : List Int} {n : Nat} (h : n ≤ bs.length) : tE bs 0 n = 0 ∧ tB bs 0 n = bs.drop n ∧ tT bs 0 n = bs.take n := by
  have hg : ¬ badT bs 0 n := by unfold badT; rintro (h1 | h1); exact h1 rfl; omega
  exact ⟨if_neg hg, if_neg hg, if_neg hg⟩
theorem t_short {bs : List Int} {n : Nat} (h : bs.length < n) : tE bs 0 n = 9 ∧ tB bs 0 n = bs ∧ tT bs 0 n = List.replicate n 0 := by
  have hg : badT bs 0 n := .inr h
  exact ⟨by rw [tE, if_pos hg, if_pos rfl], if_pos hg, if_pos hg⟩
theorem t_err {bs : List Int} {n : Nat} {e : Int} (h : e ≠ 0) : tE bs e n = e ∧ tB bs e n = bs ∧ tT bs e n = List.replicate n 0 := by
  have hg : badT bs e n := .inl h
  exact ⟨by rw [tE, if_pos hg, if_neg h], if_pos hg, if_pos hg⟩
theorem two_ok {bs : List Int} (h : 10 ≤ bs.length) : tE (tB bs 0 1) (tE bs 0 1) 9 = 0 ∧ tB (tB bs 0 1) (tE bs 0 1) 9 = bs.drop 10 ∧ (tT bs 0 1).getD 0 0 = bs.getD 0 0 ∧ tT (tB bs 0 1) (tE bs 0 1) 9 = (bs.drop 1).take 9 := by
  obtain ⟨h1, h2, h3⟩ := t_ok (bs := bs) (n := 1) (by omega)
  obtain ⟨h4, h5, h6⟩ := t_ok (bs := bs.drop 1) (n := 9) (by simp; omega)
  rw [h1, h2, h3, h4, h5, h6]
  refine ⟨rfl, by rw [List.drop_drop], ?_, rfl⟩
  simp [List.getD]
theorem two_bad {bs : List Int} {e : Int} (h : e = 9 ∨ e = 0 ∧ bs.length < 10) : tE (tB bs e 1) (tE bs e 1) 9 = 9 := by
  rcases h with rfl | ⟨rfl, h⟩
  · have h1 := (t_err (bs := bs) (n := 1) (e := 9) (by decide)).1
    rw [h1]
    exact (t_err (by decide)).1
  · by_cases h1 : 1 ≤ bs.length
    · obtain ⟨h2, h3, -⟩ := t_ok h1
      rw [h2, h3]
      exact (t_short (by simp; omega)).1
    · rw [(t_short (by omega)).1, (t_err (by decide)).1]
theorem Rdr.drew {w0 w : World} {p : Nat} {bs : List Int} {e : Int} {c : K.Cf} {kv pv dv : Value} (h : Rdr w0 w p bs e c kv pv dv) : Rdr w0 w.drew p bs e c kv pv dv := h.upd (Upd.refl [] w).drew
theorem Rdr.blk {w0 w : World} {p : Nat} {bs : List Int} {e : Int} {c : K.Cf} {kv pv dv : Value} (h : Rdr w0 w p bs e c kv pv dv) : ∃ bv, Blk w p TR (rdrC bv e c kv pv dv) := let ⟨bv, h1, _⟩ := h.h; ⟨bv, h1⟩
theorem Rdr.thr {w0 w : World} {p : Nat} {bs : List Int} {e : Int} {c : K.Cf} {kv pv dv : Value} (h : Rdr w0 w p bs e c kv pv dv) : w.cell? ⟨p, 0 + 2 + 0 + 1, none⟩ = some (.int .i64 c.T) := let ⟨_, h1⟩ := h.blk; h1.cell 3
theorem Rdr.kvc {w0 w : World} {p : Nat} {bs : List Int} {e : Int} {c : K.Cf} {kv pv dv : Value} (h : Rdr w0 w p bs e c kv pv dv) : w.cell? ⟨p, 0 + 2 + 7, none⟩ = some kv := let ⟨_, h1⟩ := h.blk; h1.cell 9
theorem Rdr.pvc {w0 w : World} {p : Nat} {bs : List Int} {e : Int} {c : K.Cf} {kv pv dv : Value} (h : Rdr w0 w p bs e c kv pv dv) : w.cell? ⟨p, 0 + 2 + 8, none⟩ = some pv := let ⟨_, h1⟩ := h.blk; h1.cell 10
def numV1 (bs : List Int) : Int := (tT bs 0 1).getD 0 0
def e0S (bs : List Int) : Int := nE (numV1 bs) 48 (tE bs 0 1)
def nS (bs : List Int) : Nat := if e0S bs = 0 then (numV1 bs).toNat else 0
def CallsOut (bs : List Int) (T : Int) (bs' : List Int) (e' : Int) (ls : List (List C3)) : Prop :=
  (e' = e0S bs ∧ bs' = (tB bs 0 1).drop (10 * nS bs) ∧ 10 * nS bs ≤ (tB bs 0 1).length ∧ ls = callsUp (tB bs 0 1) T (nS bs)) ∨ (e0S bs = 0 ∧ e' = 9 ∧ (tB bs 0 1).length < 10 * nS bs)
structure CallsI (w0 w w' : World) (p : Nat) (bs0 : List Int) (e0 : Int) (c : K.Cf) (i : Nat) (bs : List Int) (e : Int) (kv : Value) (ls : List (List C3)) (vals : List Value) : Prop where
  r : Rdr w0 w' p bs e c kv (.slice none 0 0) (.slice none 0 0)
  s : CallsS w' kv ls vals
  len : ls.length = c.T.toNat
  by_ : ∀ x ∈ bs, 0 ≤ x ∧ x ≤ 255
  st : (e = e0 ∧ bs = bs0.drop (10 * i) ∧ 10 * i ≤ bs0.length ∧ ls = callsUp bs0 c.T i) ∨ (e0 = 0 ∧ e = 9 ∧ bs0.length < 10 * i)
  few : ∀ t, t < ls.length → (ls.getD t []).length ≤ i
  up : Upd [p] w w'
  kvn : ∀ g, kv.ownBlock = some g → w.heap.size ≤ g
  vn : ∀ x ∈ vals, ∀ g, x.ownBlock = some g → w.heap.size ≤ g
set_option maxRecDepth 100000 in
theorem calls_c {w0 w : World} {p : Nat} {bs : List Int} {c : K.Cf} (R : Rdr w0 w p bs 0 c (.slice none 0 0) (.slice none 0 0) (.slice none 0 0)) (hr : ∀ x ∈ bs, 0 ≤ x ∧ x ≤ 255) (hT : 1 ≤ c.T ∧ c.T ≤ 6) :
    Fn Try.prog 51 #[.pointer (some ⟨p, 0, none⟩)] w fun _ w' => ∃ bs' e' kv ls vals, Rdr w0 w' p bs' e' c kv (.slice none 0 0) (.slice none 0 0) ∧ CallsS w' kv ls vals ∧ (∀ x ∈ bs', 0 ≤ x ∧ x ≤ 255) ∧ CallsOut bs c.T bs' e' ls ∧ Upd [p] w w' := by
  obtain ⟨n, hn⟩ := Int.eq_ofNat_of_zero_le (show 0 ≤ c.T by omega)
  obtain ⟨bv, hb, hv⟩ := R.h
  refine fn_enter Try.func51 rfl rfl ?_
  refine fa ?_
  refine fa ?_
  refine fa ?_
  refine ldb hb rfl ?_
  refine mks n hn hn (by omega) (by omega) fun w1 hb1 hu1 hs1 => ?_
  refine fa ?_
  refine fa ?_
  refine st (hb.upd hu1 (by simp)) (by show 0 + 2 + 7 < 12; omega) rfl fun w2 hb2 hu2 hs2 => ?_
  have hb2 : Blk w2 p TR (rdrC bv 0 c (.slice (some ⟨w.heap.size, 0, none⟩) n n) (.slice none 0 0) (.slice none 0 0)) := hb2
  have hU2 : Upd [p] w w2 := (hu1.mono (by simp)).trans hu2
  have hp := R.new
  have R2 : Rdr w0 w2 p bs 0 c (.slice (some ⟨w.heap.size, 0, none⟩) n n) (.slice none 0 0) (.slice none 0 0) := ⟨⟨bv, hb2, hv⟩, R.up.step hU2 (by simpa using hp), hp⟩
  have hS1 : Sl w1 64 1 (.slice (some ⟨w.heap.size, 0, none⟩) n n) (List.replicate n ([] : List C3)).length (List.replicate n (.slice none 0 0)) := by
    have := Sl.lit (n := n) hb1 (by rw [made_row1]; simp) (by simp only [maxLen]; omega)
    rw [made_row1] at this
    rw [List.length_replicate]
    exact this
  have hC2 : CallsS w2 (.slice (some ⟨w.heap.size, 0, none⟩) n n) (List.replicate n []) (List.replicate n (.slice none 0 0)) := by
    have hC1 : CallsS w1 (.slice (some ⟨w.heap.size, 0, none⟩) n n) (List.replicate n []) (List.replicate n (.slice none 0 0)) := by
      refine ⟨hS1, fun i hi => ?_, fun i j x y g _ hx _ hg => ?_⟩
      · have hi : i < n := by simpa using hi
        refine ⟨.slice none 0 0, by simp [hi], ?_⟩
        have e : (List.replicate n ([] : List C3)).getD i [] = [] := by simp [List.getD, hi]
        rw [e]; exact Sl.nil_ _ _ _
      · have := List.eq_of_mem_replicate (List.mem_of_getElem? hx)
        subst this
        simp [Value.ownBlock] at hg
    exact hC1.far (hb.upd hu1 (by simp)) (by decide) (by decide) hu2
  refine fa ?_
  refine cl (num1_c R2 hr) ?_
  rintro _ w3 ⟨R3, rfl, hu3⟩
  have hC3 := hC2.far hb2 (by decide) (by decide) hu3
  have hU3 := hU2.trans hu3
  have hval : (if nE ((tT bs 0 1).getD 0 0) 48 (tE bs 0 1) = 0 then (tT bs 0 1).getD 0 0 else 0) = ((nS bs : Nat) : Int) := by
    unfold nS e0S numV1
    have := (tT_byte (e := 0) (n := 1) hr 0).1
    split <;> omega
  rw [hval]
  have hn48 : nS bs ≤ 48 := by
    unfold nS
    split
    · rename_i h0
      unfold e0S nE at h0
      split at h0
      · split at h0 <;> omega
      · omega
    · omega
  have hn0 : 0 < nS bs → e0S bs = 0 := by unfold nS; split <;> intro h <;> first | assumption | omega
  refine loop_rule [0, 17] [18] (fun vs w' m => ∃ (i : Nat) (b' : List Int) (e' : Int) (kv : Value) (ls : List (List C3)) (vals : List Value), vs = [.int .i64 i] ∧ i ≤ nS bs ∧ m = nS bs - i ∧ CallsI w0 w w' p (tB bs 0 1) (e0S bs) c i b' e' kv ls vals) rfl [.int .i64 0] (nS bs) rfl
    ⟨0, _, _, _, _, _, rfl, by omega, rfl, ⟨R3, hC3, by simp; omega, tB_mem hr, .inl ⟨rfl, rfl, by omega, by rw [callsUp_zero]; congr 1; omega⟩, fun t ht => by
      have ht : t < n := by simpa using ht
      simp [List.getD, ht], hU3, fun g hg => by
      have : w.heap.size = g := by simpa [Value.ownBlock] using hg
      omega, fun x hx g hg => by
      have := List.eq_of_mem_replicate hx
      subst this
      simp [Value.ownBlock] at hg⟩⟩ ?_
  rintro _ w4 m ⟨i, b4, e4, kv, ls, vals, rfl, hi, rfl, I⟩
  refine cd (fun hlt => ?_) (fun hlt => ?_)
  · have hlt : i < nS bs := by omega
    have he0 := hn0 (by omega)
    -- which thread
    refine draw_mix 13 [(0, true), (1, true), (2, true), (7, true), (8, true), (9, true), (10, true), (11, true), (12, true), (3, false), (4, false), (5, false), (6, false)] (fun w' => w'.cell? ⟨p, 0 + 2 + 0 + 1, none⟩ = some (.int .i64 c.T)) (by decide +kernel) I.r.drew.thr ?_
    refine q_fa ?_
    refine q_fa ?_
    refine q_fa ?_
    refine q_fa ?_
    refine q_ld (fun _ h => h) ?_
    refine cl (take_c I.r.drew 1 (by omega)) ?_
    rintro r w5 ⟨R5, hrd5, hu5⟩
    have hrd := hrd5 w5 (Upd.refl _ _)
    have hl5 := tT_len b4 e4 1
    have hby := tT_byte (n := 1) (e := e4) I.by_ 0
    refine ⟨R5.thr, ?_⟩
    obtain ⟨rb, ro, rc, rfl, -⟩ := hrd.some_ (by omega)
    refine ix 0 rfl (by omega) ?_
    refine ⟨R5.thr, ?_⟩
    refine ld (hrd.at_ rfl 0 (by omega)) ?_
    refine ⟨R5.thr, ?_⟩
    refine cv ?_
    refine ar64 (by omega) ?_
    refine ⟨R5.thr, ?_⟩
    refine rm (by omega) ?_
    obtain ⟨t, ht, htn⟩ : ∃ t : Nat, ((tT b4 e4 1).getD 0 0).tmod c.T = (t : Int) ∧ t < c.T.toNat := by
      have h1 := Int.tmod_nonneg c.T hby.1
      have h2 := Int.tmod_lt_of_pos ((tT b4 e4 1).getD 0 0) (show 0 < c.T by omega)
      exact ⟨_, (Int.toNat_of_nonneg h1).symm, by omega⟩
    refine val (t : Int) ht ?_
    -- one call
    obtain ⟨bv4, hb4⟩ := I.r.drew.blk
    have hud : Upd [] w4 w4.drew := (Upd.refl [] w4).drew
    have hS5 : CallsS w5 kv ls vals := (I.s.upd hud (by simp) (by simp)).far hb4 (by decide) (by decide) hu5
    have htl : t < ls.length := by rw [I.len]; exact htn
    obtain ⟨x, hx, hxs⟩ := hS5.at_ t htl
    obtain ⟨g, o, cap, rfl, hcap⟩ := hS5.out.some_ (by omega)
    obtain ⟨bv5, hb5⟩ := R5.drew.blk
    have hS5d : CallsS w5.drew (.slice (some ⟨g, o, none⟩) ls.length cap) ls vals := hS5.upd (Upd.refl [] w5).drew (by simp) (by simp)
    have hcx : ∀ w', CallsS w' (.slice (some ⟨g, o, none⟩) ls.length cap) ls vals → w'.cell? ⟨g, o + t * 1, none⟩ = some x := fun w' h => by
      rw [Nat.mul_one, (h.out.cells rfl t (by omega)).1]; exact hx
    refine draw_mix 21 [(0, true), (1, true), (2, true), (3, true), (4, true), (5, true), (6, true), (7, true), (8, true), (9, true), (10, true), (11, true), (12, true), (13, true), (14, true), (15, true), (16, true), (17, false), (18, false), (19, false), (20, false)]
      (fun w' => w'.cell? ⟨p, 0 + 2 + 7, none⟩ = some (.slice (some ⟨g, o, none⟩) ls.length cap) ∧ w'.cell? ⟨g, o + t * 1, none⟩ = some x) (by decide +kernel) ⟨R5.drew.kvc, hcx _ hS5d⟩ ?_
    refine q_fa ?_
    refine q_fa ?_
    refine q_ld (fun _ h => h.1) ?_
    refine q_fa ?_
    refine q_fa ?_
    refine q_ld (fun _ h => h.1) ?_
    refine q_ix t rfl htl ?_
    refine q_ld (fun _ h => h.2) ?_
    refine q_fa ?_
    refine cl (take_c R5.drew 9 (by omega)) ?_
    rintro r6 w6 ⟨R6, hrd6, hu6⟩
    have hS6 := hS5d.far hb5 (by decide) (by decide) hu6
    refine ⟨⟨R6.kvc, hcx _ hS6⟩, ?_⟩
    have hl6 := tT_len (tB b4 e4 1) (tE b4 e4 1) 9
    have hbt : Bts w6 r6 (tT (tB b4 e4 1) (tE b4 e4 1) 9) := (hrd6 w6 (Upd.refl _ _)).bts (by omega) (tT_mem (tB_mem I.by_))
    refine cl (decode_c r6 _ w6 hbt) ?_
    rintro _ w7 ⟨rfl, hu7⟩
    have R7 := R6.upd hu7
    have hS7 := hS6.upd hu7 (by simp) (by simp)
    refine ⟨⟨R7.kvc, hcx _ hS7⟩, ?_⟩
    generalize hd : decR (tT (tB b4 e4 1) (tE b4 e4 1) 9) = d
    refine Go.Proofs.Ytejofmohpjffkaa.bs (c3 d.1 d.2.1 d.2.2) (fun _ => by kernel_rfl) fun w8 hb8 hu8 hs8 => ?_
    have R8 := R7.upd hu8
    have hS8 := hS7.upd hu8 (by simp) (by simp)
    refine ⟨⟨R8.kvc, hcx _ hS8⟩, ?_⟩
    obtain ⟨x8, hx8, hxs8⟩ := hS8.at_ t htl
    rw [hx] at hx8; cases hx8
    have hfew := I.few t htl
    refine apg hxs8 hb8 rfl rfl (by decide) (by simp only [maxLen]; omega) (by omega) fun x9 w9 hx9 hG9 => ?_
    have hx9 : Sl w9 43 3 x9 (ls.getD t [] ++ [d]).length (cellsC (ls.getD t [] ++ [d])) := by
      rw [cellsC_app, List.length_append]; exact hx9
    obtain ⟨bv8, hb8r⟩ := R8.blk
    have hpx : x.ownBlock ≠ some p := hxs8.blk_ne hb8r (by decide)
    have R9 : Rdr w0 w9 p (tB (tB b4 e4 1) (tE b4 e4 1) 9) (tE (tB b4 e4 1) (tE b4 e4 1) 9) c (.slice (some ⟨g, o, none⟩) ls.length cap) (.slice none 0 0) (.slice none 0 0) := by
      obtain ⟨bv', h1, h2⟩ := R8.h
      have hvn := I.vn x (List.mem_of_getElem? hx)
      have hsz := R.up.size
      exact ⟨⟨bv', hG9.blk h1 hpx, h2⟩, R8.up.step hG9.up (fun k hk => .inr (by have := hvn k (by simpa using hk); omega)), R8.new⟩
    have hS9 : Sl w9 64 1 (.slice (some ⟨g, o, none⟩) ls.length cap) ls.length vals := hS8.out.upd hG9.up (fun k hk hm => hS8.out.ne_ hxs8 (by decide) k hk (by simpa using hm))
    have hcx9 : w9.cell? ⟨g, o + t * 1, none⟩ = some x := by rw [Nat.mul_one, (hS9.cells rfl t (by omega)).1]; exact hx
    refine ⟨⟨R9.kvc, hcx9⟩, ?_⟩
    refine ix t rfl htl ?_
    obtain ⟨xa, xc, rfl, -⟩ := hx9.form
    refine stS hS9 rfl htl rfl fun w10 hs10 hu10 hz10 => ?_
    have hput := hS8.put htl hx hG9 hx9 rfl hs10 hu10
    have hgp : g ≠ p := fun he => hS8.out.blk_ne hb8r (by decide) (by rw [he]; rfl)
    have R10 : Rdr w0 w10 p (tB (tB b4 e4 1) (tE b4 e4 1) 9) (tE (tB b4 e4 1) (tE b4 e4 1) 9) c (.slice (some ⟨g, o, none⟩) ls.length cap) (.slice none 0 0) (.slice none 0 0) := by
      obtain ⟨bv', h1, h2⟩ := R9.h
      have hkn := I.kvn g rfl
      have hsz := R.up.size
      exact ⟨⟨bv', h1.upd hu10 (by simp; exact fun e => hgp e.symm), h2⟩, R9.up.step hu10 (by simp; omega), R9.new⟩
    refine ar64 (by omega) ?_
    have hkn := I.kvn g rfl
    have hvn := I.vn x (List.mem_of_getElem? hx)
    have hsz4 := I.up.size
    have hz5 := hu5.size
    have hz6 := hu6.size
    have hz7 := hu7.size
    have hz8 := hu8.size
    have hzd : w4.drew.heap.size = w4.heap.size := rfl
    have hzd5 : w5.drew.heap.size = w5.heap.size := rfl
    have hU10 : Upd [p] w w10 := by
      have h5 : Upd [p] w w5 := I.up.drew.trans hu5
      have h8 : Upd [p] w w8 := (((h5.drew).trans hu6).trans (hu7.mono (by simp))).trans (hu8.mono (by simp))
      exact (h8.step hG9.up (fun k hk => .inr (hvn k (by simpa using hk)))).step hu10 (by simp; exact .inr hkn)
    have hby3 := tB_mem (e := tE b4 e4 1) (n := 9) (tB_mem (e := e4) (n := 1) I.by_)
    refine round_mk [.int .i64 ((i + 1 : Nat) : Int)] (nS bs - (i + 1)) rfl rfl ⟨i + 1, _, _, _, _, _, rfl, by omega, rfl, ⟨R10, hput, by simp; exact I.len, hby3, ?_, ?_, hU10, I.kvn, ?_⟩⟩ (by omega)
    · have hst := I.st
      by_cases hlong : 10 * (i + 1) ≤ (tB bs 0 1).length
      · rcases hst with ⟨h1, h2, h3, h4⟩ | ⟨h1, h2, h3⟩
        · left
          have he4 : e4 = 0 := by rw [h1, he0]
          subst he4
          have hb10 : 10 ≤ b4.length := by rw [h2]; simp; omega
          obtain ⟨q1, q2, q3, q4⟩ := two_ok hb10
          rw [q3] at ht
          have hg0 : b4.getD 0 0 = (tB bs 0 1).getD (10 * i) 0 := by rw [h2]; simp [List.getD]
          rw [hg0] at ht
          refine ⟨by rw [q1, he0], by rw [q2, h2, List.drop_drop]; congr 1, hlong, ?_⟩
          have hd2 : d = decR (((tB bs 0 1).drop (10 * i + 1)).take 9) := by rw [← hd, q4, h2, List.drop_drop]
          rw [h4, hd2]
          exact callsUp_succ (tB bs 0 1) c.T i t ht htn
        · omega
      · right
        refine ⟨he0, two_bad ?_, by omega⟩
        rcases hst with ⟨h1, h2, h3, h4⟩ | ⟨h1, h2, h3⟩
        · right; exact ⟨by rw [h1, he0], by rw [h2]; simp; omega⟩
        · exact .inl h2
    · intro k hk
      rw [getD_set_ls ls t k _ htl]
      split
      · rw [List.length_append, List.length_singleton]; omega
      · rename_i hne
        have := I.few k (by simpa using hk); omega
    · intro y hy k hk
      rcases List.mem_or_eq_of_mem_set hy with h | h
      · exact I.vn y h k hk
      · subst h
        rcases hG9.own k hk with h1 | h1
        · exact hvn k h1
        · omega
  · have hi : i = nS bs := by omega
    subst hi
    exact ⟨b4, e4, kv, ls, vals, I.r, I.s, I.by_, I.st, I.up⟩
end Go.Proofs.Ytejofmohpjffkaa
