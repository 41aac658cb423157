/- Contracts of the script's reader. -/
import Derived.Test.YtejofmohpjffkaaDa
import Derived.Test.YtejofmohpjffkaaV15
namespace Go.Proofs.Ytejofmohpjffkaa
open Go.RowKit
attribute [local irreducible] Instr.loadAt Instr.storeAt Instr.fieldAt Instr.indexAt Instr.sliceAt Instr.buildSlice Instr.box Instr.alloc Builtin.append_ Builtin.len_ Builtin.min_ Builtin.max_ Calls Instr.build Instr.makeSlice binSem convert Instr.index Instr.range Instr.next

section
variable {P : Program} {K : Value → World → Prop} {w : World}
theorem sl_him {t e n : Nat} [SlT P t e n] {a : Option Addr} {len cap : Nat} {k1 k2 : IntKind} {i1 i2 : Int} (j : Nat) (h1 : i1 = (j : Int)) (h2 : i2 = (j : Int)) (hj : j ≤ cap) (k : K (.slice a j j) w) :
    RunP P (Instr.sliceAt t (.slice a len cap) none (some (.int k1 i1)) (some (.int k2 i2))) K w := by
  subst h1; subst h2
  have h1 : (if j = 0 then a else a.map fun x => x.add 0) = a := by
    split
    · rfl
    · cases a <;> simp [Addr.add]
  refine rn (.slice a j j) w ?_ k
  simp [Instr.sliceAt, Instr.slice, Instr.sliceBounds, Instr.sliceBound, asIntOf, run_underlying (SlT.u (P := P) (t := t) (e := e) (n := n)), hj, SlT.size (P := P) (t := t) (e := e) (n := n), Addr.add]
theorem bor64 {t : Nat} {x y : Operand} {a b : Nat} (ha : a < 9223372036854775808) (hb : b < 9223372036854775808) (k : K (.int .i64 ((a ||| b : Nat) : Int)) w) : RunP P (binSem .or t x y (.int .i64 (a : Int)) (.int .i64 (b : Int))) K w :=
  rn _ _ (by
    have e : ((BitVec.ofInt 64 (a : Int) ||| BitVec.ofInt 64 (b : Int)).toNat) = a ||| b := by
      rw [BitVec.toNat_or, BitVec.toNat_ofInt, BitVec.toNat_ofInt]
      congr 1 <;> omega
    have hlt : a ||| b < 2 ^ 63 := Nat.or_lt_two_pow (by omega) (by omega)
    have e2 : IntKind.i64.wrap ((a ||| b : Nat) : Int) = ((a ||| b : Nat) : Int) := IntWalk.i64_in _ (by omega)
    simp only [binSem, eqGuard, binOp, Op.intBits]
    show (Sem.pure (Value.int IntKind.i64 (IntKind.i64.wrap ((BitVec.ofInt 64 (a : Int) ||| BitVec.ofInt 64 (b : Int)).toNat : Int)))).run P w = _
    rw [e, e2]
    rfl) k
end
theorem RdK.bts {w : World} {v : Value} {l : List Int} (h : RdK w .u8 v l) (hp : 0 < l.length) (hr : ∀ x ∈ l, 0 ≤ x ∧ x ≤ 255) : Bts w v l := by
  obtain ⟨a, cap, rfl, h1, h2, h5⟩ := h.h
  refine ⟨a, cap, rfl, h1, h2, fun ha => ?_, fun x hx => ?_, h5⟩
  · obtain ⟨b, o, hab, -⟩ := h5 hp
    rw [ha] at hab; cases hab
  · have := hr x hx
    simp only [Lit.wf]
    show (decide ((0 : Int) ≤ x) && decide (x ≤ (255 : Int))) = true
    rw [decide_eq_true this.1, decide_eq_true this.2]; rfl

def rdrC (bv : Value) (e : Int) (c : K.Cf) (kv pv dv : Value) : Array Value := #[bv, .int .i64 e, .int .i64 c.A, .int .i64 c.T, .int .i64 c.N, .int .i64 c.L, .int .i64 c.B, .int .i64 c.P, .int .i64 c.S, kv, pv, dv]
abbrev TR : Nat := 85
theorem fail_c {w : World} {p : Nat} {bv : Value} {e : Int} {c : K.Cf} {kv pv dv : Value} (hb : Blk w p TR (rdrC bv e c kv pv dv)) (x : Int) :
    Fn Try.prog 53 #[.pointer (some ⟨p, 0, none⟩), .int .i64 x] w fun _ w' => Blk w' p TR (rdrC bv (if e = 0 then x else e) c kv pv dv) ∧ Upd [p] w w' := by
  refine fn_enter Try.func53 rfl rfl ?_
  refine fa ?_
  refine ldb hb rfl ?_
  refine cd (fun h => ?_) (fun h => ?_)
  · refine fa ?_
    refine st hb (by show 0 + 1 < 12; omega) rfl fun w2 hb2 hu2 hs2 => ?_
    rw [if_pos h]
    have hb2 : Blk w2 p TR (rdrC bv x c kv pv dv) := hb2
    exact ⟨hb2, hu2⟩
  · rw [if_neg h]
    exact ⟨hb, Upd.refl _ _⟩
theorem getD_mem {l : List Int} {j : Nat} (h : j < l.length) : l.getD j 0 ∈ l := by simp [List.getD, h]
def badT (bs : List Int) (e : Int) (n : Nat) : Prop := e ≠ 0 ∨ bs.length < n
instance {bs : List Int} {e : Int} {n : Nat} : Decidable (badT bs e n) := by unfold badT; exact inferInstance
def tE (bs : List Int) (e : Int) (n : Nat) : Int := if badT bs e n then (if e = 0 then 9 else e) else e
def tB (bs : List Int) (e : Int) (n : Nat) : List Int := if badT bs e n then bs else bs.drop n
def tT (bs : List Int) (e : Int) (n : Nat) : List Int := if badT bs e n then List.replicate n 0 else bs.take n
theorem getD_rep (n i : Nat) : (List.replicate n (0 : Int)).getD i 0 = 0 := by
  by_cases h : i < n
  · simp [List.getD, h]
  · simp [List.getD, h]
theorem tT_byte {bs : List Int} {e : Int} {n : Nat} (hr : ∀ x ∈ bs, 0 ≤ x ∧ x ≤ 255) (i : Nat) : 0 ≤ (tT bs e n).getD i 0 ∧ (tT bs e n).getD i 0 ≤ 255 := by
  unfold tT
  split
  · rw [getD_rep]; omega
  · by_cases h : i < (bs.take n).length
    · have := hr ((bs.take n).getD i 0) (List.mem_of_mem_take (getD_mem h))
      exact this
    · rw [List.getD_eq_getElem?_getD, List.getElem?_eq_none (by omega)]; simp
theorem tT_len (bs : List Int) (e : Int) (n : Nat) : (tT bs e n).length = n := by
  unfold tT
  split
  · simp
  · rename_i h
    have : ¬ bs.length < n := fun h2 => h (.inr h2)
    simp; omega
/-- a reader in memory; its bytes were there at w0 -/
structure Rdr (w0 w : World) (p : Nat) (bs : List Int) (e : Int) (c : K.Cf) (kv pv dv : Value) : Prop where
  h : ∃ bv, Blk w p TR (rdrC bv e c kv pv dv) ∧ RdK w0 .u8 bv bs
  up : Upd [] w0 w
  new : w0.heap.size ≤ p
theorem Rdr.upd {w0 w w' : World} {p : Nat} {bs : List Int} {e : Int} {c : K.Cf} {kv pv dv : Value} (h : Rdr w0 w p bs e c kv pv dv) (hu : Upd [] w w') : Rdr w0 w' p bs e c kv pv dv :=
  let ⟨bv, h1, h2⟩ := h.h; ⟨⟨bv, h1.upd hu (by simp), h2⟩, h.up.trans hu, h.new⟩
set_option maxRecDepth 10000 in
theorem take_c {w0 w : World} {p : Nat} {bs : List Int} {e : Int} {c : K.Cf} {kv pv dv : Value} (R : Rdr w0 w p bs e c kv pv dv) (n : Nat) (hn : n ≤ 100000) :
    Fn Try.prog 64 #[.pointer (some ⟨p, 0, none⟩), .int .i64 n] w fun r w' => Rdr w0 w' p (tB bs e n) (tE bs e n) c kv pv dv ∧ (∀ w'', Upd [p] w' w'' → RdK w'' .u8 r (tT bs e n)) ∧ Upd [p] w w' := by
  obtain ⟨bv, hb, hv⟩ := R.h
  obtain ⟨a, cap, rfl, hcap, hmax⟩ := hv.form
  generalize hbv : Value.slice a bs.length cap = bv at hb
  refine fn_enter Try.func64 rfl rfl ?_
  refine fa ?_
  refine ldb hb rfl ?_
  refine cd (fun h => ?_) (fun h => ?_)
  · rw [hbv] at hv
    have hbad : badT bs e n := .inl h
    have eE : tE bs e n = if e = 0 then 9 else e := if_pos hbad
    have eB : tB bs e n = bs := if_pos hbad
    have eT : tT bs e n = List.replicate n 0 := if_pos hbad
    refine cl (fail_c hb 9) ?_
    rintro _ w2 ⟨hb2, hu2⟩
    refine mx2 ?_
    refine val (n : Int) (by split <;> omega) ?_
    refine mks n rfl rfl (by omega) (by omega) fun w3 hb3 hu3 hs3 => ?_
    have hpl := hb2.lt
    refine ⟨⟨⟨bv, by rw [eE]; exact hb2.upd hu3 (by simp), by rw [eB]; exact hv⟩, (R.up.step hu2 (by simpa using R.new)).trans hu3, R.new⟩, fun w4 hu4 => ?_, hu2.trans (hu3.mono (by simp))⟩
    rw [eT]
    have hrd : RdK w3 .u8 (.slice (some ⟨w2.heap.size, 0, none⟩) n n) (List.replicate n 0) := by
      refine RdK.of_sl (e := 5) (n := n) ?_
      have := Sl.lit (n := n) hb3 (by rw [made_row1]; simp) (by simp only [maxLen]; omega)
      rw [made_row1] at this
      simpa using this
    exact hrd.upd hu4 (fun g hg => by
      have : w2.heap.size = g := by simpa [Value.ownBlock] using hg
      simp; omega)
  refine fa ?_
  refine ldb hb rfl ?_
  subst hbv
  refine len_sl ?_
  refine cd (fun h2 => ?_) (fun h2 => ?_)
  · obtain ⟨bv, hbv⟩ : ∃ bv, bv = Value.slice a bs.length cap := ⟨_, rfl⟩
    rw [← hbv] at hb hv
    have hbad : badT bs e n := .inr (by omega)
    have eE : tE bs e n = if e = 0 then 9 else e := if_pos hbad
    have eB : tB bs e n = bs := if_pos hbad
    have eT : tT bs e n = List.replicate n 0 := if_pos hbad
    refine cl (fail_c hb 9) ?_
    rintro _ w2 ⟨hb2, hu2⟩
    refine mx2 ?_
    refine val (n : Int) (by split <;> omega) ?_
    refine mks n rfl rfl (by omega) (by omega) fun w3 hb3 hu3 hs3 => ?_
    have hpl := hb2.lt
    refine ⟨⟨⟨bv, by rw [eE]; exact hb2.upd hu3 (by simp), by rw [eB]; exact hv⟩, (R.up.step hu2 (by simpa using R.new)).trans hu3, R.new⟩, fun w4 hu4 => ?_, hu2.trans (hu3.mono (by simp))⟩
    rw [eT]
    have hrd : RdK w3 .u8 (.slice (some ⟨w2.heap.size, 0, none⟩) n n) (List.replicate n 0) := by
      refine RdK.of_sl (e := 5) (n := n) ?_
      have := Sl.lit (n := n) hb3 (by rw [made_row1]; simp) (by simp only [maxLen]; omega)
      rw [made_row1] at this
      simpa using this
    exact hrd.upd hu4 (fun g hg => by
      have : w2.heap.size = g := by simpa [Value.ownBlock] using hg
      simp; omega)
  have hgood : ¬ badT bs e n := by unfold badT; rintro (h3 | h3) <;> omega
  have eE : tE bs e n = e := if_neg hgood
  have eB : tB bs e n = bs.drop n := if_neg hgood
  have eT : tT bs e n = bs.take n := if_neg hgood
  refine fa ?_
  refine ldb hb rfl ?_
  refine sl_him n rfl rfl (by omega) ?_
  refine fa ?_
  refine ldb hb rfl ?_
  refine sl_lo n rfl (by omega) ?_
  refine fa ?_
  refine st hb (by show 0 + 0 < 12; omega) rfl fun w2 hb2 hu2 hs2 => ?_
  have hcut := hv.cut n (by omega)
  have hU := R.up.step hu2 (by simpa using R.new)
  refine ⟨⟨⟨_, ?_, by rw [eB]; exact hcut⟩, hU, R.new⟩, fun w4 hu4 => ?_, hu2⟩
  · have hb2 : Blk w2 p TR (rdrC _ e c kv pv dv) := hb2
    rw [eE]; exact hb2
  · rw [eT]
    refine RdK.upd0 ?_ (hU.step hu4 (by simpa using R.new))
    obtain ⟨a', cap', he, h1, h3, h5⟩ := hv.h
    cases he
    refine ⟨a, n, by rw [List.length_take, Nat.min_eq_left (by omega)]; rfl, by simp; omega, by omega, fun hp => ?_⟩
    have hp : 0 < n := by simp at hp; omega
    obtain ⟨b, o, rfl, hbl, hc⟩ := h5 (by omega)
    refine ⟨b, o, rfl, hbl, fun i hi => ?_⟩
    have hi : i < n := by simp at hi; omega
    rw [hc i (by omega)]; simp [List.getD, hi]
/-- a number, and what becomes of the reader -/
def nE (v most e1 : Int) : Int := if v > most then (if e1 = 0 then 10 else e1) else e1
set_option maxRecDepth 10000 in
theorem num1_c {w0 w : World} {p : Nat} {bs : List Int} {e : Int} {c : K.Cf} {kv pv dv : Value} (R : Rdr w0 w p bs e c kv pv dv) (hr : ∀ x ∈ bs, 0 ≤ x ∧ x ≤ 255) :
    Fn Try.prog 63 #[.pointer (some ⟨p, 0, none⟩), .int .i64 1, .int .i64 48] w fun r w' => Rdr w0 w' p (tB bs e 1) (nE ((tT bs e 1).getD 0 0) 48 (tE bs e 1)) c kv pv dv ∧
      r = .int .i64 (if nE ((tT bs e 1).getD 0 0) 48 (tE bs e 1) = 0 then (tT bs e 1).getD 0 0 else 0) ∧ Upd [p] w w' := by
  refine fn_enter Try.func63 rfl rfl ?_
  refine cl (take_c R 1 (by omega)) ?_
  rintro r w2 ⟨R2, hrd, hu2⟩
  have hrd2 := hrd w2 (Upd.refl _ _)
  have hl := tT_len bs e 1
  have hx := tT_byte (n := 1) (e := e) hr 0
  obtain ⟨b, o, cap, rfl, -⟩ := hrd2.some_ (by omega)
  have hc0 := hrd2.at_ rfl 0 (by omega)
  generalize (tT bs e 1).getD 0 0 = x0 at *
  obtain ⟨n0, rfl⟩ := Int.eq_ofNat_of_zero_le hx.1
  refine len_sl ?_
  rw [hl]
  refine loop_rounds 2 ?_
  refine ix 0 rfl (by omega) ?_
  refine ld hc0 ?_
  refine cv ?_
  refine ar64 (by omega) ?_
  refine val 0 rfl ?_
  refine sh_l (by decide) ?_
  refine val ((n0 : Nat) : Int) (by
    have e : (2 : Int) ^ min (0 : Int).toNat IntKind.i64.bits = 1 := by decide
    rw [e, Int.mul_one]; exact IntWalk.i64_in _ (by omega)) ?_
  refine bor64 (a := 0) (by omega) (by omega) ?_
  rw [Nat.zero_or]
  refine val 1 rfl ?_
  refine cd (fun hm => ?_) (fun hm => ?_)
  · obtain ⟨bv, hb, hv⟩ := R2.h
    refine cl (fail_c hb 10) ?_
    rintro _ w3 ⟨hb3, hu3⟩
    have eN : nE (n0 : Int) 48 (tE bs e 1) = if tE bs e 1 = 0 then 10 else tE bs e 1 := if_pos hm
    have hne : nE (n0 : Int) 48 (tE bs e 1) ≠ 0 := by rw [eN]; split <;> omega
    rw [← eN] at hb3
    refine fa ?_
    refine ldb hb3 rfl ?_
    refine cY hne ?_
    exact ⟨⟨⟨bv, hb3, hv⟩, R2.up.step hu3 (by simpa using R2.new), R2.new⟩, by rw [if_neg hne]; rfl, hu2.trans hu3⟩
  · obtain ⟨bv, hb, hv⟩ := R2.h
    have eN : nE (n0 : Int) 48 (tE bs e 1) = tE bs e 1 := if_neg hm
    refine fa ?_
    refine ldb hb rfl ?_
    refine cd (fun hz => ?_) (fun hz => ?_)
    · exact ⟨by rw [eN]; exact R2, by rw [eN, if_neg hz]; rfl, hu2⟩
    · have hz : tE bs e 1 = 0 := by simpa using hz
      exact ⟨by rw [eN]; exact R2, by rw [eN, if_pos hz]; rfl, hu2⟩
set_option maxRecDepth 10000 in
theorem num2_c {w0 w : World} {p : Nat} {bs : List Int} {e : Int} {c : K.Cf} {kv pv dv : Value} (R : Rdr w0 w p bs e c kv pv dv) (hr : ∀ x ∈ bs, 0 ≤ x ∧ x ≤ 255) :
    Fn Try.prog 63 #[.pointer (some ⟨p, 0, none⟩), .int .i64 2, .int .i64 60000] w fun r w' => Rdr w0 w' p (tB bs e 2) (nE ((tT bs e 2).getD 0 0 + 256 * (tT bs e 2).getD 1 0) 60000 (tE bs e 2)) c kv pv dv ∧
      r = .int .i64 (if nE ((tT bs e 2).getD 0 0 + 256 * (tT bs e 2).getD 1 0) 60000 (tE bs e 2) = 0 then (tT bs e 2).getD 0 0 + 256 * (tT bs e 2).getD 1 0 else 0) ∧ Upd [p] w w' := by
  refine fn_enter Try.func63 rfl rfl ?_
  refine cl (take_c R 2 (by omega)) ?_
  rintro r w2 ⟨R2, hrd, hu2⟩
  have hrd2 := hrd w2 (Upd.refl _ _)
  have hl := tT_len bs e 2
  have hx := tT_byte (n := 2) (e := e) hr 0
  have hy := tT_byte (n := 2) (e := e) hr 1
  obtain ⟨b, o, cap, rfl, -⟩ := hrd2.some_ (by omega)
  have hc0 := hrd2.at_ rfl 0 (by omega)
  have hc1 := hrd2.at_ rfl 1 (by omega)
  generalize (tT bs e 2).getD 0 0 = x0 at *
  generalize (tT bs e 2).getD 1 0 = x1 at *
  obtain ⟨n0, rfl⟩ := Int.eq_ofNat_of_zero_le hx.1
  obtain ⟨n1, rfl⟩ := Int.eq_ofNat_of_zero_le hy.1
  refine len_sl ?_
  rw [hl]
  refine loop_rounds 3 ?_
  refine ix 0 rfl (by omega) ?_
  refine ld hc0 ?_
  refine cv ?_
  refine ar64 (by omega) ?_
  refine val 0 rfl ?_
  refine sh_l (by decide) ?_
  refine val ((n0 : Nat) : Int) (by
    have e : (2 : Int) ^ min (0 : Int).toNat IntKind.i64.bits = 1 := by decide
    rw [e, Int.mul_one]; exact IntWalk.i64_in _ (by omega)) ?_
  refine bor64 (a := 0) (by omega) (by omega) ?_
  rw [Nat.zero_or]
  refine val 1 rfl ?_
  refine ix 1 rfl (by omega) ?_
  refine ld hc1 ?_
  refine cv ?_
  refine ar64 (by omega) ?_
  refine val 8 rfl ?_
  refine sh_l (by decide) ?_
  refine val ((n1 * 256 : Nat) : Int) (by
    have e : (2 : Int) ^ min (8 : Int).toNat IntKind.i64.bits = 256 := by decide
    rw [e]; rw [IntWalk.i64_in _ (by omega)]; omega) ?_
  refine bor64 (by omega) (by omega) ?_
  have hor : n0 ||| n1 * 256 = n0 + n1 * 256 := or_add n0 n1 1 (by omega)
  rw [hor]
  have hs : ((n0 + n1 * 256 : Nat) : Int) = (n0 : Int) + 256 * (n1 : Int) := by omega
  rw [hs]
  refine val 2 rfl ?_
  refine cd (fun hm => ?_) (fun hm => ?_)
  · obtain ⟨bv, hb, hv⟩ := R2.h
    refine cl (fail_c hb 10) ?_
    rintro _ w3 ⟨hb3, hu3⟩
    have eN : nE ((n0 : Int) + 256 * (n1 : Int)) 60000 (tE bs e 2) = if tE bs e 2 = 0 then 10 else tE bs e 2 := if_pos hm
    have hne : nE ((n0 : Int) + 256 * (n1 : Int)) 60000 (tE bs e 2) ≠ 0 := by rw [eN]; split <;> omega
    rw [← eN] at hb3
    refine fa ?_
    refine ldb hb3 rfl ?_
    refine cY hne ?_
    exact ⟨⟨⟨bv, hb3, hv⟩, R2.up.step hu3 (by simpa using R2.new), R2.new⟩, by rw [if_neg hne]; rfl, hu2.trans hu3⟩
  · obtain ⟨bv, hb, hv⟩ := R2.h
    have eN : nE ((n0 : Int) + 256 * (n1 : Int)) 60000 (tE bs e 2) = tE bs e 2 := if_neg hm
    refine fa ?_
    refine ldb hb rfl ?_
    refine cd (fun hz => ?_) (fun hz => ?_)
    · exact ⟨by rw [eN]; exact R2, by rw [eN, if_neg hz]; rfl, hu2⟩
    · have hz : tE bs e 2 = 0 := by simpa using hz
      exact ⟨by rw [eN]; exact R2, by rw [eN, if_pos hz]; rfl, hu2⟩
end Go.Proofs.Ytejofmohpjffkaa
