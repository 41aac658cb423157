/- Contracts: what ghosts do. -/
import Derived.Test.YtdomclcokkijjaaEi
namespace Go.Proofs.Ytdomclcokkijjaa
open Go.RowKit
attribute [local irreducible] Instr.loadAt Instr.storeAt Instr.fieldAt Instr.indexAt Instr.sliceAt Instr.buildSlice Instr.box Instr.alloc Builtin.append_ Builtin.len_ Builtin.min_ Builtin.max_ Calls Instr.build Instr.makeSlice binSem convert Instr.index Instr.range Instr.next
theorem map_getD {l : List Int} {t : Nat} (h : t < l.length) : (l.map (Value.int .i64))[t]? = some (.int .i64 (l.getD t 0)) := by simp [List.getD, h]
def gf (k n kind i : Int) : Int × Int := if k = 0 ∧ n = 0 then (kind, i) else (k, n)
theorem IsG.ne {w : World} {p : Nat} {v : Value} {tags : List Int} {k n : Int} (h : IsG w p v tags k n) : v.ownBlock ≠ some p := h.s.blk_ne h.blk (by decide)
abbrev TFa : Nat := 54
theorem feq_no {k n k' n' : Int} (hz : ¬ (k = k' ∧ n = n')) : eqCells (#[Value.int .i64 k, .int .i64 n] : Array Value).toList (#[Value.int .i64 k', .int .i64 n'] : Array Value).toList = false := by
  cases hb : eqCells (#[Value.int .i64 k, .int .i64 n] : Array Value).toList (#[Value.int .i64 k', .int .i64 n'] : Array Value).toList
  · rfl
  · exact absurd (by simpa [eqCells, eqCell] using hb) hz
theorem feq_yes (k n : Int) : eqCells (#[Value.int .i64 k, .int .i64 n] : Array Value).toList (#[Value.int .i64 k, .int .i64 n] : Array Value).toList = true := eqCells_refl [.i .i64, .i .i64] _ rfl
theorem feq {K' : Value → World → Prop} {w : World} {x y : Operand} {k n k' n' : Int} (b : Bool) (hb : b = true ↔ (k = k' ∧ n = n')) (h : K' (.bool b) w) : RunP Try.prog (binSem .eql TFa x y (.agg #[.int .i64 k, .int .i64 n]) (.agg #[.int .i64 k', .int .i64 n'])) K' w := by
  refine aq rfl rfl ?_
  by_cases hz : k = k' ∧ n = n'
  · obtain ⟨rfl, rfl⟩ := hz
    have : b = true := hb.2 ⟨rfl, rfl⟩
    subst this
    rw [feq_yes]; exact h
  · have : b = false := by
      cases b
      · rfl
      · exact absurd (hb.1 rfl) hz
    subst this
    rw [feq_no hz]; exact h
theorem fne {K' : Value → World → Prop} {w : World} {x y : Operand} {k n k' n' : Int} (b : Bool) (hb : b = true ↔ ¬ (k = k' ∧ n = n')) (h : K' (.bool b) w) : RunP Try.prog (binSem .neq TFa x y (.agg #[.int .i64 k, .int .i64 n]) (.agg #[.int .i64 k', .int .i64 n'])) K' w := by
  refine anq rfl rfl ?_
  by_cases hz : k = k' ∧ n = n'
  · obtain ⟨rfl, rfl⟩ := hz
    have : b = false := by
      cases b
      · rfl
      · exact absurd ⟨rfl, rfl⟩ (hb.1 rfl)
    subst this
    rw [feq_yes]; exact h
  · have : b = true := hb.2 hz
    subst this
    rw [feq_no hz]; exact h
theorem IsG.ldf {K' : Value → World → Prop} {w : World} {p : Nat} {v : Value} {tags : List Int} {k n : Int} (h : IsG w p v tags k n) (hk : K' (.agg #[.int .i64 k, .int .i64 n]) w) : RunP Try.prog (Instr.loadAt TFa (.pointer (some ⟨p, 0 + 1, none⟩))) K' w := by
  refine lda [.int .i64 k, .int .i64 n] rfl (fun j x hj => ?_) hk
  rw [h.blk.cell]
  match j, hj with
  | 0, hj => exact hj
  | 1, hj => exact hj
  | j + 2, hj => simp at hj
set_option maxRecDepth 10000 in
theorem fault_c {w : World} {p : Nat} {v : Value} {tags : List Int} {k n : Int} (h : IsG w p v tags k n) (kind i : Int) : Fn Try.prog 96 #[ptrV p, .int .i64 kind, .int .i64 i] w fun r w' =>
    r = .bool false ∧ IsG w' p v tags (gf k n kind i).1 (gf k n kind i).2 ∧ Upd [p] w w' := by
  refine fn_enter Try.func96 rfl rfl ?_
  refine ptr_ne ?_
  refine fa ?_
  refine h.ldf ?_
  refine bd #[.int .i64 0, .int .i64 0] (fun _ => by kernel_rfl) ?_
  by_cases hz : k = 0 ∧ n = 0
  · refine feq true (iff_of_true rfl hz) ?_
    obtain ⟨rfl, rfl⟩ := hz
    have e : gf 0 0 kind i = (kind, i) := if_pos ⟨rfl, rfl⟩
    rw [e]
    refine bd #[.int .i64 kind, .int .i64 i] (fun _ => by kernel_rfl) ?_
    refine fa ?_
    refine stm h.blk (by show 0 + 1 + 2 ≤ 3; omega) rfl rfl fun w1 hb1 hu1 hs1 => ?_
    exact ⟨rfl, ⟨hb1, h.s.farT h.blk (by decide) hu1⟩, hu1⟩
  · refine feq false (iff_of_false (by simp) hz) ?_
    have e : gf k n kind i = (k, n) := if_neg hz
    rw [e]
    exact ⟨rfl, h, Upd.refl _ _⟩
/-- one deed: its answer, tags and fault behind it -/
def gt (tags : List Int) (k n i frm to kind : Int) : Bool × List Int × Int × Int :=
  if i < 1 ∨ (tags.length : Int) < i then (false, tags, gf k n 5 i)
  else if tags.getD (i - 1).toNat 0 = frm then (true, tags.set (i - 1).toNat to, k, n)
  else (false, tags, gf k n kind i)
set_option maxRecDepth 10000 in
theorem turn_c {w : World} {p : Nat} {v : Value} {tags : List Int} {k n : Int} (h : IsG w p v tags k n) (hl : tags.length ≤ 64) (i frm to kind : Int) : Fn Try.prog 71 #[ptrV p, .int .i64 i, .int .i64 frm, .int .i64 to, .int .i64 kind] w fun r w' =>
    r = .bool (gt tags k n i frm to kind).1 ∧ IsG w' p v (gt tags k n i frm to kind).2.1 (gt tags k n i frm to kind).2.2.1 (gt tags k n i frm to kind).2.2.2 ∧ Upd (p :: v.ownBlock.toList) w w' := by
  obtain ⟨va, vc, rfl, -⟩ := h.s.form
  refine fn_enter Try.func71 rfl rfl ?_
  refine ptr_eq ?_
  by_cases h1 : i < 1
  · refine cY h1 ?_
    have e : gt tags k n i frm to kind = (false, tags, gf k n 5 i) := if_pos (.inl h1)
    rw [e]
    refine cl (fault_c h 5 i) ?_
    rintro _ w1 ⟨rfl, hg, hu⟩
    exact ⟨rfl, hg, hu.mono (by simp)⟩
  refine cN h1 ?_
  refine fa ?_
  refine ldb h.blk rfl ?_
  refine len_sl ?_
  refine cd (fun h2 => ?_) (fun h2 => ?_)
  · have e : gt tags k n i frm to kind = (false, tags, gf k n 5 i) := if_pos (.inr h2)
    rw [e]
    refine cl (fault_c h 5 i) ?_
    rintro _ w1 ⟨rfl, hg, hu⟩
    exact ⟨rfl, hg, hu.mono (by simp)⟩
  have hi : (i - 1).toNat < tags.length := by omega
  obtain ⟨vb, vo, vc', he, -⟩ := h.s.some_ (by omega)
  cases he
  have hcell := (h.s.cells rfl (i - 1).toNat (by omega)).1
  refine fa ?_
  refine ldb h.blk rfl ?_
  refine ar64 (by omega) ?_
  refine ix (i - 1).toNat (by omega) hi ?_
  refine ld (v := .int .i64 (tags.getD (i - 1).toNat 0)) (by rw [Nat.mul_one, hcell]; exact map_getD hi) ?_
  refine cd (fun h3 => ?_) (fun h3 => ?_)
  · have e : gt tags k n i frm to kind = (false, tags, gf k n kind i) := by
      unfold gt; rw [if_neg (by omega), if_neg h3]
    rw [e]
    refine cl (fault_c h kind i) ?_
    rintro _ w1 ⟨rfl, hg, hu⟩
    exact ⟨rfl, hg, hu.mono (by simp)⟩
  · have h3 : tags.getD (i - 1).toNat 0 = frm := by simpa using h3
    have e : gt tags k n i frm to kind = (true, tags.set (i - 1).toNat to, k, n) := by
      unfold gt; rw [if_neg (by omega), if_pos h3]
    rw [e]
    refine fa ?_
    refine ldb h.blk rfl ?_
    refine ar64 (by omega) ?_
    refine ix (i - 1).toNat (by omega) hi ?_
    refine stS h.s rfl hi rfl fun w1 hs1 hu1 hz1 => ?_
    refine ⟨rfl, ⟨h.blk.upd hu1 (by have := h.ne; simp; intro e; subst e; exact this rfl), ?_⟩, hu1.mono (by simp [Value.ownBlock])⟩
    show Sl w1 _ 1 _ (tags.set (i - 1).toNat to).length ((tags.set (i - 1).toNat to).map _)
    rw [List.length_set, List.map_set]
    exact hs1
def gtag (tags : List Int) (i : Int) : Int := if i < 1 ∨ (tags.length : Int) < i then 0 else tags.getD (i - 1).toNat 0
theorem tag_c {w : World} {p : Nat} {v : Value} {tags : List Int} {k n : Int} (h : IsG w p v tags k n) (hl : tags.length ≤ 64) (i : Int) : Fn Try.prog 32 #[ptrV p, .int .i64 i] w fun r w' => r = .int .i64 (gtag tags i) ∧ w' = w := by
  obtain ⟨va, vc, rfl, -⟩ := h.s.form
  refine fn_enter Try.func32 rfl rfl ?_
  refine ptr_eq ?_
  by_cases h1 : i < 1
  · refine cY h1 ?_
    exact ⟨by rw [gtag, if_pos (.inl h1)]; rfl, rfl⟩
  refine cN h1 ?_
  refine fa ?_
  refine ldb h.blk rfl ?_
  refine len_sl ?_
  refine cd (fun h2 => ?_) (fun h2 => ?_)
  · exact ⟨by rw [gtag, if_pos (.inr h2)]; rfl, rfl⟩
  have hi : (i - 1).toNat < tags.length := by omega
  obtain ⟨vb, vo, vc', he, -⟩ := h.s.some_ (by omega)
  cases he
  have hcell := (h.s.cells rfl (i - 1).toNat (by omega)).1
  refine fa ?_
  refine ldb h.blk rfl ?_
  refine ar64 (by omega) ?_
  refine ix (i - 1).toNat (by omega) hi ?_
  refine ld (v := .int .i64 (tags.getD (i - 1).toNat 0)) (by rw [Nat.mul_one, hcell]; exact map_getD hi) ?_
  exact ⟨by rw [gtag, if_neg (by omega)]; rfl, rfl⟩
theorem first_c {w : World} {p : Nat} {v : Value} {tags : List Int} {k n : Int} (h : IsG w p v tags k n) : Fn Try.prog 30 #[ptrV p] w fun r w' => r = .agg #[.int .i64 k, .int .i64 n] ∧ Upd [] w w' := by
  refine fn_enter Try.func30 rfl rfl ?_
  refine al #[.int .i64 0, .int .i64 0] (fun _ => by kernel_rfl) fun w1 hb1 hu1 hs1 => ?_
  refine ptr_eq ?_
  have h1 : IsG w1 p v tags k n := ⟨h.blk.upd hu1 (by simp), h.s.upd hu1 (by simp)⟩
  refine fa ?_
  refine h1.ldf ?_
  refine stw hb1 rfl rfl rfl fun w2 hb2 hu2 hs2 => ?_
  refine rlw hb2 rfl ?_
  exact ⟨rfl, hu1.step hu2 (by simp)⟩
theorem alloc_c {w : World} {p : Nat} {v : Value} {tags : List Int} {k n : Int} (h : IsG w p v tags k n) (hl : tags.length ≤ 64) (i : Int) : Fn Try.prog 24 #[ptrV p, .int .i64 i] w fun _ w' =>
    IsG w' p v (gt tags k n i 0 1 1).2.1 (gt tags k n i 0 1 1).2.2.1 (gt tags k n i 0 1 1).2.2.2 ∧ Upd (p :: v.ownBlock.toList) w w' := by
  refine fn_enter Try.func24 rfl rfl ?_
  refine cl (turn_c h hl i 0 1 1) ?_
  rintro _ w1 ⟨rfl, hg, hu⟩
  exact ⟨hg, hu⟩
end Go.Proofs.Ytdomclcokkijjaa
