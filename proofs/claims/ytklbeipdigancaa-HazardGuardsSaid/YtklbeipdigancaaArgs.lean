/- Reading what comes in: structs and arrays of whole numbers, slices of these; whatever the program. -/
import Derived.ProofKit
import Derived.WalkKit
import Derived.OpenShut
import Derived.ShutString
import Derived.ChangeOld
import Derived.Below
import Derived.Carry
import Derived.SizedLaws
import Derived.Deep.Slices
namespace Go.Proofs.Ytklbeipdigancaa
open Go.ChangeShapes Go.WideShapes Go.ChangeAt Go.RowKit Go.Deep

/-- the type is a struct or array of one-cell whole numbers of these kinds -/
def intFields (P : Program) (t : TypeId) (ks : List IntKind) : Bool :=
  P.cellsOf t == ks.length &&
  match P.underlying t with
  | some (.struct fs) => fs.size == ks.length && (List.range ks.length).all fun i =>
      match fs[i]?, ks[i]? with
      | some f, some k => f.offset == i && P.cellsOf f.type == 1 && (match P.underlying f.type with | some (.int k') => decide (k' = k) | _ => false)
      | _, _ => false
  | some (.int k') => (match ks with | [k] => decide (k' = k) | _ => false)
  | some (.array n e) => n == ks.length && P.cellsOf e == 1 && (match P.underlying e with | some (.int k') => ks.all (fun k => decide (k' = k)) | _ => false)
  | _ => false

def mkInts (ks : List IntKind) (l : List Int) : List Value := List.zipWith Value.int ks l

/-- l fits the kinds ks -/
def Fits (ks : List IntKind) (l : List Int) : Prop := l.length = ks.length ∧ ∀ (i : Nat) (k : IntKind) (n : Int), ks[i]? = some k → l[i]? = some n → (Lit.int k n).wf = true

theorem int_of_trod {H : Type} {enc : TypeId × Value → H} {P : Program} {w : World} {base : Nat} {spare : Nat → Bool} {held : Bool} {fuel : Nat} {t : TypeId} {k : IntKind} {cs : List Value} {x : DataW H × List MemPlace}
    (ht : P.underlying t = some (.int k)) (h : DataW.trod enc P w base spare held fuel t cs = some x) : ∃ n, cs = [.int k n] ∧ (Lit.int k n).wf = true := by
  cases fuel with
  | zero => simp [DataW.trod] at h
  | succ m =>
    unfold DataW.trod at h
    rw [ht] at h
    split at h <;> simp_all

theorem choose_list {n : Nat} {p : Nat → Int → Prop} (h : ∀ i, i < n → ∃ x, p i x) : ∃ l : List Int, l.length = n ∧ ∀ i (hi : i < l.length), p i l[i] := by
  obtain ⟨f, hf⟩ := choose_lt h
  exact ⟨(List.range n).map f, by simp, fun i hi => by simpa using hf i (by simpa using hi)⟩

theorem ints_of_cells {ks : List IntKind} {cs : List Value} (hl : cs.length = ks.length)
    (h : ∀ i, i < ks.length → ∃ n, cs[i]? = some (.int (ks.getD i .i64) n) ∧ (Lit.int (ks.getD i .i64) n).wf = true) : ∃ l, cs = mkInts ks l ∧ Fits ks l := by
  obtain ⟨l, hn, hp⟩ := choose_list h
  refine ⟨l, ?_, hn, ?_⟩
  · apply List.ext_getElem?
    intro i
    by_cases hi : i < ks.length
    · have hi' : i < l.length := by omega
      rw [(hp i hi').1]
      simp [mkInts, List.getElem?_zipWith, hi, hi']
    · simp [mkInts, hl ▸ hi, List.getElem?_eq_none (show cs.length ≤ i by omega), List.getElem?_zipWith, List.getElem?_eq_none (show ks.length ≤ i by omega)]
  · intro i k n hk hnn
    have hi : i < l.length := by
      rcases Nat.lt_or_ge i l.length with h1 | h1
      · exact h1
      · rw [List.getElem?_eq_none h1] at hnn; cases hnn
    have := (hp i hi).2
    rw [List.getElem?_eq_getElem hi] at hnn
    cases hnn
    simpa [hk] using this

theorem one_of_take {cs : List Value} {i : Nat} {v : Value} (h : (cs.drop i).take 1 = [v]) : cs[i]? = some v := by
  have h1 : ((cs.drop i).take 1)[0]? = some v := by rw [h]; rfl
  simpa [List.getElem?_take] using h1

theorem open_fields {H : Type} {enc : TypeId × Value → H} {P : Program} {w : World} {base : Nat} {spare : Nat → Bool} {held : Bool} {fuel : Nat} {t : TypeId} {ks : List IntKind} {cs : List Value} {x : DataW H × List MemPlace}
    (hf : intFields P t ks = true) (h : DataW.trod enc P w base spare held fuel t cs = some x) : ∃ l, cs = mkInts ks l ∧ Fits ks l := by
  unfold intFields at hf
  rw [Bool.and_eq_true] at hf
  obtain ⟨hc, hf⟩ := hf
  have hc : P.cellsOf t = ks.length := by simpa using hc
  split at hf
  · rename_i fs ht
    rw [Bool.and_eq_true] at hf
    obtain ⟨hn, hf⟩ := hf
    have hn : fs.size = ks.length := by simpa using hn
    obtain ⟨xs, n, _, _, hl, hxs, hx⟩ := DataW.trod_struct ht h
    refine ints_of_cells (by omega) fun i hi => ?_
    have := List.all_eq_true.1 hf i (by simpa using hi)
    split at this
    · rename_i f k hfi hki
      simp only [Bool.and_eq_true, beq_iff_eq] at this
      obtain ⟨⟨ho, h1⟩, h2⟩ := this
      split at h2
      · rename_i k' hu
        have hk : k' = k := by simpa using h2
        subst hk
        have hxi := hx i f hfi
        rw [List.getElem?_eq_getElem (by omega)] at hxi
        obtain ⟨m, hm, hw⟩ := int_of_trod hu hxi
        rw [ho, h1] at hm
        have e : ks.getD i .i64 = k' := by simp [hki]
        rw [e]
        exact ⟨m, one_of_take hm, hw⟩
      · cases h2
    · cases this
  · rename_i k' ht
    split at hf
    · rename_i k _
      have hk : k' = k := by simpa using hf
      subst hk
      obtain ⟨m, rfl, hw⟩ := int_of_trod ht h
      refine ⟨[m], rfl, rfl, ?_⟩
      intro i k n hk hn
      match i, hk, hn with
      | 0, hk, hn => simp at hk hn; subst hk; subst hn; exact hw
      | i + 1, hk, hn => simp at hk
    · cases hf
  · rename_i n e ht
    simp only [Bool.and_eq_true, beq_iff_eq] at hf
    obtain ⟨⟨hn, h1⟩, h2⟩ := hf
    obtain ⟨xs, m, _, _, hl, hxs, hx⟩ := DataW.trod_array ht h
    refine ints_of_cells (by omega) fun i hi => ?_
    split at h2
    · rename_i k' hu
      have hk : k' = ks.getD i .i64 := by
        have := List.all_eq_true.1 h2 ks[i] (List.getElem_mem hi)
        simpa [hi] using this
      have hxi := hx i (by omega)
      rw [List.getElem?_eq_getElem (by omega), h1, Nat.mul_one] at hxi
      obtain ⟨q, hq, hw⟩ := int_of_trod hu hxi
      rw [← hk]
      exact ⟨q, one_of_take hq, hw⟩
    · cases h2
  · cases hf

/-- A STRUCT OR ARRAY OF WHOLE NUMBERS, BY VALUE. -/
theorem open_struct {H : Type} {enc : TypeId × Value → H} {P : Program} {w : World} {r : Reach} {b0 base : Nat} {spare : Nat → Bool} {held : Bool} {t : TypeId} {ks : List IntKind} {v : Value} {d : DataW H} {p : List MemPlace}
    (hf : intFields P t ks = true) (hi : (match P.underlying t with | some (.int _) => false | _ => true) = true) (hv : Value.okWide P w r b0 t v) (h : DataW.Trod enc P w base spare held t v d p) : ∃ l, v = .agg (mkInts ks l).toArray ∧ Fits ks l := by
  have hs : ∃ cs, v = .agg cs := by
    unfold Value.okWide at hv
    unfold intFields at hf
    rw [Bool.and_eq_true] at hf
    obtain ⟨_, hf⟩ := hf
    split at hf
    · rename_i fs ht; rw [ht] at hv; obtain ⟨cs, hcs, _⟩ := hv; exact ⟨cs, hcs⟩
    · rename_i k' ht; rw [ht] at hi; cases hi
    · rename_i n e ht; rw [ht] at hv; obtain ⟨cs, hcs, _⟩ := hv; exact ⟨cs, hcs⟩
    · cases hf
  obtain ⟨cs, rfl⟩ := hs
  obtain ⟨fuel, h⟩ := h
  obtain ⟨l, hl, hfit⟩ := open_fields hf (cs := cs.toList) (by simpa [Value.cells] using h)
  exact ⟨l, by rw [← hl], hfit⟩

/-- a slice of structs of whole numbers, as it lies in memory -/
def SlRows (w : World) (B : Nat) (ks : List IntKind) (v : Value) (ls : List (List Int)) : Prop :=
  (v = .slice none 0 0 ∧ ls = []) ∨
  ∃ a cap, v = .slice (some a) ls.length cap ∧ ls.length ≤ cap ∧ cap ≤ maxLen ∧ (0 < ls.length → a.block < B) ∧
    (∀ l ∈ ls, Fits ks l) ∧ ∀ i j, i < ls.length → j < ks.length → w.cell? ((a.add (i * ks.length)).add j) = some (.int (ks.getD j .i64) ((ls.getD i []).getD j 0))

theorem open_rows {H : Type} {enc : TypeId × Value → H} {P : Program} {w : World} {r : Reach} {b0 : Nat} {spare : Nat → Bool} {held : Bool} {t e : TypeId} {ks : List IntKind} {v : Value} {d : DataW H} {p : List MemPlace}
    (ht : P.underlying t = some (.slice e)) (hf : intFields P e ks = true) (hk : 0 < ks.length) (hv : Value.okWide P w r b0 t v) (h : DataW.Trod enc P w 0 spare held t v d p) :
    ∃ ls, SlRows w w.heap.size ks v ls := by
  obtain ⟨a0, len0, cap0, rfl⟩ := okWide_slice ht hv
  obtain ⟨fuel, h⟩ := h
  have hce : P.cellsOf e = ks.length := by
    unfold intFields at hf
    rw [Bool.and_eq_true] at hf
    simpa using hf.1
  rcases open_slice ht (cs := [.slice a0 len0 cap0]) (by simpa [Value.cells] using h) with ⟨hcs, _⟩ | ⟨a, len, cap, m, n, D, Pl, hcs, _, hl, hm, hmm, _, hx⟩
  · simp at hcs
    obtain ⟨rfl, rfl, rfl⟩ := hcs
    exact ⟨[], .inl ⟨rfl, rfl⟩⟩
  · simp at hcs
    obtain ⟨rfl, rfl, rfl⟩ := hcs
    have hlm : len0 ≤ m := by rw [hmm]; split <;> omega
    have key : ∀ i, i < len0 → ∃ l, Fits ks l ∧ ∀ j, j < ks.length → w.cell? ((a.add (i * ks.length)).add j) = some (.int (ks.getD j .i64) (l.getD j 0)) := by
      intro i hi
      obtain ⟨cs', h1, h2⟩ := hx i (by omega)
      obtain ⟨l, rfl, hfit⟩ := open_fields hf h2
      refine ⟨l, hfit, fun j hj => ?_⟩
      rw [hce] at h1
      rw [(World.cells?_some h1).2.2 j hj]
      have hj' : j < l.length := by rw [hfit.1]; exact hj
      simp [mkInts, List.getElem?_zipWith, hj, hj']
    obtain ⟨f, hfF⟩ := choose_lt key
    by_cases h0 : len0 = 0
    · subst h0
      exact ⟨[], .inr ⟨a, cap0, rfl, by simp, hm, by simp, by simp, by simp⟩⟩
    · have hb : a.block < w.heap.size := by
        have := (hfF 0 (by omega)).2 0 hk
        have := World.block_lt_of_cell? w _ this
        simpa [Addr.add] using this
      refine ⟨(List.range len0).map f, .inr ⟨a, cap0, by simp, by simpa using hl, hm, fun _ => hb, ?_, ?_⟩⟩
      · intro l hl'
        simp at hl'
        obtain ⟨i, hi, rfl⟩ := hl'
        exact (hfF i hi).1
      · intro i j hi hj
        have hi : i < len0 := by simpa using hi
        rw [(hfF i hi).2 j hj]
        simp [hi]

/-- the same, its address written out -/
def SlR (w : World) (B : Nat) (ks : List IntKind) (v : Value) (ls : List (List Int)) : Prop :=
  ∃ a cap, v = .slice a ls.length cap ∧ ls.length ≤ cap ∧ cap ≤ maxLen ∧ (a = none → cap = 0) ∧ (∀ l ∈ ls, Fits ks l) ∧
    (0 < ls.length → ∃ b o, a = some ⟨b, o, none⟩ ∧ b < B ∧ ∀ i j, i < ls.length → j < ks.length → w.cell? ⟨b, o + i * ks.length + j, none⟩ = some (.int (ks.getD j .i64) ((ls.getD i []).getD j 0)))

theorem spot_none {w : World} {a : Addr} {v : Value} (h : w.cell? a = some v) : a.spot = none := by
  unfold World.cell? at h
  split at h
  · split at h
    · cases h
    · rename_i hs; simpa using hs
  · cases h

theorem SlRows.norm {w : World} {B : Nat} {ks : List IntKind} {v : Value} {ls : List (List Int)} (h : SlRows w B ks v ls) (hk : 0 < ks.length) : SlR w B ks v ls := by
  rcases h with ⟨rfl, rfl⟩ | ⟨a, cap, rfl, hl, hm, hb, hf, hc⟩
  · exact ⟨none, 0, rfl, by simp, by simp, fun _ => rfl, by simp, by simp⟩
  · refine ⟨some a, cap, rfl, hl, hm, (fun h => by cases h), hf, fun hp => ?_⟩
    have h0 := hc 0 0 hp hk
    have hs : a.spot = none := by
      have := spot_none h0
      simpa [Addr.add] using this
    obtain ⟨ab, ao, sp⟩ := a
    simp at hs
    subst hs
    refine ⟨ab, ao, rfl, hb hp, fun i j hi hj => ?_⟩
    have := hc i j hi hj
    rwa [Addr.add_lit, Addr.add_lit] at this

/-- a slice of whole numbers -/
def SlInts (w : World) (B : Nat) (k : IntKind) (v : Value) (l : List Int) : Prop :=
  ∃ a cap, v = .slice a l.length cap ∧ l.length ≤ cap ∧ cap ≤ maxLen ∧ (a = none → cap = 0) ∧ (∀ x ∈ l, (Lit.int k x).wf = true) ∧
    (0 < l.length → ∃ b o, a = some ⟨b, o, none⟩ ∧ b < B ∧ ∀ i, i < l.length → w.cell? ⟨b, o + i, none⟩ = some (.int k (l.getD i 0)))

theorem SlRows.ints {w : World} {B : Nat} {k : IntKind} {v : Value} {ls : List (List Int)} (h : SlRows w B [k] v ls) : SlInts w B k v (ls.map (·.getD 0 0)) := by
  obtain ⟨a, cap, rfl, h1, h2, h3, h4, h5⟩ := h.norm (by simp)
  refine ⟨a, cap, by simp, by simpa using h1, h2, h3, ?_, ?_⟩
  · intro x hx
    simp only [List.mem_map] at hx
    obtain ⟨l, hl, rfl⟩ := hx
    have hf := h4 l hl
    have hl1 : l.length = 1 := hf.1
    exact hf.2 0 k _ rfl (by simp [List.getD, hl1])
  · intro hp
    obtain ⟨b, o, hab, hb, hc⟩ := h5 (by simpa using hp)
    refine ⟨b, o, hab, hb, fun i hi => ?_⟩
    have hi' : i < ls.length := by simpa using hi
    have := hc i 0 hi' (by simp)
    simpa [List.getD, hi'] using this
end Go.Proofs.Ytklbeipdigancaa
