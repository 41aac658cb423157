/- Events that come in: what they hold. -/
import Derived.Test.YtblngbagjieeiaaOk
import Derived.SizedLaws
namespace Go.Proofs.Ytblngbagjieeiaa
open Go.ChangeShapes Go.WideShapes Go.ChangeAt Go.RowKit Go.Deep
set_option linter.constructorNameAsVariable false
set_option maxRecDepth 100000 in
theorem open_ev {H : Type} {enc : TypeId × Value → H} {w : World} {spare : Nat → Bool} {held : Bool} {fuel : Nat} {cs : List Value} {x : DataW H × List MemPlace} (h : DataW.trod enc Try.prog w 0 spare held fuel TEv cs = some x) : ∃ e : EvD, cs = evL e ∧ okE e := by
  obtain ⟨f0, f1, f2, f3, hl, h0, h1, h2, h3⟩ : ∃ f0 f1 f2 f3, (Try.prog.fieldsOf TEv).toList = [f0, f1, f2, f3] ∧ fld f0 3 0 = true ∧ fld f1 4 1 = true ∧ fld f2 TCl 2 = true ∧ fld f3 TAn 5 = true := by
    have hB : evTB (Try.prog.fieldsOf TEv).toList = true := by kernel_rfl
    unfold evTB at hB
    split at hB
    · rename_i a b c d he
      simp only [Bool.and_eq_true] at hB
      exact ⟨a, b, c, d, he, hB.1.1.1, hB.1.1.2, hB.1.2, hB.2⟩
    · cases hB
  obtain ⟨t0, o0, -⟩ := fld_of h0
  obtain ⟨t1, o1, -⟩ := fld_of h1
  obtain ⟨t2, o2, -⟩ := fld_of h2
  obtain ⟨t3, o3, -⟩ := fld_of h3
  have hu := evU
  generalize Try.prog.fieldsOf TEv = F at hu hl
  have hget : ∀ i f, [f0, f1, f2, f3][i]? = some f → F[i]? = some f := fun i f hf => by
    rw [← hl, Array.getElem?_toList] at hf; exact hf
  obtain ⟨xs, n, -, -, hcl, hxs, hx⟩ := DataW.trod_struct hu h
  have hcl : cs.length = 8 := by
    have h8 : Try.prog.cellsOf TEv = 8 := by kernel_rfl
    rw [h8] at hcl
    simpa using hcl
  have hxs : xs.length = 4 := by
    rw [hxs]
    have := congrArg List.length hl
    simpa using this
  match xs, hxs with
  | [x0, x1, x2, x3], _ =>
    have hx0 := hx 0 f0 (hget 0 f0 rfl)
    have hx1 := hx 1 f1 (hget 1 f1 rfl)
    have hx2 := hx 2 f2 (hget 2 f2 rfl)
    have hx3 := hx 3 f3 (hget 3 f3 rfl)
    have g0 : Try.prog.cellsOf 3 = 1 := by kernel_rfl
    have g1 : Try.prog.cellsOf 4 = 1 := by kernel_rfl
    have g2 : Try.prog.cellsOf TCl = 3 := by kernel_rfl
    have g3 : Try.prog.cellsOf TAn = 3 := by kernel_rfl
    rw [t0, o0, g0] at hx0
    rw [t1, o1, g1] at hx1
    rw [t2, o2, g2] at hx2
    rw [t3, o3, g3] at hx3
    obtain ⟨th, hc0, -⟩ := int_of_trod Try.underlying3 hx0
    obtain ⟨bk, hc1⟩ := bool_of_trod Try.underlying4 hx1
    obtain ⟨l2, hc2, hf2⟩ := open_fields (ks := [.i64, .u32, .u32]) (by kernel_rfl) hx2
    obtain ⟨l3, hc3, hf3⟩ := open_fields (ks := [.i64, .u32, .u32]) (by kernel_rfl) hx3
    match l2, hf2, l3, hf3 with
    | [c0, c1, c2], hf2, [a0, a1, a2], hf3 =>
      have u : ∀ {l : List Int} {k v o : Int}, Fits [.i64, .u32, .u32] [o, k, v] → u32P k ∧ u32P v := fun {l k v o} hf => by
        have h1 := hf.2 1 .u32 k rfl rfl
        have h2 := hf.2 2 .u32 v rfl rfl
        simp only [Lit.wf] at h1 h2
        have h1 : IntKind.u32.min ≤ k ∧ k ≤ IntKind.u32.max := by simpa using h1
        have h2 : IntKind.u32.min ≤ v ∧ v ≤ IntKind.u32.max := by simpa using h2
        have h1 : (0 : Int) ≤ k ∧ k ≤ 4294967295 := h1
        have h2 : (0 : Int) ≤ v ∧ v ≤ 4294967295 := h2
        exact ⟨⟨h1.1, by omega⟩, ⟨h2.1, by omega⟩⟩
      refine ⟨⟨th, bk, (c0, c1, c2), (a0, a1, a2)⟩, ?_, u (l := []) hf2, u (l := []) hf3⟩
      match cs, hcl with
      | [y0, y1, y2, y3, y4, y5, y6, y7], _ =>
        simp [mkInts] at hc0 hc1 hc2 hc3
        obtain ⟨rfl, rfl, rfl⟩ := hc2
        obtain ⟨rfl, rfl, rfl⟩ := hc3
        subst hc0; subst hc1
        rfl
set_option maxRecDepth 100000 in
theorem open_events {H : Type} {enc : TypeId × Value → H} {w : World} {r : Reach} {b0 : Nat} {spare : Nat → Bool} {held : Bool} {v : Value} {d : DataW H} {p : List MemPlace} (hv : Value.okWide Try.prog w r b0 22 v) (h : DataW.Trod enc Try.prog w 0 spare held 22 v d p) : ∃ l : List EvD, RdE w v l ∧ ∀ e ∈ l, okE e :=
  open_recs (P := Try.prog) (e := TEv) 8 evL okE (by decide) evL_len Try.underlying22 (by kernel_rfl) (fun fuel cs x h => open_ev (enc := enc) (w := w) (spare := spare) (held := held) (fuel := fuel) (cs := cs) (x := x) h) hv h
theorem HistNotes_walk (w : World) (v : Value) (l : List EvD) (h : RdE w v l) (_hok : ∀ e ∈ l, okE e) : Calls Try.prog 3 #[v] w fun e w' => e = .returned (.bool true) ∧ Below w.heap.size w w' :=
  (notes_law h).mono fun _ _ ⟨_, he, hv, hu⟩ => ⟨by rw [he, hv], hu.below⟩
end Go.Proofs.Ytblngbagjieeiaa
