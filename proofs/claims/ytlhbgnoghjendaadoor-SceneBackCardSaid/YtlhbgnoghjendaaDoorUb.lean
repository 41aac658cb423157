/- A script in memory; a script that comes in. -/
import Derived.Test.YtlhbgnoghjendaaDoorUa
import Derived.SizedLaws
namespace Go.Proofs.YtlhbgnoghjendaaDoor
open Go.ChangeShapes Go.WideShapes Go.ChangeAt Go.RowKit Go.Deep
set_option linter.constructorNameAsVariable false

/-- a slice that is only read: m elements of n cells -/
structure RdN (w : World) (n : Nat) (v : Value) (m : Nat) (xs : List Value) : Prop where
  h : ∃ a cap, v = .slice a m cap ∧ m ≤ cap ∧ cap ≤ maxLen ∧ xs.length = m * n ∧ (0 < m → ∃ b o, a = some ⟨b, o, none⟩ ∧ b < w.heap.size ∧ ∀ j, j < m * n → w.cell? ⟨b, o + j, none⟩ = xs[j]?)
theorem RdN.of_sl {w : World} {e : TypeId} {n : Nat} {v : Value} {m : Nat} {xs : List Value} (h : Sl w e n v m xs) : RdN w n v m xs := by
  rcases h.2 with ⟨rfl, h0⟩ | ⟨g, off, cap, cur, rfl, hb, hc, hmm, hs, ht⟩
  · exact ⟨none, 0, by rw [h0], by omega, by decide, h.1, fun hp => by omega⟩
  · exact ⟨_, cap, rfl, hc, hmm, h.1, fun hp => ⟨g, off, rfl, hb.lt, fun i hi => (h.cells rfl i hi).1⟩⟩
theorem RdN.upd0 {w w' : World} {n : Nat} {v : Value} {m : Nat} {xs : List Value} (h : RdN w n v m xs) (hu : Upd [] w w') : RdN w' n v m xs := by
  obtain ⟨a, cap, rfl, h1, h2, h3, h5⟩ := h.h
  refine ⟨a, cap, rfl, h1, h2, h3, fun hp => ?_⟩
  obtain ⟨b, o, rfl, hb, hc⟩ := h5 hp
  exact ⟨b, o, rfl, Nat.lt_of_lt_of_le hb hu.size, fun i hi => by rw [hu.cell hb (by simp)]; exact hc i hi⟩
theorem RdN.form {w : World} {n : Nat} {v : Value} {m : Nat} {xs : List Value} (h : RdN w n v m xs) : ∃ a cap, v = .slice a m cap ∧ m ≤ cap ∧ cap ≤ maxLen := by
  obtain ⟨a, cap, rfl, h1, h2, -⟩ := h.h
  exact ⟨a, cap, rfl, h1, h2⟩
theorem RdN.some_ {w : World} {n : Nat} {v : Value} {m : Nat} {xs : List Value} (h : RdN w n v m xs) (hp : 0 < m) : ∃ b o cap, v = .slice (some ⟨b, o, none⟩) m cap ∧ m ≤ cap := by
  obtain ⟨a, cap, rfl, h1, h2, h3, h5⟩ := h.h
  obtain ⟨b, o, rfl, -⟩ := h5 hp
  exact ⟨b, o, cap, rfl, h1⟩
theorem RdN.at_ {w : World} {n : Nat} {v : Value} {m : Nat} {xs : List Value} (h : RdN w n v m xs) {b o k c : Nat} (hv : v = .slice (some ⟨b, o, none⟩) k c) (i j : Nat) (hi : i < m) (hj : j < n) : w.cell? ⟨b, o + i * n + j, none⟩ = xs[i * n + j]? := by
  obtain ⟨a, cap, rfl, h1, h2, h3, h5⟩ := h.h
  obtain ⟨b', o', rfl, -, hc⟩ := h5 (by omega)
  injection hv with hv
  injection hv with hv
  injection hv with h6 h7
  subst h6; subst h7
  rw [Nat.add_assoc]
  apply hc
  have := Nat.mul_le_mul_right n (show i + 1 ≤ m by omega)
  rw [Nat.add_mul] at this
  omega
theorem RdN.one {w : World} {v : Value} {m : Nat} {xs : List Value} (h : RdN w 1 v m xs) {b o k c : Nat} (hv : v = .slice (some ⟨b, o, none⟩) k c) (i : Nat) (hi : i < m) : w.cell? ⟨b, o + i * 1, none⟩ = xs[i]? := by
  have := h.at_ hv i 0 hi (by omega)
  simpa using this
theorem RdK.rdN {w : World} {k : IntKind} {v : Value} {l : List Int} (h : RdK w k v l) : RdN w 1 v l.length (l.map (.int k)) := by
  obtain ⟨a, cap, rfl, h1, h2, h5⟩ := h.h
  refine ⟨a, cap, rfl, h1, h2, by simp, fun hp => ?_⟩
  obtain ⟨b, o, rfl, hb, hc⟩ := h5 hp
  refine ⟨b, o, rfl, hb, fun j hj => ?_⟩
  rw [Nat.mul_one] at hj
  rw [hc j hj]; simp [List.getD, hj]
abbrev C3 := Int × Int × Int
def cell3 (x : C3) : List Value := [.int .i64 x.1, .int .u32 x.2.1, .int .u32 x.2.2]
def cellsC (l : List C3) : List Value := l.flatMap cell3
theorem cellsC_len (l : List C3) : (cellsC l).length = l.length * 3 := by
  induction l with
  | nil => rfl
  | cons x l ih =>
    show (cell3 x ++ cellsC l).length = _
    rw [List.length_append, ih]
    show 3 + l.length * 3 = (l.length + 1) * 3
    omega
theorem cellsC_app (a b : List C3) : cellsC (a ++ b) = cellsC a ++ cellsC b := by simp [cellsC]
theorem cellsC_at : ∀ (l : List C3) (i j : Nat), i < l.length → j < 3 → (cellsC l)[i * 3 + j]? = (cell3 (l.getD i (0, 0, 0)))[j]?
  | x :: l, 0, j, _, hj => by
    show (cell3 x ++ cellsC l)[0 * 3 + j]? = _
    rw [Nat.zero_mul, Nat.zero_add, List.getElem?_append_left (by show j < 3; exact hj)]; rfl
  | x :: l, i + 1, j, h, hj => by
    have h : i < l.length := by simpa using h
    show (cell3 x ++ cellsC l)[(i + 1) * 3 + j]? = _
    rw [List.getElem?_append_right (by show 3 ≤ _; omega), show (i + 1) * 3 + j - (cell3 x).length = i * 3 + j by show (i + 1) * 3 + j - 3 = _; omega, cellsC_at l i j h hj]
    simp [List.getD]
/-- a slice of slices of calls, read -/
structure CallsR (w : World) (v : Value) (ls : List (List C3)) (vals : List Value) : Prop where
  out : RdN w 1 v ls.length vals
  at_ : ∀ i, i < ls.length → ∃ x, vals[i]? = some x ∧ RdN w 3 x (ls.getD i []).length (cellsC (ls.getD i []))
theorem CallsR.upd0 {w w' : World} {v : Value} {ls : List (List C3)} {vals : List Value} (h : CallsR w v ls vals) (hu : Upd [] w w') : CallsR w' v ls vals :=
  ⟨h.out.upd0 hu, fun i hi => let ⟨x, h1, h2⟩ := h.at_ i hi; ⟨x, h1, h2.upd0 hu⟩⟩
/-- a script's cells -/
def scV (c : Cf) (cv pv dv : Value) : Array Value := #[.int .i64 c.A, .int .i64 c.T, .int .i64 c.N, .int .i64 c.L, .int .i64 c.B, .int .i64 c.P, .int .i64 c.S, cv, pv, dv]
structure Scr (w : World) (c : Cf) (ls : List (List C3)) (ps ds : List Int) (r : Value) : Prop where
  h : ∃ cv pv dv vals, r = .agg (scV c cv pv dv) ∧ CallsR w cv ls vals ∧ RdK w .i64 pv ps ∧ RdK w .u8 dv ds
theorem Scr.upd0 {w w' : World} {c : Cf} {ls : List (List C3)} {ps ds : List Int} {r : Value} (h : Scr w c ls ps ds r) (hu : Upd [] w w') : Scr w' c ls ps ds r :=
  let ⟨cv, pv, dv, vals, h1, h2, h3, h4⟩ := h.h; ⟨cv, pv, dv, vals, h1, h2.upd0 hu, h3.upd0 hu, h4.upd0 hu⟩
abbrev TS : Nat := 40
theorem open_rowsT {H : Type} {enc : TypeId × Value → H} {P : Program} {w : World} {spare : Nat → Bool} {held : Bool} {t e : TypeId} {ks : List IntKind} {fuel : Nat} {cs : List Value} {x : DataW H × List MemPlace}
    (ht : P.underlying t = some (.slice e)) (hf : intFields P e ks = true) (hk : 0 < ks.length) (h : DataW.trod enc P w 0 spare held fuel t cs = some x) :
    ∃ v ls, cs = [v] ∧ SlRows w w.heap.size ks v ls ∧ (ls = [] ∨ ∃ es sp, x.1 = .slice es sp ∧ es.length = ls.length) := by
  have hce : P.cellsOf e = ks.length := by
    unfold intFields at hf
    rw [Bool.and_eq_true] at hf
    simpa using hf.1
  rcases open_slice ht h with ⟨rfl, rfl⟩ | ⟨a, len0, cap0, m, n, D, Pl, rfl, _, hl, hm, hmm, rfl, hx⟩
  · exact ⟨_, [], rfl, .inl ⟨rfl, rfl⟩, .inl rfl⟩
  · have hlm : len0 ≤ m := by rw [hmm]; split <;> omega
    have key : ∀ i, i < len0 → ∃ l, Fits ks l ∧ ∀ j, j < ks.length → w.cell? ((a.add (i * ks.length)).add j) = some (.int (ks.getD j .i64) (l.getD j 0)) := by
      intro i hi
      obtain ⟨cs', h1, h2⟩ := hx i (by omega)
      obtain ⟨l, rfl, hfit⟩ := open_fields hf h2
      refine ⟨l, hfit, fun j hj => ?_⟩
      rw [hce] at h1
      rw [(World.cells?_some h1).2.2 j hj]
      have hj' : j < l.length := by rw [hfit.1]; exact hj
      simp [mkInts, List.getElem?_zipWith, hj, hj']
    obtain ⟨f, hfF⟩ := choose_lt key
    by_cases h0 : len0 = 0
    · subst h0
      exact ⟨_, [], rfl, .inr ⟨a, cap0, rfl, by simp, hm, by simp, by simp, by simp⟩, .inl rfl⟩
    · have hb : a.block < w.heap.size := by
        have := (hfF 0 (by omega)).2 0 hk
        have := World.block_lt_of_cell? w _ this
        simpa [Addr.add] using this
      refine ⟨_, (List.range len0).map f, rfl, .inr ⟨a, cap0, by simp, by simpa using hl, hm, fun _ => hb, ?_, ?_⟩, .inr ⟨_, _, rfl, by simp⟩⟩
      · intro l hl'
        simp at hl'
        obtain ⟨i, hi, rfl⟩ := hl'
        exact (hfF i hi).1
      · intro i j hi hj
        have hi : i < len0 := by simpa using hi
        rw [(hfF i hi).2 j hj]
        simp [hi]
def toC3 (l : List Int) : C3 := (l.getD 0 0, l.getD 1 0, l.getD 2 0)
theorem rows_c3 {w : World} {v : Value} {ls : List (List Int)} (h : SlRows w w.heap.size [.i64, .u32, .u32] v ls) : RdN w 3 v (ls.map toC3).length (cellsC (ls.map toC3)) := by
  obtain ⟨a, cap, rfl, h1, h2, h3, h4, h5⟩ := h.norm (by simp)
  refine ⟨a, cap, by simp, by simpa using h1, h2, by rw [cellsC_len], fun hp => ?_⟩
  obtain ⟨b, o, rfl, hb, hc⟩ := h5 (by simpa using hp)
  refine ⟨b, o, rfl, hb, fun j hj => ?_⟩
  have hj : j < ls.length * 3 := by simpa using hj
  have e : j = j / 3 * 3 + j % 3 := by omega
  have h6 := hc (j / 3) (j % 3) (by omega) (by simp; omega)
  have h7 := cellsC_at (ls.map toC3) (j / 3) (j % 3) (by simp; omega) (by omega)
  rw [← e] at h7
  rw [h7]
  have h8 : o + j / 3 * 3 + j % 3 = o + j := by omega
  have h6 : w.cell? ⟨b, o + j / 3 * 3 + j % 3, none⟩ = _ := h6
  rw [h8] at h6
  rw [h6]
  have h9 : (ls.map toC3).getD (j / 3) (0, 0, 0) = toC3 (ls.getD (j / 3) []) := by
    have : j / 3 < ls.length := by omega
    simp [List.getD, this]
  rw [h9]
  rcases (show j % 3 = 0 ∨ j % 3 = 1 ∨ j % 3 = 2 by omega) with h | h | h <;> rw [h] <;> rfl
theorem fits_c3 {l : List Int} (h : Fits [.i64, .u32, .u32] l) : (0 ≤ (toC3 l).2.1 ∧ (toC3 l).2.1 ≤ 4294967295) ∧ (0 ≤ (toC3 l).2.2 ∧ (toC3 l).2.2 ≤ 4294967295) := by
  obtain ⟨hl, hf⟩ := h
  match l, hl with
  | [a, b, c], _ =>
    have h1 := hf 1 .u32 b rfl rfl
    have h2 := hf 2 .u32 c rfl rfl
    simp only [Lit.wf] at h1 h2
    have h1 : IntKind.u32.min ≤ b ∧ b ≤ IntKind.u32.max := by simpa using h1
    have h2 : IntKind.u32.min ≤ c ∧ c ≤ IntKind.u32.max := by simpa using h2
    exact ⟨h1, h2⟩
/-- a script that came in -/
structure ScrIn (w : World) (v : Value) (c : Cf) (ls : List (List C3)) (ps ds : List Int) : Prop where
  scr : Scr w c ls ps ds v
  keys : ∀ l ∈ ls, ∀ x ∈ l, (0 ≤ x.2.1 ∧ x.2.1 ≤ 4294967295) ∧ (0 ≤ x.2.2 ∧ x.2.2 ≤ 4294967295)
  bytes : ∀ d ∈ ds, 0 ≤ d ∧ d ≤ 255
  few : ∀ l ∈ ls, l.length ≤ 140737488355328
theorem weightsAll_mem {H : Type} {P : Program} {e : TypeId} : ∀ {l : List (DataW H)} {d : DataW H}, d ∈ l → ∀ n ∈ d.weights P e, n ∈ DataW.weightsAll P e l
  | d' :: r, d, hd, n, hn => by
    simp only [DataW.weightsAll, List.mem_append]
    rcases List.mem_cons.1 hd with rfl | h
    · exact Or.inl hn
    · exact Or.inr (weightsAll_mem h n hn)
theorem inner_le {H : Type} {P : Program} {B : Nat} {t e q : TypeId} {elems spare e' sp' : List (DataW H)} (h : ∀ n ∈ (DataW.slice elems spare).weights P t, n ≤ B) (hu : P.underlying t = some (.slice e)) (hu2 : P.underlying e = some (.slice q)) (hx : DataW.slice e' sp' ∈ elems) :
    (e'.length + sp'.length) * P.bytesOf q ≤ B := by
  refine h _ ?_
  simp only [DataW.weights, hu, List.mem_cons, List.mem_append]
  exact Or.inr (Or.inl (weightsAll_mem hx _ (by simp [DataW.weights, hu2])))
theorem ten_list {l A : List Value} {x y z : Value} (hl : l.length = 10) (h0 : (l.drop 0).take 7 = A) (h1 : (l.drop 7).take 1 = [x]) (h2 : (l.drop 8).take 1 = [y]) (h3 : (l.drop 9).take 1 = [z]) : l = A ++ [x, y, z] := by
  match l, hl with
  | [a0, a1, a2, a3, a4, a5, a6, a7, a8, a9], _ =>
    simp at h1 h2 h3
    subst h0; subst h1; subst h2; subst h3
    rfl
/-- a slice of slices of rows -/
theorem open_calls {H : Type} {enc : TypeId × Value → H} {w : World} {spare : Nat → Bool} {held : Bool} {fuel : Nat} {cs : List Value} {x : DataW H × List MemPlace} (h : DataW.trod enc Tryd.prog w 0 spare held fuel 37 cs = some x)
    (hw : ∀ n ∈ x.1.weights Tryd.prog 37, n ≤ reachBytes) : ∃ v ls vals, cs = [v] ∧ CallsR w v ls vals ∧ (∀ l ∈ ls, ∀ x ∈ l, (0 ≤ x.2.1 ∧ x.2.1 ≤ 4294967295) ∧ (0 ≤ x.2.2 ∧ x.2.2 ≤ 4294967295)) ∧ ∀ l ∈ ls, l.length ≤ 140737488355328 := by
  have g64 : Tryd.prog.cellsOf 68 = 1 := by kernel_rfl
  rcases open_slice Tryd.underlying37 h with ⟨rfl, -⟩ | ⟨a, len, cap, m, n1, D, Pl, rfl, -, hl1, hm1, hmm, rfl, hf⟩
  · exact ⟨_, [], [], rfl, ⟨⟨none, 0, rfl, by simp, by decide, rfl, fun h => by simp at h⟩, fun i hi => by simp at hi⟩, by simp, by simp⟩
  · have hlm : len ≤ m := by rw [hmm]; split <;> omega
    have key : ∀ i, i < len → ∃ y : Value × List (List Int), w.cell? (a.add i) = some y.1 ∧ SlRows w w.heap.size [.i64, .u32, .u32] y.1 y.2 ∧ y.2.length ≤ 140737488355328 := by
      intro i hi
      obtain ⟨cs', h1, h2⟩ := hf i (by omega)
      rw [g64, Nat.mul_one] at h1
      obtain ⟨v, ls, rfl, hr, hb⟩ := open_rowsT (ks := [.i64, .u32, .u32]) Tryd.underlying68 (by kernel_rfl) (by decide) h2
      refine ⟨(v, ls), ?_, hr, ?_⟩
      · have := (World.cells?_some h1).2.2 0 (by omega)
        simpa [Addr.add] using this
      · rcases hb with rfl | ⟨es, sp, he, hle⟩
        · simp
        · have hin : DataW.slice es sp ∈ (List.range len).map D := by
            rw [← he]
            exact List.mem_map.2 ⟨i, by simpa using hi, rfl⟩
          have h3 := inner_le hw Tryd.underlying37 Tryd.underlying68 hin
          have h16 : Tryd.prog.bytesOf 67 = 16 := by kernel_rfl
          rw [h16] at h3
          have h47 := reachBytes_lt
          show ls.length ≤ _
          omega
    obtain ⟨f, hfF⟩ := choose_lt key
    refine ⟨_, (List.range len).map (fun i => (f i).2.map toC3), (List.range len).map (fun i => (f i).1), rfl, ⟨⟨some a, cap, by simp, by simpa using hl1, hm1, by simp, fun hp => ?_⟩, fun i hi => ?_⟩, ?_, ?_⟩
    · have hp : 0 < len := by simpa using hp
      have h0 := (hfF 0 hp).1
      have hs : a.spot = none := by
        have := spot_none h0
        simpa [Addr.add] using this
      have hb := World.block_lt_of_cell? w _ h0
      obtain ⟨ab, ao, sp⟩ := a
      simp at hs
      subst hs
      refine ⟨ab, ao, rfl, by simpa [Addr.add] using hb, fun j hj => ?_⟩
      have hj : j < len := by simpa using hj
      have := (hfF j hj).1
      rw [Addr.add_lit] at this
      rw [this]; simp [hj]
    · have hi : i < len := by simpa using hi
      have h1 := rows_c3 (hfF i hi).2.1
      refine ⟨(f i).1, by simp [hi], ?_⟩
      have e : ((List.range len).map (fun i => (f i).2.map toC3)).getD i [] = (f i).2.map toC3 := by simp [List.getD, hi]
      rw [e]; exact h1
    · intro l hl x hx
      obtain ⟨i, hi, rfl⟩ := List.mem_map.1 hl
      obtain ⟨y, hy, rfl⟩ := List.mem_map.1 hx
      have hi : i < len := by simpa using hi
      obtain ⟨a', cap', -, -, -, -, h4, -⟩ := (hfF i hi).2.1.norm (by simp)
      exact fits_c3 (h4 y hy)
    · intro l hl
      obtain ⟨i, hi, rfl⟩ := List.mem_map.1 hl
      have hi : i < len := by simpa using hi
      rw [List.length_map]
      exact (hfF i hi).2.2
theorem field_of {fs : Array Field} {i : Nat} {L : List (TypeId × Nat)} (h : fs.toList.map (fun f => (f.type, f.offset)) = L) {t : TypeId} {o : Nat} (hi : L[i]? = some (t, o)) : ∃ f, fs[i]? = some f ∧ f.type = t ∧ f.offset = o := by
  subst h
  rw [List.getElem?_map] at hi
  obtain ⟨f, hf, he⟩ := Option.map_eq_some_iff.1 hi
  injection he with h1 h2
  exact ⟨f, by simpa using hf, h1, h2⟩
def scrTB (o : Option TypeDesc) : Bool := match o with | some (.struct fs) => decide (fs.toList.map (fun f => (f.type, f.offset)) = [(24, 0), (37, 7), (38, 8), (31, 9)]) | _ => false
theorem open_script {H : Type} {enc : TypeId × Value → H} {w : World} {r : Reach} {b0 : Nat} {spare : Nat → Bool} {held : Bool} {v : Value} {d : DataW H} {p : List MemPlace}
    (hv : Value.okWide Tryd.prog w r b0 TS v) (h : DataW.Trod enc Tryd.prog w 0 spare held TS v d p) (hw : ∀ n ∈ d.weights Tryd.prog TS, n ≤ reachBytes) : ∃ c ls ps ds, ScrIn w v c ls ps ds := by
  obtain ⟨fs, hu, hfs⟩ : ∃ fs, Tryd.prog.underlying TS = some (.struct fs) ∧ fs.toList.map (fun f => (f.type, f.offset)) = [(24, 0), (37, 7), (38, 8), (31, 9)] := by
    have hB : scrTB (Tryd.prog.underlying TS) = true := by kernel_rfl
    unfold scrTB at hB
    split at hB
    · rename_i fs hfs
      exact ⟨fs, hfs, by simpa using hB⟩
    · cases hB
  obtain ⟨f0, hf0, ht0, ho0⟩ := field_of (i := 0) hfs rfl
  obtain ⟨f1, hf1, ht1, ho1⟩ := field_of (i := 1) hfs rfl
  obtain ⟨f2, hf2, ht2, ho2⟩ := field_of (i := 2) hfs rfl
  obtain ⟨f3, hf3, ht3, ho3⟩ := field_of (i := 3) hfs rfl
  have htys : fs.toList.map (·.type) = [24, 37, 38, 31] := by
    have := congrArg (List.map Prod.fst) hfs
    rw [List.map_map] at this
    exact this
  obtain ⟨cs, rfl⟩ : ∃ cs, v = .agg cs := by
    unfold Value.okWide at hv
    rw [hu] at hv
    obtain ⟨cs, hcs, _⟩ := hv; exact ⟨cs, hcs⟩
  obtain ⟨fuel, h⟩ := h
  obtain ⟨xs, n, -, hd, hl, hxs, hx⟩ := DataW.trod_struct hu h
  have hl : cs.toList.length = 10 := by
    have h10 : Tryd.prog.cellsOf TS = 10 := by kernel_rfl
    rw [h10] at hl
    simpa [Value.cells] using hl
  have hxs : xs.length = 4 := by
    rw [hxs]
    have := congrArg List.length hfs
    simpa using this
  match xs, hxs with
  | [x0, x1, x2, x3], _ =>
    have hx0 := hx 0 f0 hf0
    have hx1 := hx 1 f1 hf1
    have hx2 := hx 2 f2 hf2
    have hx3 := hx 3 f3 hf3
    have g0 : Tryd.prog.cellsOf 24 = 7 := by kernel_rfl
    have g1 : Tryd.prog.cellsOf 37 = 1 := by kernel_rfl
    have g2 : Tryd.prog.cellsOf 38 = 1 := by kernel_rfl
    have g3 : Tryd.prog.cellsOf 31 = 1 := by kernel_rfl
    rw [ht0, ho0, g0] at hx0
    rw [ht1, ho1, g1] at hx1
    rw [ht2, ho2, g2] at hx2
    rw [ht3, ho3, g3] at hx3
    obtain ⟨l0, hc0, hfit0⟩ := open_fields (ks := [.i64, .i64, .i64, .i64, .i64, .i64, .i64]) (by kernel_rfl) hx0
    obtain ⟨v2, ls2, hc2, hr2, -⟩ := open_rowsT (ks := [.i64]) Tryd.underlying38 (by kernel_rfl) (by decide) hx2
    obtain ⟨v3, ls3, hc3, hr3, -⟩ := open_rowsT (ks := [.u8]) Tryd.underlying31 (by kernel_rfl) (by decide) hx3
    have hd : d = .agg [x0.1, x1.1, x2.1, x3.1] := congrArg Prod.fst hd
    have hw1 : ∀ n ∈ x1.1.weights Tryd.prog 37, n ≤ reachBytes := fun n hn => hw n (by
      rw [hd]
      simp only [DataW.weights, hu, htys]
      exact DataW.weights_mem_each (j := 1) rfl rfl n hn)
    obtain ⟨v1, ls, vals, hc1, hr1, hk1, hf1⟩ := open_calls hx1 hw1
    match l0, hfit0.1 with
    | [A, T, N, L, B, P, S], _ =>
      have hcs := ten_list hl (by simpa [Value.cells] using hc0) (by simpa [Value.cells] using hc1) (by simpa [Value.cells] using hc2) (by simpa [Value.cells] using hc3)
      have hcs' : cs = scV ⟨A, T, N, L, B, P, S⟩ v1 v2 v3 := by
        have := congrArg List.toArray hcs
        simpa [mkInts, scV] using this
      refine ⟨⟨A, T, N, L, B, P, S⟩, ls, _, _, ⟨⟨v1, v2, v3, vals, by rw [hcs'], hr1, RdK.of_ints hr2.ints (Nat.le_refl _), RdK.of_ints hr3.ints (Nat.le_refl _)⟩, hk1, fun d hd => ?_, hf1⟩⟩
      obtain ⟨a', cap', -, -, -, -, h4, -⟩ := hr3.ints
      have h6 := h4 d hd
      simp only [Lit.wf] at h6
      have h7 : IntKind.u8.min ≤ d ∧ d ≤ IntKind.u8.max := by simpa using h6
      exact h7
theorem sc_list (c : Cf) (kv pv dv : Value) : (scV c kv pv dv).toList = (cf7 c).toList ++ [kv, pv, dv] := by cases c; rfl
theorem ldcf {K' : Value → World → Prop} {w : World} {g T : Nat} {c : Cf} {kv pv dv : Value} (hb : Blk w g T (scV c kv pv dv)) (k : K' (.agg (cf7 c)) w) : RunP Tryd.prog (Instr.loadAt 24 (.pointer (some ⟨g, 0 + 0, none⟩))) K' w := by
  refine lda (cf7 c).toList (cf7_len c) (fun j v hj => ?_) (by simpa using k)
  have hlt : j < (cf7 c).toList.length := by
    rcases Nat.lt_or_ge j (cf7 c).toList.length with h | h
    · exact h
    · rw [List.getElem?_eq_none h] at hj; cases hj
  rw [hb.cell, ← Array.getElem?_toList, sc_list, show 0 + 0 + j = j by omega, List.getElem?_append_left hlt]
  exact hj
theorem ld3 {K' : Value → World → Prop} {w : World} {x : Value} {l : List C3} (h : RdN w 3 x l.length (cellsC l)) {b o k c : Nat} (hx : x = .slice (some ⟨b, o, none⟩) k c) (j : Nat) (hj : j < l.length) (h' : K' (.agg (cell3 (l.getD j (0, 0, 0))).toArray) w) : RunP Tryd.prog (Instr.loadAt 67 (.pointer (some ⟨b, o + j * 3, none⟩))) K' w := by
  refine lda (cell3 (l.getD j (0, 0, 0))) rfl (fun t v ht => ?_) h'
  have hlt : t < 3 := by
    rcases Nat.lt_or_ge t 3 with h1 | h1
    · exact h1
    · rw [List.getElem?_eq_none (by show 3 ≤ t; exact h1)] at ht; cases ht
  rw [h.at_ hx j t hj hlt, cellsC_at l j t hj hlt]
  exact ht
end Go.Proofs.YtlhbgnoghjendaaDoor
