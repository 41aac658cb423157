/- Contracts: a machine is made. -/
import Derived.Test.YtdomclcokkijjaaEd
namespace Go.Proofs.Ytdomclcokkijjaa
open Go.RowKit
attribute [local irreducible] Instr.loadAt Instr.storeAt Instr.fieldAt Instr.indexAt Instr.sliceAt Instr.buildSlice Instr.box Instr.alloc Builtin.append_ Builtin.len_ Builtin.min_ Builtin.max_ Calls Instr.build Instr.makeSlice binSem convert Instr.index Instr.range Instr.next
abbrev TM : Nat := 115
abbrev TT : Nat := 32
abbrev TTp : Nat := 25
def machC : Cf → Value → Value → Value → Value → Bool → Bool → Array Value
  | ⟨A, T, N, L, B, P, S⟩, mp, gv, fp, tv, a, b => #[.int .i64 A, .int .i64 T, .int .i64 N, .int .i64 L, .int .i64 B, .int .i64 P, .int .i64 S, .int .i64 (slotsP A L), .int .i64 (widthP A L), .int .i64 (sentP A), .int .i64 8, .int .i64 (linksP A T L), .int .i64 (nodesP A T N L), .int .i64 (treeP A T N L), .int .i64 (sizeP A T N L), mp, gv, fp, tv, .bool a, .bool b]
def thrC (id : Int) (fv : Value) (r : Int × Int × Int) (pv sv wv rv ov : Value) : Array Value := #[.int .i64 id, fv, .int .u64 r.1, .int .u64 r.2.1, .int .u64 r.2.2, pv, sv, wv, rv, ov]
def zerosV (n : Nat) : List Value := (List.replicate n (0 : Int)).map (.int .u64)
/-- a thread as at first -/
structure ThrZ (w : World) (g : Nat) (id : Int) (l : Nat) : Prop where
  h : ∃ pv sv wv, Blk w g TT (thrC id (.slice none 0 0) (0, 0, 0) pv sv wv (.slice none 0 0) (.slice none 0 0)) ∧ Sl w 27 1 pv l (zerosV l) ∧ Sl w 27 1 sv l (zerosV l) ∧ Sl w 27 1 wv l (zerosV l) ∧
    (∀ g, pv.ownBlock = some g → sv.ownBlock ≠ some g ∧ wv.ownBlock ≠ some g) ∧ (∀ g, sv.ownBlock = some g → wv.ownBlock ≠ some g)
/-- what a machine has, but its own block and the row of its threads -/
structure Parts (w : World) (mp : Nat) (v lv : Value) (s : MS) (fp : Nat) (fv : Value) (draws : List Int) (gv : Value) (gs : Option (Nat × Value × List Int × Int × Int)) (ptrs : List Nat) (l : Nat) : Prop where
  mem : IsMem w mp v lv s
  fd : IsFd w fp fv draws 0
  gh : match gs with | none => gv = .pointer none | some (gp, v', tags, k, n) => gv = .pointer (some ⟨gp, 0, none⟩) ∧ IsG w gp v' tags k n
  ths : ∀ i, i < ptrs.length → ThrZ w (ptrs.getD i 0) (i : Int) l
theorem Parts.upd {S : List Nat} {w w' : World} {mp fp l : Nat} {v lv fv gv : Value} {s : MS} {draws : List Int} {gs : Option (Nat × Value × List Int × Int × Int)} {ptrs : List Nat} (h : Parts w mp v lv s fp fv draws gv gs ptrs l)
    (hS : ∀ g ∈ S, ∃ cs T, Blk w g T cs ∧ (T = TM ∨ T = TTp)) (hu : Upd S w w') : Parts w' mp v lv s fp fv draws gv gs ptrs l := by
  have nb : ∀ {g T : Nat} {cs : Array Value}, Blk w g T cs → T ≠ TM → T ≠ TTp → g ∉ S := fun hb h1 h2 hm => by
    obtain ⟨cs', T', hb', hT⟩ := hS _ hm
    rcases hT with rfl | rfl
    · exact hb.ne_ hb' h1 rfl
    · exact hb.ne_ hb' h2 rfl
  have ns : ∀ {e n m : Nat} {x : Value} {xs : List Value}, Sl w e n x m xs → e ≠ TM → e ≠ TTp → ∀ g, x.ownBlock = some g → g ∉ S := fun hs h1 h2 g hg hm => by
    obtain ⟨cs', T', hb', hT⟩ := hS _ hm
    rcases hT with rfl | rfl
    · exact hs.blk_ne hb' h1 hg
    · exact hs.blk_ne hb' h2 hg
  refine ⟨h.mem.upd hu (fun k hk hm => ?_), ⟨h.fd.blk.upd hu (nb h.fd.blk (by decide) (by decide)), h.fd.s.upd hu (ns h.fd.s (by decide) (by decide))⟩, ?_, fun i hi => ?_⟩
  · obtain ⟨cs', T', hb', hT⟩ := hS _ hm
    rcases hT with rfl | rfl
    · exact h.mem.off hb' (by decide) (by decide) (by decide) hk
    · exact h.mem.off hb' (by decide) (by decide) (by decide) hk
  · have := h.gh
    revert this
    match gs with
    | none => exact fun h => h
    | some (gp, v', tags, k, n) => exact fun ⟨h1, h2⟩ => ⟨h1, h2.blk.upd hu (nb h2.blk (by decide) (by decide)), h2.s.upd hu (ns h2.s (by decide) (by decide))⟩
  · obtain ⟨pv, sv, wv, h1, h2, h3, h4, h5⟩ := (h.ths i hi).h
    exact ⟨pv, sv, wv, h1.upd hu (nb h1 (by decide) (by decide)), h2.upd hu (ns h2 (by decide) (by decide)), h3.upd hu (ns h3 (by decide) (by decide)), h4.upd hu (ns h4 (by decide) (by decide)), h5⟩
def ptrV (g : Nat) : Value := .pointer (some ⟨g, 0, none⟩)
/-- a machine as at first, but for its first i threads -/
structure MkI (w0 w : World) (m : Nat) (c : Cf) (mp : Nat) (v lv : Value) (s : MS) (fp : Nat) (fv : Value) (draws : List Int) (gv : Value) (gs : Option (Nat × Value × List Int × Int × Int)) (tv : Value) (ptrs : List Nat) (l : Nat) : Prop where
  blk : Blk w m TM (machC c (ptrV mp) gv (ptrV fp) tv false false)
  parts : Parts w mp v lv s fp fv draws gv gs ptrs l
  ths : Sl w TTp 1 tv ptrs.length (ptrs.map ptrV)
  up : Upd [] w0 w
  f1 : w0.heap.size ≤ m
  f2 : ∀ k ∈ mfoot mp v lv, w0.heap.size ≤ k
  f3 : ∀ g, tv.ownBlock = some g → w0.heap.size ≤ g
  f4 : ∀ x, gs = some x → w0.heap.size ≤ x.1 ∧ ∀ g, x.2.1.ownBlock = some g → w0.heap.size ≤ g
  f5 : ∀ g ∈ ptrs, w0.heap.size ≤ g
  f6 : w0.heap.size ≤ fp ∧ ∀ g, fv.ownBlock = some g → w0.heap.size ≤ g
def ghL (gh : Bool) (A N : Int) (o : Option (Nat × Value)) : Option (Nat × Value × List Int × Int × Int) := match gh, o with | true, some (p, v) => some (p, v, liveL N.toNat (sentP A).toNat, 0, 0) | _, _ => none
end Go.Proofs.Ytdomclcokkijjaa
