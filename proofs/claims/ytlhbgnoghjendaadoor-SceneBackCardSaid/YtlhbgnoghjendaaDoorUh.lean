/- Which scripts are light; a Builder that is written; the scene of a script: the walk of Show. -/
import Derived.Test.YtlhbgnoghjendaaDoorUg
import Derived.Test.YtlhbgnoghjendaaDoorOe
namespace Go.Proofs.YtlhbgnoghjendaaDoor
open Go.RowKit
attribute [local irreducible] Instr.loadAt Instr.storeAt Instr.fieldAt Instr.indexAt Instr.sliceAt Instr.buildSlice Instr.box Instr.alloc Builtin.append_ Builtin.len_ Builtin.min_ Builtin.max_ Calls Instr.build Instr.makeSlice binSem convert Instr.index Instr.range Instr.next
attribute [local irreducible] Builtin.unsafeSliceData_ Builtin.unsafeString_
open Lib (IsBuilder BuilderAt strCells byteCells)
def lightS (ls : List (List C3)) (ps ds : List Int) : Prop := ls.length ≤ 20 ∧ tot ls ≤ 200 ∧ ps.length ≤ 2000 ∧ ds.length ≤ 5000
def by_ (xs : List Int) : List UInt8 := xs.map fun n => UInt8.ofNat n.toNat
theorem by_str (xs : List Int) : strOfNums xs = ⟨(by_ xs).toArray⟩ := rfl
theorem by_cells (xs : List Int) : strCells (strOfNums xs) = byteCells (by_ xs) := rfl
theorem by_app (a b : List Int) : byteCells (by_ (a ++ b)) = byteCells (by_ a) ++ byteCells (by_ b) := by unfold by_; rw [List.map_append, Lib.byteCells_append]
theorem by_len (a : List Int) : (byteCells (by_ a)).length = a.length := by rw [Lib.byteCells_length]; simp [by_]
section
variable {w w' : World} {B b : Nat} {bs : List Value}
theorem bld_upd {p : Value} (h : BuilderAt TB TU8 B b p bs w) (hu : Upd [] w w') : BuilderAt TB TU8 B b p bs w' := by
  obtain ⟨v, hv, hown, hne, hB⟩ := BuilderAt.blk h
  refine ⟨hB, v, hv.upd hu (by simp), ⟨hown.1, ?_⟩, hne⟩
  rcases hown.2 with h1 | ⟨g, cap, cur, h1, h2, h3, h4⟩
  · exact .inl h1
  · have hg : g < w.heap.size := (Array.getElem?_eq_some_iff.1 h3).1
    exact .inr ⟨g, cap, cur, h1, h2, (hu.block g hg (by simp)).trans h3, h4⟩
theorem isb_upd (h : IsBuilder TB TU8 B b bs w) (hu : Upd [] w w') : IsBuilder TB TU8 B b bs w' := h.imp (bld_upd · hu) (bld_upd · hu)
end
/-- a Builder that holds l, in a world behind w0 (its block is w0's next one) -/
structure Bl (w0 : World) (l : List Int) (w : World) : Prop where
  isb : IsBuilder TB TU8 w0.heap.size w0.heap.size (byteCells (by_ l)) w
  up : Upd [] w0 w
  sz : w0.heap.size + 1 ≤ w.heap.size
theorem Bl.new {w0 w : World} (hb : Blk w w0.heap.size TB #[.pointer none, .slice none 0 0]) (hu : Upd [] w0 w) (hs : w.heap.size = w0.heap.size + 1) : Bl w0 [] w :=
  ⟨.inl ⟨Nat.le_refl _, .slice none 0 0, hb, World.ownsRow_nil _ _ _ _, by simp [Value.ownBlock]⟩, hu, by omega⟩
theorem Bl.upd0 {w0 w w' : World} {l : List Int} (h : Bl w0 l w) (hu : Upd [] w w') : Bl w0 l w' := ⟨isb_upd h.isb hu, h.up.trans hu, by have := h.sz; have := hu.size; omega⟩
theorem Bl.write {w0 w : World} {l s : List Int} (h : Bl w0 l w) (hl : l.length + s.length ≤ 100000000) : Fn Tryd.prog 45 #[pB w0.heap.size, .string (strOfNums s)] w fun _ w' => Bl w0 (l ++ s) w' :=
  (write_c h.isb (by have := h.sz; omega) (strOfNums s) (by rw [by_len, strOfNums_size]; omega)).mono fun _ w' ⟨u, he, h1, h2, h3⟩ =>
    ⟨u, he, .inr (by rw [by_app, ← by_cells s]; exact h1), Upd.of_below (h.up.below.trans h2), by have := h.sz; omega⟩
theorem Bl.string {w0 w : World} {l : List Int} (h : Bl w0 l w) (h0 : l ≠ []) (hl : l.length ≤ 100000000) : Fn Tryd.prog 50 #[pB w0.heap.size] w fun r w' => r = .string (strOfNums l) ∧ Upd [] w0 w' := by
  have hne : by_ l ≠ [] := fun hh => h0 (by simpa [by_] using hh)
  have hbl : (by_ l).length ≤ 140737488355328 := by simp [by_]; omega
  have hS : Fn Tryd.prog 50 #[pB w0.heap.size] w fun r w' => r = .string ⟨(by_ l).toArray⟩ ∧ Below w0.heap.size w w' := by
    rcases h.isb with hI | hI
    · exact string_c hI hne hbl
    · exact string_c hI hne hbl
  exact hS.mono fun _ w' ⟨u, he, h1, h2⟩ => ⟨u, he, h1, Upd.of_below (h.up.below.trans h2)⟩
/-! ### The lines -/
def callL (x : C3) : List Int := showL x.1 x.2.1.toNat x.2.2.toNat
def t_thread : List Int := [116,104,114,101,97,100,32]
def thrL (t : Nat) : List Int := t_thread ++ decB t
def bodyN (ls : List (List C3)) : Nat → List (List Int)
  | 0 => []
  | k + 1 => bodyN ls k ++ (thrL k :: (ls.getD k []).map callL)
def linesL (c : Cf) (ls : List (List C3)) (ps ds : List Int) : List (List Int) := confL c :: bodyN ls ls.length ++ [pickL ps, drawL ds]
def textU (L : List (List Int)) : List Int := L.flatMap (· ++ [10])
theorem textU_app (a b : List (List Int)) : textU (a ++ b) = textU a ++ textU b := by simp [textU]
theorem textU_one (a : List Int) : textU [a] = a ++ [10] := by simp [textU]
theorem textU_len : ∀ (L : List (List Int)), (∀ l ∈ L, l.length ≤ 50000) → (textU L).length ≤ 50001 * L.length
  | [], _ => by simp [textU]
  | x :: L, h => by
    have h1 := textU_len L (fun l hl => h l (List.mem_cons_of_mem _ hl))
    have h2 := h x List.mem_cons_self
    show (x ++ [10] ++ textU L).length ≤ _
    simp only [List.length_append, List.length_cons, List.length_nil]
    omega
def okC (x : C3) : Prop := (0 ≤ x.2.1 ∧ x.2.1 ≤ 4294967295) ∧ (0 ≤ x.2.2 ∧ x.2.2 ≤ 4294967295)
def okCs (ls : List (List C3)) : Prop := ∀ l ∈ ls, ∀ x ∈ l, okC x
theorem showL_len (o : Int) (k v : Nat) (hk : k < 4294967296) (hv : v < 4294967296) : (showL o k v).length ≤ 30 := by
  have l1 : (decB k).length ≤ 10 := decB_len 9 k (by omega)
  have l2 : (decB v).length ≤ 10 := decB_len 9 v (by omega)
  unfold showL
  repeat' split
  all_goals simp
  omega
theorem callL_len {x : C3} (h : okC x) : (callL x).length ≤ 30 := showL_len _ _ _ (by have := h.1; omega) (by have := h.2; omega)
theorem thrL_len (t : Nat) (ht : t ≤ 20) : (thrL t).length ≤ 20 := by
  have : (decB t).length ≤ 10 := decB_len 9 t (by omega)
  unfold thrL
  rw [List.length_append]
  show 7 + _ ≤ _
  omega
theorem bodyN_mem {ls : List (List C3)} (h : okCs ls) : ∀ k, k ≤ ls.length → k ≤ 20 → ∀ l ∈ bodyN ls k, l.length ≤ 50000
  | 0, _, _, l, hl => by simp [bodyN] at hl
  | k + 1, hk, hk2, l, hl => by
    simp only [bodyN, List.mem_append, List.mem_cons, List.mem_map] at hl
    rcases hl with hl | rfl | ⟨x, hx, rfl⟩
    · exact bodyN_mem h k (by omega) (by omega) l hl
    · have := thrL_len k (by omega); omega
    · have hm : ls.getD k [] ∈ ls := by simp [List.getD, show k < ls.length by omega]
      have := callL_len (h _ hm x hx); omega
theorem bodyN_len (ls : List (List C3)) : ∀ k, k ≤ ls.length → (bodyN ls k).length = k + tot (ls.take k)
  | 0, _ => by simp [bodyN, tot]
  | k + 1, hk => by
    have := bodyN_len ls k (by omega)
    have h2 := tot_take ls k (by omega)
    simp only [bodyN, List.length_append, List.length_cons, List.length_map]
    omega
theorem confL_len {c : Cf} (h : rightC c) : (confL c).length ≤ 147 := by
  have := kindL_len c.A
  have := tailL_len h 7 (by omega)
  unfold confL
  rw [List.length_append]; omega
/-- so long is a text of the first k threads, with j calls of the next one -/
theorem text_bd {c : Cf} {ls : List (List C3)} (hc : rightC c) (hok : okCs ls) (h20 : ls.length ≤ 20) (ht : tot ls ≤ 200) (k j : Nat) (hk : k ≤ ls.length) (hj : k < ls.length ∧ j ≤ (ls.getD k []).length ∨ j = 0) (x : List Int) (hx : x.length ≤ 20) :
    (textU (confL c :: bodyN ls k ++ (x :: ((ls.getD k []).take j).map callL))).length ≤ 30000000 := by
  have h1 := textU_len (confL c :: bodyN ls k ++ (x :: ((ls.getD k []).take j).map callL)) (fun l hl => by
    simp only [List.cons_append, List.mem_cons, List.mem_append, List.mem_map] at hl
    rcases hl with rfl | hl | rfl | ⟨y, hy, rfl⟩
    · have := confL_len hc; omega
    · exact bodyN_mem hok k hk (by omega) l hl
    · omega
    · rcases hj with ⟨hk2, -⟩ | rfl
      · have hm : ls.getD k [] ∈ ls := by simp [List.getD, hk2]
        have := callL_len (hok _ hm y (List.mem_of_mem_take hy)); omega
      · simp at hy)
  have h2 := bodyN_len ls k hk
  have h3 := tot_le ls k
  have h4 : ((ls.getD k []).take j).length ≤ 200 := by
    rcases hj with ⟨hk2, hj⟩ | rfl
    · have := tot_take ls k hk2
      have := tot_le ls (k + 1)
      rw [List.length_take]; omega
    · simp
  simp only [List.cons_append, List.length_cons, List.length_append, List.length_map] at h1 ⊢
  omega
end Go.Proofs.YtlhbgnoghjendaaDoor
