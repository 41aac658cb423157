/- Contracts: a thread's frames. -/
import Derived.Test.YtdomclcokkijjaaEh
import Derived.Test.YtdomclcokkijjaaV17
namespace Go.Proofs.Ytdomclcokkijjaa
open Go.RowKit
attribute [local irreducible] Instr.loadAt Instr.storeAt Instr.fieldAt Instr.indexAt Instr.sliceAt Instr.buildSlice Instr.box Instr.alloc Builtin.append_ Builtin.len_ Builtin.min_ Builtin.max_ Calls Instr.build Instr.makeSlice binSem convert Instr.index Instr.range Instr.next
attribute [local irreducible] Builtin.copy_
structure Fr where
  (fn pc : Int)
  R : List Int
def regsC (n : Nat) (l : List Int) : List Value := (List.range n).map fun k => .int .u64 (l.getD k 0)
def frC (f : Fr) : List Value := .int .i64 f.fn :: .int .i64 f.pc :: regsC 10 f.R
theorem frC_len (f : Fr) : (frC f).length = 12 := by simp [frC, regsC]
def framesC (fs : List Fr) : List Value := fs.flatMap frC
theorem framesC_app (a b : List Fr) : framesC (a ++ b) = framesC a ++ framesC b := by simp [framesC]
theorem framesC_one (f : Fr) : framesC [f] = frC f := by simp [framesC]
theorem framesC_len : ∀ fs : List Fr, (framesC fs).length = fs.length * 12
  | [] => rfl
  | f :: fs => by
    show (frC f ++ framesC fs).length = _
    rw [List.length_append, frC_len, framesC_len fs, List.length_cons]; omega
theorem pad_eq (l : List Int) (n : Nat) : (l.map (Value.int .u64)).take n ++ (List.replicate n (Value.int .u64 0)).drop (min l.length n) = regsC n l := by
  apply List.ext_getElem
  · simp [regsC]; omega
  · intro i h1 h2
    have hi : i < n := by simpa [regsC] using h2
    rw [List.getElem_append]
    simp only [regsC, List.getElem_map, List.getElem_range]
    split
    · rename_i h
      have : i < l.length := by simp at h; omega
      simp [List.getD, this]
    · rename_i h
      have : ¬ i < l.length := by simp at h; omega
      simp [List.getD, this]
abbrev TF : Nat := 39
structure IsThr (w : World) (g : Nat) (id : Int) (fv : Value) (fs : List Fr) (r : Int × Int × Int) (pv sv wv rv ov : Value) : Prop where
  blk : Blk w g TT (thrC id fv r pv sv wv rv ov)
  fr : Sl w TF 12 fv fs.length (framesC fs)
section
variable {P : Program} {K : World → Prop} {w : World}
theorem stm {t n g T o : Nat} [AggT P t n] {cs new : Array Value} (hb : Blk w g T cs) (hl : o + n ≤ cs.size) (hn : new.toList.length = n) (h1 : new.toList.all (·.oneCell') = true)
    (k : ∀ w', Blk w' g T (new.toList.zipIdx.foldl (fun cs (v, i) => cs.setIfInBounds (o + i) v) cs) → Upd [g] w w' → w'.heap.size = w.heap.size → K w') : RunU P (Instr.storeAt t (.pointer (some ⟨g, o, none⟩)) (.agg new)) K w := by
  obtain ⟨h2, h3, h4⟩ := run_setCells_blk g T new.toList o w cs hb
  refine ⟨⟨_, run_storeAt_mid w g o t new (fun j hj => ?_) (by rw [AggT.i (P := P) (t := t) (n := n)]; simpa using hn.symm) (by rw [← Array.all_toList]; exact h1), k _ h2 h3 h4⟩⟩
  refine ⟨?_, hb.frozen _⟩
  rw [hb.cell]
  have hj : j < new.toList.length := by simpa using hj
  have : o + j < cs.size := by omega
  simp [this]
end
theorem Sl.init {w : World} {e n m : Nat} {a : Option Addr} {cap : Nat} {xs ys : List Value} (h : Sl w e n (.slice a (m + 1) cap) (m + 1) (xs ++ ys)) (hy : ys.length = n) : Sl w e n (.slice a m cap) m xs := by
  obtain ⟨hl, h⟩ := h
  rw [List.length_append, hy, Nat.add_mul, Nat.one_mul] at hl
  refine ⟨by omega, ?_⟩
  rcases h with ⟨h0, h1⟩ | ⟨g, off, cap', cur, he, hb, hc, hm, hs, ht⟩
  · omega
  · injection he with e1 e2 e3
    subst e1; subst e3
    refine .inr ⟨g, off, cap, cur, rfl, hb, by omega, hm, hs, ?_⟩
    have := congrArg (List.take (m * n)) ht
    rw [List.take_take, List.take_append_of_le_length (by omega), List.take_of_length_le (by omega : xs.length ≤ m * n)] at this
    rw [← this]
    congr 1
    rw [Nat.add_mul, Nat.one_mul]; omega
set_option maxRecDepth 10000 in
theorem push_c {w : World} {g : Nat} {id : Int} {fv : Value} {fs : List Fr} {r : Int × Int × Int} {pv sv wv rv ov v : Value} {l : List Int} (h : IsThr w g id fv fs r pv sv wv rv ov) (hf : fs.length ≤ 100000) (hv : RdK w .u64 v l) (hl : l.length ≤ 100000) (fn : Int) :
    Fn Try.prog 16 #[ptrV g, .int .i64 fn, v] w fun _ w' => ∃ fv', IsThr w' g id fv' (fs ++ [⟨fn, 0, l⟩]) r pv sv wv rv ov ∧ Upd (g :: fv.ownBlock.toList) w w' ∧ ∀ q, fv'.ownBlock = some q → fv.ownBlock = some q ∨ w.heap.size ≤ q := by
  refine fn_enter Try.func16 rfl rfl ?_
  refine ptr_eq ?_
  refine bd (frC ⟨fn, 0, []⟩).toArray (fun _ => by kernel_rfl) ?_
  refine al (frC ⟨0, 0, []⟩).toArray (fun _ => by kernel_rfl) fun w1 hb1 hu1 hs1 => ?_
  refine stw hb1 rfl rfl rfl fun w2 hb2 hu2 hs2 => ?_
  have hU2 : Upd [] w w2 := hu1.step hu2 (by simp)
  refine fa ?_
  refine sla ?_
  refine cpy hb2 (hv.upd0 hU2).rd (by show 0 + 2 + 10 ≤ 12; omega) one_ints fun w3 hb3 hu3 hs3 => ?_
  have hU3 : Upd [] w w3 := hU2.step hu3 (by simp)
  have hb3 : Blk w3 w.heap.size TF (frC ⟨fn, 0, l⟩).toArray := by
    have e : ((frC ⟨fn, 0, []⟩).toArray.toList.take (0 + 2) ++ (l.map (Value.int .u64)).take 10 ++ (frC ⟨fn, 0, []⟩).toArray.toList.drop (0 + 2 + min l.length 10)) = frC ⟨fn, 0, l⟩ := by
      have e1 : (frC ⟨fn, 0, []⟩).toArray.toList.drop (0 + 2 + min l.length 10) = (List.replicate 10 (Value.int .u64 0)).drop (min l.length 10) := by
        rw [show 0 + 2 + min l.length 10 = min l.length 10 + 1 + 1 by omega]; rfl
      rw [e1, List.append_assoc, pad_eq]; rfl
    rw [e] at hb3
    exact hb3
  have gb3 := h.blk.upd hU3 (by simp)
  have gs3 := h.fr.upd hU3 (by simp)
  have hlt := h.blk.lt
  have hne := gs3.blk_ne gb3 (by decide)
  have hnf : fv.ownBlock ≠ some w.heap.size := fun hq => by have := h.fr.lt _ hq; omega
  have sB : ∀ w', Upd fv.ownBlock.toList w3 w' → Blk w' g TT _ := fun w' hu => gb3.upd hu (by simpa using hne)
  have sF : ∀ w', Upd fv.ownBlock.toList w3 w' → Blk w' w.heap.size TF _ := fun w' hu => hb3.upd hu (by simpa using hnf)
  refine draw_mix 8 [(0, true), (1, true), (2, true), (3, true), (4, true), (5, true), (6, false), (7, false)] (fun w' => Upd fv.ownBlock.toList w3 w') (by decide +kernel) (Upd.refl _ w3).drew ?_
  refine q_fa ?_
  refine q_ld (v := fv) (fun w' hw' => (sB w' hw').cell 1) ?_
  refine rq (.agg (frC ⟨fn, 0, l⟩).toArray) (fun w' hw' => ldw (sF w' hw') rfl ⟨rfl, rfl⟩) ?_
  refine bs (frC ⟨fn, 0, l⟩).toArray (fun _ => by kernel_rfl) fun w4 hb4 hu4 hs4 => ?_
  have hu34 : Upd [] w3 w4 := (Upd.refl [] w3).drew.trans hu4
  refine ⟨hu34.mono (by simp), ?_⟩
  refine apg (gs3.upd hu34 (by simp)) hb4 rfl rfl (by decide) (by simp only [maxLen]; omega) (by omega) fun fv2 w5 hs5 hG5 => ?_
  have hu35 : Upd fv.ownBlock.toList w3 w5 := (hu34.mono (by simp)).trans hG5.up
  refine ⟨hu35, ?_⟩
  obtain ⟨fa2, fc2, rfl, -⟩ := hs5.form
  refine fa ?_
  refine st (sB w5 hu35) (by show 1 < 10; omega) rfl fun w6 hb6 hu6 hs6 => ?_
  refine ⟨_, ⟨hb6, ?_⟩, ((hU3.mono (by simp)).step hu35 (fun q hq => .inl (by simp at hq ⊢; exact .inr hq))).step hu6 (by simp), fun q hq => ?_⟩
  · have := hs5.farT (sB w5 hu35) (by decide) hu6
    rw [framesC_app, framesC_one, List.length_append]
    exact this
  · rcases hG5.own q hq with h1 | h1
    · exact .inl h1
    · right; have := hU3.size; have := hu34.size; omega
set_option maxRecDepth 10000 in
theorem pop_c {w : World} {g : Nat} {id : Int} {fv : Value} {fs : List Fr} {f : Fr} {r : Int × Int × Int} {pv sv wv rv ov v : Value} {l : List Int} (h : IsThr w g id fv (fs ++ [f]) r pv sv wv rv ov) (hf : fs.length ≤ 100000) (hv : ∀ w', Upd [g] w w' → RdK w' .u64 v l) :
    Fn Try.prog 17 #[ptrV g, v] w fun _ w' => ∃ fv', IsThr w' g id fv' fs (l.getD 0 0, l.getD 1 0, l.getD 2 0) pv sv wv rv ov ∧ Upd [g] w w' ∧ fv'.ownBlock = fv.ownBlock := by
  obtain ⟨fa0, fc0, rfl, -⟩ := h.fr.form
  have hfr := h.fr
  rw [framesC_app, framesC_one, List.length_append] at hfr
  have hfr : Sl w TF 12 (.slice fa0 (fs.length + 1) fc0) (fs.length + 1) (framesC fs ++ frC f) := by simpa using hfr
  have hblk := h.blk
  rw [List.length_append] at hblk
  have hblk : Blk w g TT (thrC id (.slice fa0 (fs.length + 1) fc0) r pv sv wv rv ov) := hblk
  obtain ⟨_, fcap, he, hcap, -⟩ := hfr.form
  injection he with _ _ he
  subst he
  refine fn_enter Try.func17 rfl rfl ?_
  refine ptr_eq ?_
  refine fa ?_
  refine ldb hblk rfl ?_
  refine len_sl ?_
  refine draw_tail 12 (by decide +kernel) ?_
  refine q_fa ?_
  refine q_ld (v := .slice fa0 (fs.length + 1) fc0) (by rintro _ rfl; exact hblk.drew.cell 1) ?_
  refine q_fa ?_
  refine q_ld (v := .slice fa0 (fs.length + 1) fc0) (by rintro _ rfl; exact hblk.drew.cell 1) ?_
  refine q_len ?_
  refine q_ar64 (by omega) ?_
  refine q_hi fs.length (by omega) (by omega) ?_
  refine fa ?_
  refine st hblk.drew (by show 1 < 10; omega) rfl fun w1 hb1 hu1 hs1 => ?_
  have hb1 : Blk w1 g TT (thrC id (.slice fa0 fs.length fc0) r pv sv wv rv ov) := hb1
  refine bd #[.int .u64 0, .int .u64 0, .int .u64 0] (fun _ => by kernel_rfl) ?_
  refine fa ?_
  refine stm hb1 (by show 0 + 2 + 3 ≤ 10; omega) rfl rfl fun w2 hb2 hu2 hs2 => ?_
  have hb2 : Blk w2 g TT (thrC id (.slice fa0 fs.length fc0) (0, 0, 0) pv sv wv rv ov) := hb2
  have hU2 : Upd [g] w w2 := ((Upd.refl [g] w).drew.trans hu1).trans hu2
  refine fa ?_
  refine sla ?_
  refine cpy hb2 (hv w2 hU2).rd (by show 0 + 2 + 3 ≤ 10; omega) one_ints fun w3 hb3 hu3 hs3 => ?_
  have hU3 := hU2.trans hu3
  refine ⟨.slice fa0 fs.length fc0, ⟨?_, ?_⟩, hU3, ?_⟩
  · have e : ((thrC id (.slice fa0 fs.length fc0) (0, 0, 0) pv sv wv rv ov).toList.take (0 + 2) ++ (l.map (Value.int .u64)).take 3 ++ (thrC id (.slice fa0 fs.length fc0) (0, 0, 0) pv sv wv rv ov).toList.drop (0 + 2 + min l.length 3)).toArray = thrC id (.slice fa0 fs.length fc0) (l.getD 0 0, l.getD 1 0, l.getD 2 0) pv sv wv rv ov := by
      match l with
      | [] => rfl
      | [a] => rfl
      | [a, b] => rfl
      | a :: b :: c :: rest =>
        have : min (a :: b :: c :: rest).length 3 = 3 := by simp
        rw [this]; rfl
    rw [e] at hb3
    exact hb3
  · have := hfr.init (frC_len f)
    exact this.farT hblk (by decide) hU3
  · cases fa0 <;> rfl
theorem top_none {w : World} {g : Nat} {id : Int} {fv : Value} {r : Int × Int × Int} {pv sv wv rv ov : Value} (h : IsThr w g id fv [] r pv sv wv rv ov) : Fn Try.prog 18 #[ptrV g] w fun r w' => r = .pointer none ∧ w' = w := by
  obtain ⟨fa0, fc0, rfl, -⟩ := h.fr.form
  refine fn_enter Try.func18 rfl rfl ?_
  refine ptr_eq ?_
  refine fa ?_
  refine ldb h.blk rfl ?_
  refine len_sl ?_
  exact ⟨rfl, rfl⟩
theorem top_c {w : World} {g : Nat} {id : Int} {fs : List Fr} {f : Fr} {r : Int × Int × Int} {pv sv wv rv ov : Value} {fb fo fc0 n : Nat} (h : IsThr w g id (.slice (some ⟨fb, fo, none⟩) n fc0) (fs ++ [f]) r pv sv wv rv ov) (hf : fs.length ≤ 100000) :
    Fn Try.prog 18 #[ptrV g] w fun r w' => r = .pointer (some ⟨fb, fo + fs.length * 12, none⟩) ∧ w' = w.drew := by
  have hfr := h.fr
  have hn : n = fs.length + 1 := by
    obtain ⟨a, c, he, -⟩ := hfr.form
    injection he with _ h2 _
    rw [h2]; simp
  subst hn
  have hcap : fs.length + 1 ≤ fc0 := by
    obtain ⟨a, c, he, hc, -⟩ := hfr.form
    injection he with _ _ h3
    subst h3
    simpa using hc
  have hblk := h.blk
  refine fn_enter Try.func18 rfl rfl ?_
  refine ptr_eq ?_
  refine fa ?_
  refine ldb hblk rfl ?_
  refine len_sl ?_
  refine draw_all (fun w' => w' = w.drew) (by decide +kernel) rfl ?_
  refine q_fa ?_
  refine q_ld (v := .slice (some ⟨fb, fo, none⟩) (fs.length + 1) fc0) (by rintro _ rfl; exact hblk.drew.cell 1) ?_
  refine q_fa ?_
  refine q_ld (v := .slice (some ⟨fb, fo, none⟩) (fs.length + 1) fc0) (by rintro _ rfl; exact hblk.drew.cell 1) ?_
  refine q_len ?_
  refine q_ar64 (by omega) ?_
  refine q_ix fs.length (by omega) (by omega) ?_
  rintro _ rfl
  exact ⟨rfl, rfl⟩
theorem IsThr.top {w : World} {g : Nat} {id : Int} {fs : List Fr} {f : Fr} {r : Int × Int × Int} {pv sv wv rv ov : Value} {fb fo fc0 n : Nat} (h : IsThr w g id (.slice (some ⟨fb, fo, none⟩) n fc0) (fs ++ [f]) r pv sv wv rv ov) (j : Nat) (hj : j < 12) : w.cell? ⟨fb, fo + fs.length * 12 + j, none⟩ = (frC f)[j]? := by
  have hfr := h.fr
  have hn : n = (fs ++ [f]).length := by
    obtain ⟨a, c, he, -⟩ := hfr.form
    injection he
  subst hn
  rw [framesC_app, framesC_one] at hfr
  have := (hfr.cells rfl (fs.length * 12 + j) (by rw [List.length_append, List.length_singleton]; omega)).1
  rw [Nat.add_assoc, this, List.getElem?_append_right (by rw [framesC_len]; omega), framesC_len]
  congr 1
  omega
theorem IsThr.upd0 {w w' : World} {g : Nat} {id : Int} {fv : Value} {fs : List Fr} {r : Int × Int × Int} {pv sv wv rv ov : Value} (h : IsThr w g id fv fs r pv sv wv rv ov) (hu : Upd [] w w') : IsThr w' g id fv fs r pv sv wv rv ov := ⟨h.blk.upd hu (by simp), h.fr.upd hu (by simp)⟩
theorem push_nil (fn : Int) (v : Value) (w : World) : Fn Try.prog 16 #[.pointer none, .int .i64 fn, v] w fun _ w' => w' = w := by
  refine fn_enter Try.func16 rfl rfl ?_
  refine ptr_eq0 ?_
  rfl
theorem pop_nil (v : Value) (w : World) : Fn Try.prog 17 #[.pointer none, v] w fun _ w' => w' = w := by
  refine fn_enter Try.func17 rfl rfl ?_
  refine ptr_eq0 ?_
  rfl
theorem top_nil (w : World) : Fn Try.prog 18 #[.pointer none] w fun r w' => r = .pointer none ∧ w' = w := by
  refine fn_enter Try.func18 rfl rfl ?_
  refine ptr_eq0 ?_
  exact ⟨rfl, rfl⟩
end Go.Proofs.Ytdomclcokkijjaa
