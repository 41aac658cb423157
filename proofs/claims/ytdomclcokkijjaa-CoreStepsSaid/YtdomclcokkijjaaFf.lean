/- Contracts: a machine's frames; a step of a thread. -/
import Derived.Test.YtdomclcokkijjaaFe
import Derived.Test.YtdomclcokkijjaaV18
namespace Go.Proofs.Ytdomclcokkijjaa
open Go.RowKit
attribute [local irreducible] Instr.loadAt Instr.storeAt Instr.fieldAt Instr.indexAt Instr.sliceAt Instr.buildSlice Instr.box Instr.alloc Builtin.append_ Builtin.len_ Builtin.min_ Builtin.max_ Calls Instr.build Instr.makeSlice binSem convert Instr.index Instr.range Instr.next
attribute [local irreducible] Builtin.copy_
instance : FnT Try.prog 128 := ⟨⟨_, _, _, Try.underlying128⟩⟩
/-- a block of the caller's own, beside a machine -/
structure Aside (w : World) (X : Mc) (g T : Nat) (cs : Array Value) : Prop where
  b : Blk w g T cs
  n : g ∉ X.feet
section
variable {w w' : World} {X X' : Mc} {g T : Nat} {cs : Array Value}
theorem Aside.post (h : Aside w X g T cs) (p : Post w X w' X') : Aside w' X' g T cs := ⟨h.b.upd p.to.up h.n, fun hm => by
  rcases p.to.sub _ hm with h1 | h1
  · exact h.n h1
  · have := h.b.lt; omega⟩
theorem Aside.upd0 (h : Aside w X g T cs) (hu : Upd [] w w') : Aside w' X g T cs := ⟨h.b.upd hu (by simp), h.n⟩
/-- the caller's own block changes -/
theorem Mach.aside (h : Mach w X) (hg : g ∉ X.feet) (hu : Upd [g] w w') : Mach w' X := Sep.upd h hu (fun k hk hm => by
  have := List.mem_singleton.1 hm
  subst this
  exact hg hk)
theorem ths_lt {i : Nat} {t : Th} (hi : X.ths[i]? = some t) : i < X.ths.length := (List.getElem?_eq_some_iff.1 hi).1
theorem feet_thr {i : Nat} {t : Th} (hi : X.ths[i]? = some t) : ∀ k ∈ t.g :: t.fv.ownBlock.toList, k ∈ X.feet := fun k hk =>
  mem_feet.2 ⟨obThr (i : Int) t, List.mem_of_getElem? (obs_thr X i t hi), mem_feet.2 ⟨obCore (i : Int) t, by simp [Th.obs], hk⟩⟩
theorem push_mm (h : Mach w X) {i : Nat} {t : Th} (hi : X.ths[i]? = some t) (hf : t.fs.length ≤ 100000) {v : Value} {l : List Int} (hv : RdK w .u64 v l) (hl : l.length ≤ 100000) (fn : Int) :
    Fn Try.prog 16 #[ptrV t.g, .int .i64 fn, v] w fun _ w' => ∃ fv', Post w X w' { X with ths := X.ths.set i { t with fv := fv', fs := t.fs ++ [⟨fn, 0, l⟩] } } :=
  (push_c (h.core hi) hf hv hl fn).mono fun _ w' ⟨u, he, fv', h1, h2, h3⟩ => ⟨u, he, fv', h.setCore hi h1 ⟨h2, fun k hk => by
    rcases List.mem_cons.1 hk with e | e
    · exact .inl (by rw [e]; simp)
    · rcases h3 k (by simpa using e) with e1 | e1
      · exact .inl (List.mem_cons_of_mem _ (by simpa using e1))
      · exact .inr e1⟩⟩
theorem pop_mm (h : Mach w X) {i : Nat} {t : Th} (hi : X.ths[i]? = some t) {fs : List Fr} {f : Fr} (hfs : t.fs = fs ++ [f]) (hf : fs.length ≤ 100000) {v : Value} {l : List Int} (hv : ∀ w', Upd [t.g] w w' → RdK w' .u64 v l) :
    Fn Try.prog 17 #[ptrV t.g, v] w fun _ w' => ∃ fv', Post w X w' { X with ths := X.ths.set i { t with fv := fv', fs := fs, r := (l.getD 0 0, l.getD 1 0, l.getD 2 0) } } := by
  have hc := h.core hi
  rw [hfs] at hc
  exact (pop_c hc hf hv).mono fun _ w' ⟨u, he, fv', h1, h2, h3⟩ => ⟨u, he, fv', h.setCore hi h1 ⟨h2.mono (by simp), fun k hk => by
    rw [h3] at hk
    exact .inl hk⟩⟩
theorem top_mm (h : Mach w X) {i : Nat} {t : Th} (hi : X.ths[i]? = some t) {fs : List Fr} {f : Fr} (hfs : t.fs = fs ++ [f]) (hf : fs.length ≤ 100000) {fb fo fc : Nat} (hv : t.fv = .slice (some ⟨fb, fo, none⟩) t.fs.length fc) :
    Fn Try.prog 18 #[ptrV t.g] w fun r w' => r = .pointer (some ⟨fb, fo + fs.length * 12, none⟩) ∧ w' = w.drew := by
  have hc := h.core hi
  rw [hv, hfs] at hc
  exact top_c hc hf
theorem top_no (h : Mach w X) {i : Nat} {t : Th} (hi : X.ths[i]? = some t) (hfs : t.fs = []) : Fn Try.prog 18 #[ptrV t.g] w fun r w' => r = .pointer none ∧ w' = w := by
  have hc := h.core hi
  rw [hfs] at hc
  exact top_none hc
theorem Mach.fr_ (h : Mach w X) {i : Nat} {t : Th} (hi : X.ths[i]? = some t) (hfs : t.fs ≠ []) : ∃ fb fo fc, t.fv = .slice (some ⟨fb, fo, none⟩) t.fs.length fc := by
  obtain ⟨fb, fo, fc, h1, -⟩ := (h.core hi).fr.some_ (List.length_pos_iff.2 hfs)
  exact ⟨fb, fo, fc, h1⟩
theorem Mach.top (h : Mach w X) {i : Nat} {t : Th} (hi : X.ths[i]? = some t) {fs : List Fr} {f : Fr} (hfs : t.fs = fs ++ [f]) {fb fo fc : Nat} (hv : t.fv = .slice (some ⟨fb, fo, none⟩) t.fs.length fc) (j : Nat) (hj : j < 12) : w.cell? ⟨fb, fo + fs.length * 12 + j, none⟩ = (frC f)[j]? := by
  have hc := h.core hi
  rw [hv, hfs] at hc
  exact hc.top j hj
/-- one cell of the top frame is written -/
theorem st_fr {ty : Nat} [One Try.prog ty] {K : World → Prop} (h : Mach w X) {i : Nat} {t : Th} (hi : X.ths[i]? = some t) {fs : List Fr} {f f' : Fr} (hfs : t.fs = fs ++ [f]) {fb fo fc : Nat} (hv : t.fv = .slice (some ⟨fb, fo, none⟩) t.fs.length fc) (j : Nat) (hj : j < 12) {a : Nat} (ha : a = fo + fs.length * 12 + j) {u : Value} (hu : u.oneCell' = true)
    (hf : frC f' = (frC f).set j u) (k : ∀ w', Post w X w' { X with ths := X.ths.set i { t with fs := fs ++ [f'] } } → K w') : RunU Try.prog (Instr.storeAt ty (.pointer (some ⟨fb, a, none⟩)) u) K w := by
  have hc := h.core hi
  have hs := hc.fr
  have hl : t.fs.length = fs.length + 1 := by rw [hfs]; simp
  refine stC (fs.length * 12 + j) hs hv (by omega) (by omega) hu fun w' hs' hu' _ => k w' (h.setCore hi ⟨hc.blk.upd hu' ?_, ?_⟩ ⟨hu'.mono (by rw [hv]; simp [Value.ownBlock]), fun _ h => .inl h⟩)
  · intro hm
    have := hs.blk_ne hc.blk (by decide)
    rw [hv, List.mem_singleton.1 hm] at this
    exact this rfl
  · have e : (framesC t.fs).set (fs.length * 12 + j) u = framesC (fs ++ [f']) := by
      rw [hfs, framesC_app, framesC_app, framesC_one, framesC_one, hf, List.set_append_right _ _ (by rw [framesC_len]; omega), framesC_len]
      congr 2
      omega
    rw [e, hl] at hs'
    rw [List.length_append]
    exact hs'
theorem frC_pc (f : Fr) (x : Int) : frC { f with pc := x } = (frC f).set 1 (.int .i64 x) := rfl
def regI (l : List Int) (k : Nat) (x : Int) : List Int := (List.range 10).map fun j => if j = k then x else l.getD j 0
theorem regI_at (l : List Int) (k : Nat) (x : Int) (j : Nat) (hj : j < 10) : (regI l k x).getD j 0 = if j = k then x else l.getD j 0 := by simp [regI, List.getD, hj]
theorem frC_reg (f : Fr) (k : Nat) (hk : k < 10) (x : Int) : frC { f with R := regI f.R k x } = (frC f).set (2 + k) (.int .u64 x) := by
  rw [show 2 + k = k + 1 + 1 by omega]
  show (Value.int .i64 f.fn) :: (.int .i64 f.pc) :: regsC 10 (regI f.R k x) = (Value.int .i64 f.fn) :: (.int .i64 f.pc) :: (regsC 10 f.R).set k (.int .u64 x)
  congr 2
  apply List.ext_getElem?
  intro j
  rw [List.getElem?_set]
  by_cases hj : j < 10
  · simp only [regsC, List.getElem?_map, List.getElem?_range hj, Option.map_some, List.length_map, List.length_range]
    rw [regI_at _ _ _ _ hj]
    by_cases e : k = j
    · subst e; simp [hk]
    · rw [if_neg (fun h => e h.symm), if_neg e]
  · have : ¬ k = j := by omega
    rw [if_neg this]
    simp [regsC, hj]
end
/-- a step of a thread: J is what is so between the rounds -/
theorem step_mm {w : World} {X : Mc} {i f g0 : Nat} {ys : Array Value} [HasBody Try.prog f] (J : Mc → World → Nat → Prop) (n : Nat) {t0 : Th} (h : Mach w X) (hi : X.ths[i]? = some t0) (hg : t0.g = g0) (hl : X.ths.length ≤ 100)
    (h0 : ∀ w', Post w X w' { X with acted := false } → J { X with acted := false } w' n)
    (hJ : ∀ Y w' n, J Y w' n → Mach w' Y ∧ Y.m = X.m ∧ ∃ t, Y.ths[i]? = some t ∧ t.g = g0 ∧ t.fs.length ≤ 100000)
    (hr : ∀ Y w' n t, J Y w' n → Y.ths[i]? = some t → Y.acted = false → t.fs ≠ [] → Fn Try.prog f (#[] ++ [ptrV X.m, ptrV g0].toArray ++ ys) w' fun _ w'' => ∃ Y' n', J Y' w'' n' ∧ n' < n) :
    Fn Try.prog 47 #[ptrV X.m, .int .i64 (i : Int), .func (.func f) #[] ys] w fun r w' => ∃ Y n' t, J Y w' n' ∧ Y.ths[i]? = some t ∧ (Y.acted = true ∨ t.fs = []) ∧ r = .bool (decide ((t.fs.length : Int) > 0)) := by
  have hsz : 19 < (machC X.c (ptrV X.mp) (gvOf X.gs) (ptrV X.fp) X.tv X.acted X.bad).size := by cases X.c; show 19 < 21; omega
  refine fn_enter Try.func47 rfl rfl ?_
  refine cl (thread_mm h hi hl) ?_
  rintro _ _ ⟨rfl, rfl⟩
  refine ptr_eq ?_
  refine fn_eq ?_
  refine fa ?_
  refine st h.blk hsz rfl fun w1 hb1 hu1 hs1 => ?_
  have p1 : Post _ X w1 { X with acted := false } := h.setM (b := X.bad) (by cases hc : X.c; rw [hc] at hb1; exact hb1) hu1
  refine loop_rule [0, 2, 7] [] (fun vs w' m => vs = [] ∧ ∃ Y, J Y w' m) rfl [] n rfl ⟨rfl, _, h0 w1 p1⟩ ?_
  rintro _ w2 m ⟨rfl, Y, j2⟩
  obtain ⟨hY, hm, t, ht, htg, htl⟩ := hJ Y w2 m j2
  have hb := hY.blk
  rw [hm] at hb
  have hc := (hY.core ht).blk
  rw [htg] at hc
  rw [hg]
  obtain ⟨fa0, fc0, hfv, -⟩ := (hY.core ht).fr.form
  have hlen : thrC (i : Int) t.fv t.r t.pv t.sv t.wv t.rv t.ov = thrC (i : Int) (.slice fa0 t.fs.length fc0) t.r t.pv t.sv t.wv t.rv t.ov := by rw [hfv]
  rw [hlen] at hc
  have hend : ∀ r, r = Value.bool (decide ((t.fs.length : Int) > 0)) → (Y.acted = true ∨ t.fs = []) → ∃ Y n' t, J Y w2 n' ∧ Y.ths[i]? = some t ∧ (Y.acted = true ∨ t.fs = []) ∧ r = .bool (decide ((t.fs.length : Int) > 0)) := fun r hr ho => ⟨Y, m, t, j2, ht, ho, hr⟩
  refine fa ?_
  refine ldb hb (v := .bool Y.acted) (by cases Y.c; rfl) ?_
  cases ha : Y.acted with
  | true =>
    refine fa ?_
    refine ldb hc rfl ?_
    refine len_sl ?_
    exact hend _ rfl (.inl ha)
  | false =>
    refine fa ?_
    refine ldb hc rfl ?_
    refine len_sl ?_
    refine cd (fun hpos => ?_) (fun hpos => ?_)
    · have hne : t.fs ≠ [] := fun e => by rw [e] at hpos; simp at hpos
      refine cl (hr Y w2 m t j2 ht ha hne) ?_
      rintro _ w3 ⟨Y', n', j3, hn'⟩
      exact round_mk [] n' rfl rfl ⟨rfl, Y', j3⟩ hn'
    · refine fa ?_
      refine ldb hc rfl ?_
      refine len_sl ?_
      refine hend _ rfl (.inr (List.eq_nil_of_length_eq_zero (by omega)))
theorem step_no {w : World} {X : Mc} {i : Int} {r : Value} (h : Mach w X) (hi : i < 0 ∨ (X.ths.length : Int) ≤ i) : Fn Try.prog 47 #[ptrV X.m, .int .i64 i, r] w fun r w' => r = .bool false ∧ w' = w := by
  refine fn_enter Try.func47 rfl rfl ?_
  refine cl (thread_no h i hi) ?_
  rintro _ _ ⟨rfl, rfl⟩
  refine ptr_eq0 ?_
  exact ⟨rfl, rfl⟩
theorem step_nil {w : World} {X : Mc} {i : Nat} {t : Th} (h : Mach w X) (hi : X.ths[i]? = some t) (hl : X.ths.length ≤ 100) : Fn Try.prog 47 #[ptrV X.m, .int .i64 (i : Int), .nilFunc] w fun r w' => r = .bool false ∧ w' = w := by
  refine fn_enter Try.func47 rfl rfl ?_
  refine cl (thread_mm h hi hl) ?_
  rintro _ _ ⟨rfl, rfl⟩
  refine ptr_eq ?_
  refine fn_eq0 ?_
  exact ⟨rfl, rfl⟩
theorem step_none (w : World) (i : Int) (r : Value) : Fn Try.prog 47 #[.pointer none, .int .i64 i, r] w fun r w' => r = .bool false ∧ w' = w := by
  refine fn_enter Try.func47 rfl rfl ?_
  have ht : Fn Try.prog 39 #[.pointer none, .int .i64 i] w fun r w' => r = .pointer none ∧ w' = w := by
    refine fn_enter Try.func39 rfl rfl ?_
    refine ptr_eq0 ?_
    exact ⟨rfl, rfl⟩
  refine cl ht ?_
  rintro _ _ ⟨rfl, rfl⟩
  refine ptr_eq0 ?_
  exact ⟨rfl, rfl⟩
theorem fault_none (w : World) : Fn Try.prog 31 #[.pointer none] w fun r w' => r = .bool false ∧ w' = w := by
  refine fn_enter Try.func31 rfl rfl ?_
  refine ptr_ne0 ?_
  exact ⟨rfl, rfl⟩
theorem load_none (w : World) (a : Int) : Fn Try.prog 45 #[.pointer none, .int .i64 a] w fun r w' => r = .int .u64 0 ∧ Upd [] w w' := by
  have ht : ∀ (w : World) (v : Value), Fn Try.prog 73 #[.pointer none, v] w fun r w' => r = .bool false ∧ w' = w := fun w v => by
    refine fn_enter Try.func73 rfl rfl ?_
    refine ptr_eq0 ?_
    exact ⟨rfl, rfl⟩
  refine fn_enter Try.func45 rfl rfl ?_
  refine bs #[.int .i64 a] (fun _ => by kernel_rfl) fun w1 hb1 hu1 hs1 => ?_
  refine cl (ht w1 _) ?_
  rintro _ _ ⟨rfl, rfl⟩
  exact ⟨rfl, hu1⟩
end Go.Proofs.Ytdomclcokkijjaa
