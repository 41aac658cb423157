/- Contracts: a machine's ghosts. -/
import Derived.Test.YtdomclcokkijjaaEl
import Derived.Test.YtdomclcokkijjaaEn
import Derived.Test.YtdomclcokkijjaaEj
namespace Go.Proofs.Ytdomclcokkijjaa
open Go.RowKit
attribute [local irreducible] Instr.loadAt Instr.storeAt Instr.fieldAt Instr.indexAt Instr.sliceAt Instr.buildSlice Instr.box Instr.alloc Builtin.append_ Builtin.len_ Builtin.min_ Builtin.max_ Calls Instr.build Instr.makeSlice binSem convert Instr.index Instr.range Instr.next
section
variable {w0 w w' : World} {m mp fp l : Nat} {c : Cf} {v lv fv gv tv : Value} {s : MS} {draws : List Int} {ptrs : List Nat}
theorem ThrZ.keep {w w' : World} {g l : Nat} {id : Int} {S : List Nat} (h : ThrZ w g id l) (hS : ∀ g ∈ S, ∃ cs T, Blk w g T cs ∧ (T = 117 ∨ T = 3)) (hu : Upd S w w') : ThrZ w' g id l := by
  have nb : ∀ {g T : Nat} {cs : Array Value}, Blk w g T cs → T ≠ 117 → T ≠ 3 → g ∉ S := fun hb h1 h2 hm => by
    obtain ⟨cs', T', hb', hT⟩ := hS _ hm
    rcases hT with rfl | rfl
    · exact hb.ne_ hb' h1 rfl
    · exact hb.ne_ hb' h2 rfl
  have ns : ∀ {e n m : Nat} {x : Value} {xs : List Value}, Sl w e n x m xs → e ≠ 117 → e ≠ 3 → ∀ g, x.ownBlock = some g → g ∉ S := fun hs h1 h2 g hg hm => by
    obtain ⟨cs', T', hb', hT⟩ := hS _ hm
    rcases hT with rfl | rfl
    · exact hs.blk_ne hb' h1 hg
    · exact hs.blk_ne hb' h2 hg
  obtain ⟨pv, sv, wv, h1, h2, h3, h4, h5⟩ := h.h
  exact ⟨pv, sv, wv, h1.upd hu (nb h1 (by decide) (by decide)), h2.upd hu (ns h2 (by decide) (by decide)), h3.upd hu (ns h3 (by decide) (by decide)), h4.upd hu (ns h4 (by decide) (by decide)), h5⟩
/-- a ghost's deed: what the machine's other parts are -/
theorem MkI.deed {S : List Nat} {gs gs' : Option (Nat × Value × List Int × Int × Int)} (h : MkI w0 w m c mp v lv s fp fv draws gv gs tv ptrs l) (hS : ∀ g ∈ S, ∃ cs T, Blk w g T cs ∧ (T = 117 ∨ T = 3)) (hf : ∀ g ∈ S, w0.heap.size ≤ g) (hu : Upd S w w')
    (hg : match gs' with | none => gv = .pointer none | some (gp, v', tags, k, n) => gv = .pointer (some ⟨gp, 0, none⟩) ∧ IsG w' gp v' tags k n) (h4 : ∀ x, gs' = some x → w0.heap.size ≤ x.1 ∧ ∀ g, x.2.1.ownBlock = some g → w0.heap.size ≤ g) : MkI w0 w' m c mp v lv s fp fv draws gv gs' tv ptrs l := by
  have nb : ∀ {g T : Nat} {cs : Array Value}, Blk w g T cs → T ≠ 117 → T ≠ 3 → g ∉ S := fun hb h1 h2 hm => by
    obtain ⟨cs', T', hb', hT⟩ := hS _ hm
    rcases hT with rfl | rfl
    · exact hb.ne_ hb' h1 rfl
    · exact hb.ne_ hb' h2 rfl
  have ns : ∀ {e n m : Nat} {x : Value} {xs : List Value}, Sl w e n x m xs → e ≠ 117 → e ≠ 3 → ∀ g, x.ownBlock = some g → g ∉ S := fun hs h1 h2 g hg hm => by
    obtain ⟨cs', T', hb', hT⟩ := hS _ hm
    rcases hT with rfl | rfl
    · exact hs.blk_ne hb' h1 hg
    · exact hs.blk_ne hb' h2 hg
  refine ⟨h.blk.upd hu (nb h.blk (by decide) (by decide)), ⟨h.parts.mem.upd hu (fun k hk hm => ?_), ⟨h.parts.fd.blk.upd hu (nb h.parts.fd.blk (by decide) (by decide)), h.parts.fd.s.upd hu (ns h.parts.fd.s (by decide) (by decide))⟩, hg, fun i hi => (h.parts.ths i hi).keep hS hu⟩,
    h.ths.upd hu (ns h.ths (by decide) (by decide)), h.up.step hu (fun x hx => .inr (hf x hx)), h.f1, h.f2, h.f3, h4, h.f5, h.f6⟩
  obtain ⟨cs', T', hb', hT⟩ := hS _ hm
  rcases hT with rfl | rfl
  · exact h.parts.mem.off hb' (by decide) (by decide) (by decide) hk
  · exact h.parts.mem.off hb' (by decide) (by decide) (by decide) hk
theorem IsG.feet {w : World} {p : Nat} {v : Value} {tags : List Int} {k n : Int} (h : IsG w p v tags k n) : ∀ g ∈ p :: v.ownBlock.toList, ∃ cs T, Blk w g T cs ∧ (T = 117 ∨ T = 3) := by
  intro g hg
  rcases List.mem_cons.1 hg with rfl | hg
  · exact ⟨_, _, h.blk, .inl rfl⟩
  · obtain ⟨cs, hcs⟩ := sl_blk h.s (by simpa using hg)
    exact ⟨cs, _, hcs, .inr rfl⟩
theorem MkI.own {gp : Nat} {gv' : Value} {tags tags' : List Int} {k n k' n' : Int} (h : MkI w0 w m c mp v lv s fp fv draws gv (some (gp, gv', tags, k, n)) tv ptrs l) (hG : IsG w' gp gv' tags' k' n') (hu : Upd (gp :: gv'.ownBlock.toList) w w') : MkI w0 w' m c mp v lv s fp fv draws gv (some (gp, gv', tags', k', n')) tv ptrs l := by
  have h4 := h.f4 _ rfl
  refine h.deed h.parts.gh.2.feet (fun g hg => ?_) hu ⟨h.parts.gh.1, hG⟩ (fun x hx => by cases hx; exact h4)
  rcases List.mem_cons.1 hg with rfl | hg
  · exact h4.1
  · exact h4.2 g (by simpa using hg)
theorem MkI.upd0 {gs : Option (Nat × Value × List Int × Int × Int)} (h : MkI w0 w m c mp v lv s fp fv draws gv gs tv ptrs l) (hu : Upd [] w w') : MkI w0 w' m c mp v lv s fp fv draws gv gs tv ptrs l :=
  ⟨h.blk.upd hu (by simp), h.parts.upd (S := []) (by simp) hu, h.ths.upd hu (by simp), h.up.trans hu, h.f1, h.f2, h.f3, h.f4, h.f5, h.f6⟩
theorem watched_yes {gp : Nat} {gv' : Value} {tags : List Int} {k n : Int} (h : MkI w0 w m c mp v lv s fp fv draws gv (some (gp, gv', tags, k, n)) tv ptrs l) : Fn Try.prog 70 #[ptrV m] w fun r w' => r = .bool true ∧ w' = w := by
  have hg := h.parts.gh.1
  subst hg
  obtain ⟨A, T, N, L, B, P, S⟩ := c
  refine fn_enter Try.func70 rfl rfl ?_
  refine ptr_ne ?_
  refine fa ?_
  refine ldb h.blk rfl ?_
  refine ptr_ne ?_
  exact ⟨rfl, rfl⟩
theorem watched_no (h : MkI w0 w m c mp v lv s fp fv draws gv none tv ptrs l) : Fn Try.prog 70 #[ptrV m] w fun r w' => r = .bool false ∧ w' = w := by
  have hg : gv = .pointer none := h.parts.gh
  subst hg
  obtain ⟨A, T, N, L, B, P, S⟩ := c
  refine fn_enter Try.func70 rfl rfl ?_
  refine ptr_ne ?_
  refine fa ?_
  refine ldb h.blk rfl ?_
  refine ptr_ne0 ?_
  exact ⟨rfl, rfl⟩
theorem retire_c {w : World} {p : Nat} {v : Value} {tags : List Int} {k n : Int} (h : IsG w p v tags k n) (hl : tags.length ≤ 64) (i : Int) : Fn Try.prog 26 #[ptrV p, .int .i64 i] w fun _ w' =>
    IsG w' p v (gt tags k n i 1 2 2).2.1 (gt tags k n i 1 2 2).2.2.1 (gt tags k n i 1 2 2).2.2.2 ∧ Upd (p :: v.ownBlock.toList) w w' := by
  refine fn_enter Try.func26 rfl rfl ?_
  refine cl (turn_c h hl i 1 2 2) ?_
  rintro _ w1 ⟨rfl, hg, hu⟩
  exact ⟨hg, hu⟩
theorem release_c {w : World} {p : Nat} {v : Value} {tags : List Int} {k n : Int} (h : IsG w p v tags k n) (hl : tags.length ≤ 64) (i : Int) : Fn Try.prog 28 #[ptrV p, .int .i64 i] w fun _ w' =>
    IsG w' p v (gt tags k n i 2 0 3).2.1 (gt tags k n i 2 0 3).2.2.1 (gt tags k n i 2 0 3).2.2.2 ∧ Upd (p :: v.ownBlock.toList) w w' := by
  refine fn_enter Try.func28 rfl rfl ?_
  refine cl (turn_c h hl i 2 0 3) ?_
  rintro _ w1 ⟨rfl, hg, hu⟩
  exact ⟨hg, hu⟩
theorem took_yes {gp : Nat} {gv' : Value} {tags : List Int} {k n : Int} (h : MkI w0 w m c mp v lv s fp fv draws gv (some (gp, gv', tags, k, n)) tv ptrs l) (hl : tags.length ≤ 64) (i : Int) : Fn Try.prog 23 #[ptrV m, .int .i64 i] w fun _ w' =>
    MkI w0 w' m c mp v lv s fp fv draws gv (some (gp, gv', (gt tags k n i 0 1 1).2.1, (gt tags k n i 0 1 1).2.2.1, (gt tags k n i 0 1 1).2.2.2)) tv ptrs l ∧ Upd (gp :: gv'.ownBlock.toList) w w' := by
  refine fn_enter Try.func23 rfl rfl ?_
  refine cl (watched_yes h) ?_
  rintro _ _ ⟨rfl, rfl⟩
  have hg := h.parts.gh.1
  subst hg
  refine fa ?_
  refine ldb h.blk (by cases c; rfl) ?_
  refine cl (alloc_c h.parts.gh.2 hl i) ?_
  rintro _ w2 ⟨hg2, hu2⟩
  exact ⟨h.own hg2 hu2, hu2⟩
theorem took_no (h : MkI w0 w m c mp v lv s fp fv draws gv none tv ptrs l) (i : Int) : Fn Try.prog 23 #[ptrV m, .int .i64 i] w fun _ w' => w' = w := by
  refine fn_enter Try.func23 rfl rfl ?_
  refine cl (watched_no h) ?_
  rintro _ _ ⟨rfl, rfl⟩
  rfl
theorem gone_yes {gp : Nat} {gv' : Value} {tags : List Int} {k n : Int} (h : MkI w0 w m c mp v lv s fp fv draws gv (some (gp, gv', tags, k, n)) tv ptrs l) (hl : tags.length ≤ 64) (i : Int) : Fn Try.prog 25 #[ptrV m, .int .i64 i] w fun _ w' =>
    MkI w0 w' m c mp v lv s fp fv draws gv (some (gp, gv', (gt tags k n i 1 2 2).2.1, (gt tags k n i 1 2 2).2.2.1, (gt tags k n i 1 2 2).2.2.2)) tv ptrs l ∧ Upd (gp :: gv'.ownBlock.toList) w w' := by
  refine fn_enter Try.func25 rfl rfl ?_
  refine cl (watched_yes h) ?_
  rintro _ _ ⟨rfl, rfl⟩
  have hg := h.parts.gh.1
  subst hg
  refine fa ?_
  refine ldb h.blk (by cases c; rfl) ?_
  refine cl (retire_c h.parts.gh.2 hl i) ?_
  rintro _ w2 ⟨hg2, hu2⟩
  exact ⟨h.own hg2 hu2, hu2⟩
theorem gone_no (h : MkI w0 w m c mp v lv s fp fv draws gv none tv ptrs l) (i : Int) : Fn Try.prog 25 #[ptrV m, .int .i64 i] w fun _ w' => w' = w := by
  refine fn_enter Try.func25 rfl rfl ?_
  refine cl (watched_no h) ?_
  rintro _ _ ⟨rfl, rfl⟩
  rfl
theorem freed_yes {gp : Nat} {gv' : Value} {tags : List Int} {k n : Int} (h : MkI w0 w m c mp v lv s fp fv draws gv (some (gp, gv', tags, k, n)) tv ptrs l) (hl : tags.length ≤ 64) (i : Int) : Fn Try.prog 27 #[ptrV m, .int .i64 i] w fun _ w' =>
    MkI w0 w' m c mp v lv s fp fv draws gv (some (gp, gv', (gt tags k n i 2 0 3).2.1, (gt tags k n i 2 0 3).2.2.1, (gt tags k n i 2 0 3).2.2.2)) tv ptrs l ∧ Upd (gp :: gv'.ownBlock.toList) w w' := by
  refine fn_enter Try.func27 rfl rfl ?_
  refine cl (watched_yes h) ?_
  rintro _ _ ⟨rfl, rfl⟩
  have hg := h.parts.gh.1
  subst hg
  refine fa ?_
  refine ldb h.blk (by cases c; rfl) ?_
  refine cl (release_c h.parts.gh.2 hl i) ?_
  rintro _ w2 ⟨hg2, hu2⟩
  exact ⟨h.own hg2 hu2, hu2⟩
theorem freed_no (h : MkI w0 w m c mp v lv s fp fv draws gv none tv ptrs l) (i : Int) : Fn Try.prog 27 #[ptrV m, .int .i64 i] w fun _ w' => w' = w := by
  refine fn_enter Try.func27 rfl rfl ?_
  refine cl (watched_no h) ?_
  rintro _ _ ⟨rfl, rfl⟩
  rfl
theorem ghost_c {gs : Option (Nat × Value × List Int × Int × Int)} (h : MkI w0 w m c mp v lv s fp fv draws gv gs tv ptrs l) : Fn Try.prog 29 #[ptrV m] w fun r w' => r = gv ∧ w' = w := by
  refine fn_enter Try.func29 rfl rfl ?_
  refine ptr_eq ?_
  refine fa ?_
  refine ldb h.blk (v := gv) (by cases c; rfl) ?_
  exact ⟨rfl, rfl⟩
theorem fault_yes {gp : Nat} {gv' : Value} {tags : List Int} {k n : Int} (h : MkI w0 w m c mp v lv s fp fv draws gv (some (gp, gv', tags, k, n)) tv ptrs l) : Fn Try.prog 31 #[ptrV m] w fun r w' => r = .bool (decide (¬ (k = 0 ∧ n = 0))) ∧ Upd [] w w' := by
  refine fn_enter Try.func31 rfl rfl ?_
  refine ptr_ne ?_
  refine fa ?_
  refine ldb h.blk (v := .bool false) (by cases c; rfl) ?_
  refine cl (watched_yes h) ?_
  rintro _ _ ⟨rfl, rfl⟩
  have hg := h.parts.gh.1
  subst hg
  refine fa ?_
  refine ldb h.blk (v := ptrV gp) (by cases c; rfl) ?_
  refine cl (first_c h.parts.gh.2) ?_
  rintro _ w2 ⟨rfl, hu2⟩
  refine bd #[.int .i64 0, .int .i64 0] (fun _ => by kernel_rfl) ?_
  refine fne (decide (¬ (k = 0 ∧ n = 0))) decide_eq_true_iff ?_
  exact ⟨rfl, hu2⟩
theorem fault_no (h : MkI w0 w m c mp v lv s fp fv draws gv none tv ptrs l) : Fn Try.prog 31 #[ptrV m] w fun r w' => r = .bool false ∧ w' = w := by
  refine fn_enter Try.func31 rfl rfl ?_
  refine ptr_ne ?_
  refine fa ?_
  refine ldb h.blk (v := .bool false) (by cases c; rfl) ?_
  refine cl (watched_no h) ?_
  rintro _ _ ⟨rfl, rfl⟩
  exact ⟨rfl, rfl⟩
end
end Go.Proofs.Ytdomclcokkijjaa
