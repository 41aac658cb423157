/- The law CoreTags. -/
import Derived.Test.YtdomclcokkijjaaEo
namespace Go.Proofs.Ytdomclcokkijjaa
open Go.RowKit
attribute [local irreducible] Instr.loadAt Instr.storeAt Instr.fieldAt Instr.indexAt Instr.sliceAt Instr.buildSlice Instr.box Instr.alloc Builtin.append_ Builtin.len_ Builtin.min_ Builtin.max_ Calls Instr.build Instr.makeSlice binSem convert Instr.index Instr.range Instr.next
theorem gt_len (tags : List Int) (k n i a b d : Int) : (gt tags k n i a b d).2.1.length = tags.length := by
  unfold gt
  split
  · rfl
  · split
    · simp
    · rfl
theorem MkI.rebase {w w0 w' : World} {m mp fp l : Nat} {c : Cf} {v lv fv gv tv : Value} {s : MS} {draws : List Int} {ptrs : List Nat} {gs : Option (Nat × Value × List Int × Int × Int)} (h : MkI w0 w' m c mp v lv s fp fv draws gv gs tv ptrs l) (hu : Upd [] w w0) : MkI w w' m c mp v lv s fp fv draws gv gs tv ptrs l := by
  have hz := hu.size
  exact ⟨h.blk, h.parts, h.ths, hu.trans h.up, by have := h.f1; omega, fun k hk => by have := h.f2 k hk; omega, fun g hg => by have := h.f3 g hg; omega, fun x hx => ⟨by have := (h.f4 x hx).1; omega, fun g hg => by have := (h.f4 x hx).2 g hg; omega⟩, fun g hg => by have := h.f5 g hg; omega, ⟨by have := h.f6.1; omega, fun g hg => by have := h.f6.2 g hg; omega⟩⟩
structure MA where
  (m mp fp l : Nat)
  (v lv fv tv : Value)
  s : MS
  ptrs : List Nat
structure TagI (w w' : World) (g B : Nat) (c : Cf) (x y : MA) (gp : Nat) (gv : Value) (p3 : Nat) (v3 : Value) (tags : List Int) (k n : Int) : Prop where
  m1 : MkI w w' x.m c x.mp x.v x.lv x.s x.fp x.fv [] (ptrV gp) (some (gp, gv, tags, k, n)) x.tv x.ptrs x.l
  m2 : MkI w w' y.m c y.mp y.v y.lv y.s y.fp y.fv [] (.pointer none) none y.tv y.ptrs y.l
  g3 : IsG w' p3 v3 tags k n
  box : Blk w' g 42 (cf7 c)
  len : tags.length ≤ 64
  lt1 : gp < B ∧ ∀ q, gv.ownBlock = some q → q < B
  ge3 : B ≤ p3 ∧ ∀ q, v3.ownBlock = some q → B ≤ q
  B0 : w.heap.size ≤ B
theorem TagI.upd0 {w w' w'' : World} {g B : Nat} {c : Cf} {x y : MA} {gp : Nat} {gv : Value} {p3 : Nat} {v3 : Value} {tags : List Int} {k n : Int} (h : TagI w w' g B c x y gp gv p3 v3 tags k n) (hu : Upd [] w' w'') : TagI w w'' g B c x y gp gv p3 v3 tags k n :=
  ⟨h.m1.upd0 hu, h.m2.upd0 hu, ⟨h.g3.blk.upd hu (by simp), h.g3.s.upd hu (by simp)⟩, h.box.upd hu (by simp), h.len, h.lt1, h.ge3, h.B0⟩
theorem TagI.g3_ {w w' w1 : World} {g B : Nat} {c : Cf} {x y : MA} {gp : Nat} {gv : Value} {p3 : Nat} {v3 : Value} {tags : List Int} {k n : Int} (h : TagI w w' g B c x y gp gv p3 v3 tags k n) (hu : Upd (gp :: gv.ownBlock.toList) w' w1) : IsG w1 p3 v3 tags k n := by
  have no : ∀ q, B ≤ q → q ∉ gp :: gv.ownBlock.toList := fun q hq hm => by
    rcases List.mem_cons.1 hm with h1 | h1
    · have := h.lt1.1; omega
    · have := h.lt1.2 q (by simpa using h1); omega
  exact ⟨h.g3.blk.upd hu (no _ h.ge3.1), h.g3.s.upd hu (fun q hq => no _ (h.ge3.2 q hq))⟩
theorem box_keep {w w' : World} {g : Nat} {c : Cf} {S : List Nat} (h : Blk w g 42 (cf7 c)) (hS : ∀ g ∈ S, ∃ cs T, Blk w g T cs ∧ (T = 117 ∨ T = 3)) (hu : Upd S w w') : Blk w' g 42 (cf7 c) :=
  h.upd hu fun hm => by
    obtain ⟨cs', T', hb', hT⟩ := hS _ hm
    rcases hT with rfl | rfl
    · exact h.ne_ hb' (by decide) rfl
    · exact h.ne_ hb' (by decide) rfl
theorem TagI.both {w w' w1 w2 : World} {g B : Nat} {c : Cf} {x y : MA} {gp : Nat} {gv : Value} {p3 : Nat} {v3 : Value} {tags tags' : List Int} {k n k' n' : Int} (h : TagI w w' g B c x y gp gv p3 v3 tags k n)
    (hm1 : MkI w w1 x.m c x.mp x.v x.lv x.s x.fp x.fv [] (ptrV gp) (some (gp, gv, tags', k', n')) x.tv x.ptrs x.l) (hu1 : Upd (gp :: gv.ownBlock.toList) w' w1) (hg3 : IsG w2 p3 v3 tags' k' n') (hu2 : Upd (p3 :: v3.ownBlock.toList) w1 w2) (hl : tags'.length = tags.length) :
    TagI w w2 g B c x y gp gv p3 v3 tags' k' n' := by
  have f1 := h.m1.parts.gh.2.feet
  have f3 := (h.g3_ hu1).feet
  have e1 := h.m1.f4 _ rfl
  have hf1 : ∀ q ∈ gp :: gv.ownBlock.toList, w.heap.size ≤ q := fun q hq => by
    rcases List.mem_cons.1 hq with h1 | h1
    · rw [h1]; exact e1.1
    · exact e1.2 q (by simpa using h1)
  have hf3 : ∀ q ∈ p3 :: v3.ownBlock.toList, w.heap.size ≤ q := fun q hq => by
    have := h.B0
    rcases List.mem_cons.1 hq with h1 | h1
    · have := h.ge3.1; omega
    · have := h.ge3.2 q (by simpa using h1); omega
  have no : ∀ q, q < B → q ∉ p3 :: v3.ownBlock.toList := fun q hq hm => by
    rcases List.mem_cons.1 hm with h1 | h1
    · have := h.ge3.1; omega
    · have := h.ge3.2 q (by simpa using h1); omega
  have m2' := h.m2.deed (gs' := none) f1 hf1 hu1 rfl (fun x hx => by cases hx)
  have hG := hm1.parts.gh.2
  exact ⟨hm1.deed (gs' := some (gp, gv, tags', k', n')) f3 hf3 hu2 ⟨rfl, hG.blk.upd hu2 (no _ h.lt1.1), hG.s.upd hu2 (fun q hq => no _ (h.lt1.2 q hq))⟩ (fun x hx => by cases hx; exact e1),
    m2'.deed (gs' := none) f3 hf3 hu2 rfl (fun x hx => by cases hx), hg3, box_keep (box_keep h.box f1 hu1) f3 hu2, by have := h.len; omega, h.lt1, h.ge3, h.B0⟩
set_option maxRecDepth 100000 in
theorem tags_law {w : World} {c : Cf} {v2 v3 : Value} {kinds nodes : List Int} (h2 : RdK w .i64 v2 kinds) (h3 : RdK w .i64 v3 nodes) : Fn Try.prog 4 #[.agg (cf7 c), v2, v3] w fun r w' => r = .bool true ∧ Upd [] w w' := by
  obtain ⟨a2, c2, hv2, -⟩ := h2.form
  obtain ⟨a3, c3, hv3, -⟩ := h3.form
  subst hv2; subst hv3
  refine fn_enter Try.func4 rfl rfl ?_
  refine bx fun w1 hb1 hu1 hs1 => ?_
  have hb1 : Blk w1 w.heap.size 42 (cf7 c) := hb1
  refine ldw hb1 (cf7_len c) ?_
  refine cl (rright_c c w1) ?_
  rintro _ w2 ⟨rfl, hu2⟩
  have hU2 := hu1.trans hu2
  have early : Fn Try.prog 15 #[] w2 fun r w' => r = .bool true ∧ Upd [] w2 w' := lives16 w2
  by_cases hr : rightC c
  rotate_left
  · refine cY hr ?_
    refine cl early ?_
    rintro _ w3 ⟨rfl, hu3⟩
    exact ⟨rfl, hU2.trans hu3⟩
  refine cN (fun h => h hr) ?_
  refine len_sl ?_
  by_cases q1 : (kinds.length : Int) > 100
  · refine cY q1 ?_
    refine cl early ?_
    rintro _ w3 ⟨rfl, hu3⟩
    exact ⟨rfl, hU2.trans hu3⟩
  refine cN q1 ?_
  refine len_sl ?_
  refine len_sl ?_
  refine cd (fun q2 => ?_) (fun q2 => ?_)
  · refine cl early ?_
    rintro _ w3 ⟨rfl, hu3⟩
    exact ⟨rfl, hU2.trans hu3⟩
  have hb2 := hb1.upd hu2 (by simp)
  generalize hg : w.heap.size = g at hb2
  obtain ⟨A, T, N, L, B, P, S⟩ := c
  obtain ⟨b1, b2, b3, b4, b5, b6, -⟩ := plan_bd hr
  refine ldw hb2 rfl ?_
  refine cl (core_new (draws := []) true (RdK.nil_ w2 .u8) (by decide)) ?_
  rintro _ w3 ⟨-, hy⟩
  obtain ⟨m1, mp1, mv1, lv1, fp1, fv1, gv1, gs1, tv1, ptrs1, rfl, M1, -, -, hg1⟩ := hy hr
  obtain ⟨gp, gv, rfl⟩ := hg1 rfl
  have hgv := M1.parts.gh.1
  subst hgv
  refine ptr_eq ?_
  have hb3 := hb2.upd M1.up (by simp)
  refine ldw hb3 rfl ?_
  refine cl (core_new (draws := []) false (RdK.nil_ w3 .u8) (by decide)) ?_
  rintro _ w4 ⟨-, hy⟩
  obtain ⟨m2, mp2, mv2, lv2, fp2, fv2, gv2, gs2, tv2, ptrs2, rfl, M2, -, hg2, -⟩ := hy hr
  obtain rfl := hg2 rfl
  have hgv2 : gv2 = .pointer none := M2.parts.gh
  subst hgv2
  have hU3 := hU2.trans M1.up
  have M1' := (M1.upd0 M2.up).rebase hU2
  have M2' := M2.rebase hU3
  have hb4 := hb3.upd M2.up (by simp)
  refine draw_mix 5 [(0, true), (1, true), (2, true), (3, false), (4, false)] (fun w' => Upd [] w4 w') (by decide +kernel) (Upd.refl [] w4).drew ?_
  refine q_fa ?_
  refine q_ld (v := .int .i64 N) (fun w' hw' => (hb4.upd hw' (by simp)).cell 2) ?_
  refine rq (.agg (cf7 ⟨A, T, N, L, B, P, S⟩)) (fun w' hw' => ldw (hb4.upd hw' (by simp)) rfl ⟨rfl, rfl⟩) ?_
  refine cl (rsent_c ⟨A, T, N, L, B, P, S⟩ _) ?_
  rintro _ w5 ⟨rfl, hu5⟩
  have hu45 : Upd [] w4 w5 := (Upd.refl [] w4).drew.trans hu5
  refine ⟨hu45, ?_⟩
  refine cl (ghost_new2 N (sentP A) (by omega) (by omega) w5) ?_
  rintro _ w6 ⟨⟨p3, v3, rfl, hp3, hv3, hG3⟩, hu6⟩
  have hu46 := hu45.trans hu6
  refine ⟨hu46, ?_⟩
  have hG1 := M1'.parts.gh.2
  have hz45 := hu45.size
  have I6 : TagI w w6 g w4.heap.size ⟨A, T, N, L, B, P, S⟩ ⟨m1, mp1, fp1, L.toNat, mv1, lv1, fv1, tv1, _, ptrs1⟩ ⟨m2, mp2, fp2, L.toNat, mv2, lv2, fv2, tv2, _, ptrs2⟩ gp gv p3 v3 (liveL N.toNat (sentP A).toNat) 0 0 :=
    ⟨M1'.upd0 hu46, M2'.upd0 hu46, hG3, hb4.upd hu46 (by simp), by rw [liveL_len]; omega, ⟨hG1.blk.lt, hG1.s.lt⟩, ⟨by omega, fun q hq => by have := hv3 q hq; omega⟩, M2'.up.size⟩
  clear hy M1' M2' hG1 hG3 M1 M2 hb3 hb4
  refine loop_rule [1, 2, 3, 7, 9, 11] [12] (fun vs w' m => ∃ (i : Nat) (tags : List Int) (k n : Int), vs = [.int .i64 (i : Int)] ∧ i ≤ kinds.length ∧ m = kinds.length - i ∧ TagI w w' g w4.heap.size ⟨A, T, N, L, B, P, S⟩ ⟨m1, mp1, fp1, L.toNat, mv1, lv1, fv1, tv1, _, ptrs1⟩ ⟨m2, mp2, fp2, L.toNat, mv2, lv2, fv2, tv2, _, ptrs2⟩ gp gv p3 v3 tags k n) rfl [.int .i64 0] kinds.length rfl
    ⟨0, _, _, _, rfl, by omega, rfl, I6⟩ ?_
  rintro _ w7 m ⟨i, tags, k, n, rfl, hi, rfl, I3⟩
  refine len_sl ?_
  refine cd (fun hlt => ?_) (fun hlt => ?_)
  · have hlt : i < kinds.length := by omega
    obtain ⟨kb, ko, kc, he, -⟩ := h2.some_ (by omega)
    cases he
    obtain ⟨nb, no, nc, he, -⟩ := h3.some_ (by omega)
    cases he
    refine ix i rfl hlt ?_
    refine ld ((h2.upd0 I3.m1.up).at_ rfl i hlt) ?_
    refine cd (fun k0 => ?_) (fun k0 => ?_)
    · refine ix i rfl (by omega) ?_
      refine ld ((h3.upd0 (I3).m1.up).at_ rfl i (by omega)) ?_
      refine cl (took_yes I3.m1 I3.len (nodes.getD i 0)) ?_
      rintro _ w4 ⟨hm4, hu4⟩
      refine ix i rfl (by omega) ?_
      refine ld ((h3.upd0 hm4.up).at_ rfl i (by omega)) ?_
      have e1 := I3.m1.f4 _ rfl
      have m24 := I3.m2.deed (gs' := none) I3.m1.parts.gh.2.feet (fun q hq => by
        rcases List.mem_cons.1 hq with h | h
        · rw [h]; exact e1.1
        · exact e1.2 q (by simpa using h)) hu4 rfl (fun x hx => by cases hx)
      refine cl (took_no m24 (nodes.getD i 0)) ?_
      rintro _ _ rfl
      refine ix i rfl (by omega) ?_
      refine ld ((h3.upd0 hm4.up).at_ rfl i (by omega)) ?_
      refine cl (alloc_c (I3.g3_ hu4) I3.len (nodes.getD i 0)) ?_
      rintro _ w5 ⟨hg5, hu5⟩
      have I5 := I3.both hm4 hu4 hg5 hu5 (gt_len ..)
      refine cl (ghost_c (I5).m1) ?_
      rintro _ _ ⟨rfl, rfl⟩
      refine cl (first_c (I5).m1.parts.gh.2) ?_
      rintro _ x1 ⟨rfl, xu1⟩
      have J1 := (I5).upd0 xu1
      refine cl (first_c J1.g3) ?_
      rintro _ x2 ⟨rfl, xu2⟩
      have J2 := J1.upd0 xu2
      refine fne false (iff_of_false (by simp) (by simp)) ?_
      refine cl (fault_yes J2.m1) ?_
      rintro _ x3 ⟨rfl, xu3⟩
      have J3 := J2.upd0 xu3
      refine cl (first_c J3.g3) ?_
      rintro _ x4 ⟨rfl, xu4⟩
      have J4 := J3.upd0 xu4
      refine bd #[.int .i64 0, .int .i64 0] (fun _ => by kernel_rfl) ?_
      refine fne _ decide_eq_true_iff ?_
      refine bnq ?_
      refine cN (fun h => h rfl) ?_
      refine cl (fault_no J4.m2) ?_
      rintro _ _ ⟨rfl, rfl⟩
      refine ar64 (by omega) ?_
      exact round_mk [.int .i64 ((i + 1 : Nat) : Int)] (kinds.length - (i + 1)) rfl rfl ⟨i + 1, _, _, _, rfl, by omega, rfl, J4⟩ (by omega)
    refine cd (fun k1 => ?_) (fun k1 => ?_)
    · refine ix i rfl (by omega) ?_
      refine ld ((h3.upd0 (I3).m1.up).at_ rfl i (by omega)) ?_
      refine cl (gone_yes I3.m1 I3.len (nodes.getD i 0)) ?_
      rintro _ w4 ⟨hm4, hu4⟩
      refine ix i rfl (by omega) ?_
      refine ld ((h3.upd0 hm4.up).at_ rfl i (by omega)) ?_
      have e1 := I3.m1.f4 _ rfl
      have m24 := I3.m2.deed (gs' := none) I3.m1.parts.gh.2.feet (fun q hq => by
        rcases List.mem_cons.1 hq with h | h
        · rw [h]; exact e1.1
        · exact e1.2 q (by simpa using h)) hu4 rfl (fun x hx => by cases hx)
      refine cl (gone_no m24 (nodes.getD i 0)) ?_
      rintro _ _ rfl
      refine ix i rfl (by omega) ?_
      refine ld ((h3.upd0 hm4.up).at_ rfl i (by omega)) ?_
      refine cl (retire_c (I3.g3_ hu4) I3.len (nodes.getD i 0)) ?_
      rintro _ w5 ⟨hg5, hu5⟩
      have I5 := I3.both hm4 hu4 hg5 hu5 (gt_len ..)
      refine cl (ghost_c (I5).m1) ?_
      rintro _ _ ⟨rfl, rfl⟩
      refine cl (first_c (I5).m1.parts.gh.2) ?_
      rintro _ x1 ⟨rfl, xu1⟩
      have J1 := (I5).upd0 xu1
      refine cl (first_c J1.g3) ?_
      rintro _ x2 ⟨rfl, xu2⟩
      have J2 := J1.upd0 xu2
      refine fne false (iff_of_false (by simp) (by simp)) ?_
      refine cl (fault_yes J2.m1) ?_
      rintro _ x3 ⟨rfl, xu3⟩
      have J3 := J2.upd0 xu3
      refine cl (first_c J3.g3) ?_
      rintro _ x4 ⟨rfl, xu4⟩
      have J4 := J3.upd0 xu4
      refine bd #[.int .i64 0, .int .i64 0] (fun _ => by kernel_rfl) ?_
      refine fne _ decide_eq_true_iff ?_
      refine bnq ?_
      refine cN (fun h => h rfl) ?_
      refine cl (fault_no J4.m2) ?_
      rintro _ _ ⟨rfl, rfl⟩
      refine ar64 (by omega) ?_
      exact round_mk [.int .i64 ((i + 1 : Nat) : Int)] (kinds.length - (i + 1)) rfl rfl ⟨i + 1, _, _, _, rfl, by omega, rfl, J4⟩ (by omega)
    refine cd (fun k2 => ?_) (fun k2 => ?_)
    · refine ix i rfl (by omega) ?_
      refine ld ((h3.upd0 (I3).m1.up).at_ rfl i (by omega)) ?_
      refine cl (freed_yes I3.m1 I3.len (nodes.getD i 0)) ?_
      rintro _ w4 ⟨hm4, hu4⟩
      refine ix i rfl (by omega) ?_
      refine ld ((h3.upd0 hm4.up).at_ rfl i (by omega)) ?_
      have e1 := I3.m1.f4 _ rfl
      have m24 := I3.m2.deed (gs' := none) I3.m1.parts.gh.2.feet (fun q hq => by
        rcases List.mem_cons.1 hq with h | h
        · rw [h]; exact e1.1
        · exact e1.2 q (by simpa using h)) hu4 rfl (fun x hx => by cases hx)
      refine cl (freed_no m24 (nodes.getD i 0)) ?_
      rintro _ _ rfl
      refine ix i rfl (by omega) ?_
      refine ld ((h3.upd0 hm4.up).at_ rfl i (by omega)) ?_
      refine cl (release_c (I3.g3_ hu4) I3.len (nodes.getD i 0)) ?_
      rintro _ w5 ⟨hg5, hu5⟩
      have I5 := I3.both hm4 hu4 hg5 hu5 (gt_len ..)
      refine cl (ghost_c (I5).m1) ?_
      rintro _ _ ⟨rfl, rfl⟩
      refine cl (first_c (I5).m1.parts.gh.2) ?_
      rintro _ x1 ⟨rfl, xu1⟩
      have J1 := (I5).upd0 xu1
      refine cl (first_c J1.g3) ?_
      rintro _ x2 ⟨rfl, xu2⟩
      have J2 := J1.upd0 xu2
      refine fne false (iff_of_false (by simp) (by simp)) ?_
      refine cl (fault_yes J2.m1) ?_
      rintro _ x3 ⟨rfl, xu3⟩
      have J3 := J2.upd0 xu3
      refine cl (first_c J3.g3) ?_
      rintro _ x4 ⟨rfl, xu4⟩
      have J4 := J3.upd0 xu4
      refine bd #[.int .i64 0, .int .i64 0] (fun _ => by kernel_rfl) ?_
      refine fne _ decide_eq_true_iff ?_
      refine bnq ?_
      refine cN (fun h => h rfl) ?_
      refine cl (fault_no J4.m2) ?_
      rintro _ _ ⟨rfl, rfl⟩
      refine ar64 (by omega) ?_
      exact round_mk [.int .i64 ((i + 1 : Nat) : Int)] (kinds.length - (i + 1)) rfl rfl ⟨i + 1, _, _, _, rfl, by omega, rfl, J4⟩ (by omega)
    refine cl (ghost_c (I3).m1) ?_
    rintro _ _ ⟨rfl, rfl⟩
    refine cl (first_c (I3).m1.parts.gh.2) ?_
    rintro _ x1 ⟨rfl, xu1⟩
    have J1 := (I3).upd0 xu1
    refine cl (first_c J1.g3) ?_
    rintro _ x2 ⟨rfl, xu2⟩
    have J2 := J1.upd0 xu2
    refine fne false (iff_of_false (by simp) (by simp)) ?_
    refine cl (fault_yes J2.m1) ?_
    rintro _ x3 ⟨rfl, xu3⟩
    have J3 := J2.upd0 xu3
    refine cl (first_c J3.g3) ?_
    rintro _ x4 ⟨rfl, xu4⟩
    have J4 := J3.upd0 xu4
    refine bd #[.int .i64 0, .int .i64 0] (fun _ => by kernel_rfl) ?_
    refine fne _ decide_eq_true_iff ?_
    refine bnq ?_
    refine cN (fun h => h rfl) ?_
    refine cl (fault_no J4.m2) ?_
    rintro _ _ ⟨rfl, rfl⟩
    refine ar64 (by omega) ?_
    exact round_mk [.int .i64 ((i + 1 : Nat) : Int)] (kinds.length - (i + 1)) rfl rfl ⟨i + 1, _, _, _, rfl, by omega, rfl, J4⟩ (by omega)
  refine loop_rule [3, 7, 11] [13] (fun vs w' m => ∃ i : Nat, vs = [.int .i64 (i : Int)] ∧ (i : Int) ≤ N + 2 ∧ m = (N + 2 - i).toNat ∧ w' = w7) rfl [.int .i64 0] (N + 2).toNat rfl ⟨0, rfl, by omega, by simp, rfl⟩ ?_
  rintro _ _ m ⟨i, rfl, hi, rfl, rfl⟩
  refine fa ?_
  refine ldb I3.box (v := .int .i64 N) rfl ?_
  refine ar64 (by omega) ?_
  refine cd (fun hlt => ?_) (fun hlt => ?_)
  · refine cl (ghost_c I3.m1) ?_
    rintro _ _ ⟨rfl, rfl⟩
    refine cl (tag_c I3.m1.parts.gh.2 I3.len (i : Int)) ?_
    rintro _ _ ⟨rfl, rfl⟩
    refine cl (tag_c I3.g3 I3.len (i : Int)) ?_
    rintro _ _ ⟨rfl, rfl⟩
    refine cN (by simp) ?_
    refine ar64 (by omega) ?_
    exact round_mk [.int .i64 ((i + 1 : Nat) : Int)] (N + 2 - ((i + 1 : Nat) : Int)).toNat rfl rfl ⟨i + 1, rfl, by omega, rfl, rfl⟩ (by omega)
  · refine cl (lives16 _) ?_
    rintro _ w8 ⟨rfl, hu8⟩
    exact ⟨rfl, I3.m1.up.trans hu8⟩
theorem CoreTags_walk (w : World) (l : List Int) (wl : Fits [.i64, .i64, .i64, .i64, .i64, .i64, .i64] l) (v1 : Value) (l1 : List (List Int)) (h1 : SlRows w w.heap.size [.i64] v1 l1) (v2 : Value) (l2 : List (List Int)) (h2 : SlRows w w.heap.size [.i64] v2 l2) :
    Calls Try.prog 4 #[.agg (mkInts [.i64, .i64, .i64, .i64, .i64, .i64, .i64] l).toArray, v1, v2] w fun e w' => e = .returned (.bool true) ∧ Below w.heap.size w w' := by
  obtain ⟨⟨A, T, N, L, B, P, S⟩, rfl⟩ := cf_of wl
  exact (tags_law (c := ⟨A, T, N, L, B, P, S⟩) (RdK.of_ints h1.ints (Nat.le_refl _)) (RdK.of_ints h2.ints (Nat.le_refl _))).mono fun _ _ ⟨_, he, hv, hu⟩ => ⟨by rw [he, hv], hu.below⟩
end Go.Proofs.Ytdomclcokkijjaa
