/- Joined: Is. -/
import Derived.Test.YtklbeipdigancaaJ4
/- The law HazardScans: its walk. -/
namespace Go.Proofs.Ytklbeipdigancaa
open Go.RowKit
attribute [local irreducible] Instr.loadAt Instr.storeAt Instr.fieldAt Instr.indexAt Instr.sliceAt Instr.buildSlice Instr.box Instr.alloc Builtin.append_ Builtin.len_ Builtin.min_ Builtin.max_ Calls Instr.build Instr.makeSlice binSem convert Instr.index Instr.range Instr.next
structure ScH (w0 w : World) (X : Mc) (p : PS) (m g6 : Nat) (c : Cf) (gv : Value) (gl : List Bool) : Prop where
  h : Hz w0 w X p
  a : Aside w X g6 TPn (planC c)
  m : X.m = m
  g : FarZ w0 w X 4 1 gv gl.length (gl.map .bool)
section
variable {w0 w w' : World} {X Y : Mc} {p q : PS} {m g6 : Nat} {c : Cf} {gv : Value} {gl : List Bool}
theorem ScH.upd0 (h : ScH w0 w X p m g6 c gv gl) (hu : Upd [] w w') : ScH w0 w' X p m g6 c gv gl := ⟨h.h.upd0 hu, h.a.upd0 hu, h.m, h.g.upd0 hu⟩
theorem ScH.post (h : ScH w0 w X p m g6 c gv gl) (hz : Hz w0 w' Y q) (hm : Y.m = X.m) (pp : Post w X w' Y) : ScH w0 w' Y q m g6 c gv gl := ⟨hz, h.a.post pp, hm.trans h.m, h.g.post pp⟩
/-- a list of the call's own grows -/
theorem ScH.grow (h : ScH w0 w X p m g6 c gv gl) {e n : Nat} {v v' : Value} {len len' : Nat} {xs xs' : List Value} (he : e ≠ 4) (hp : e ≠ TPn) (hF : FarZ w0 w X e n v len xs) (hs : Sl w' e n v' len' xs') (hG : Grow w w' v v') : FarZ w0 w' X e n v' len' xs' ∧ ScH w0 w' X p m g6 c gv gl := by
  obtain ⟨h1, h2⟩ := FarZ.grow h.h hF hs hG
  have nb : ∀ {t : Nat} {q : Nat} {cs : Array Value}, e ≠ t → Blk w q t cs → q ∉ v.ownBlock.toList := fun {t q cs} hne hb hm => hF.sl.blk_ne hb hne (by simpa using hm)
  refine ⟨h1, h2, ⟨h.a.b.upd hG.up (nb hp h.a.b), h.a.n⟩, h.m, ⟨h.g.sl.upd hG.up (fun q hq => ?_), h.g.n, h.g.fr⟩⟩
  intro hm
  obtain ⟨cs, hb⟩ := sl_blk h.g.sl hq
  exact nb he hb hm
theorem bool_at {w : World} {g o c : Nat} {l : List Bool} (h : Sl w 4 1 (.slice (some ⟨g, o, none⟩) l.length c) l.length (l.map .bool)) {i : Nat} (hi : i < l.length) : w.cell? ⟨g, o + i * 1, none⟩ = some (.bool (l.getD i false)) := by
  have := (h.cells rfl i (by simpa using hi)).1
  rw [show o + i * 1 = o + i by omega, this]
  simp [List.getD, hi]
theorem int_at {w : World} {g o c : Nat} {l : List Int} (h : Sl w 3 1 (.slice (some ⟨g, o, none⟩) l.length c) l.length (l.map (.int .i64))) {i : Nat} (hi : i < l.length) : w.cell? ⟨g, o + i * 1, none⟩ = some (.int .i64 (l.getD i 0)) := by
  have := (h.cells rfl i (by simpa using hi)).1
  rw [show o + i * 1 = o + i by omega, this]
  simp [List.getD, hi]
theorem Hz.chain0 (h : Hz w0 w X p) {l tg : List Int} {b : Int} (R : Rep p l tg b) : Fn Try.prog 28 #[ptrV X.m] w fun r w' => Sl w' 3 1 r l.length (l.map (.int .i64)) ∧ Upd [] w w' := by
  have hR : Rep X.abs l tg b := by rw [h.a]; exact R
  have := chain_c h.new.ok hR.ok.r hR.ok.l hR.ok.w
  have e : chain X.c X.s.W = l := hR.chain
  rw [e] at this
  exact this
theorem Hz.fault0 (h : Hz w0 w X p) {tg : List Int} (hg : p.gh = some (tg, 0, 0)) (hb : p.bad = false) : Fn Try.prog 18 #[ptrV X.m] w fun r w' => r = .bool false ∧ Upd [] w w' := by
  have := fault_mm h.new.ok
  have h1 : X.bad = false := (congrArg PS.bad h.a).trans hb
  have h2 : faultG X.gs = false := by
    have h1 : X.gs.map absG = some (tg, 0, 0) := (congrArg PS.gh h.a).trans hg
    cases hz : X.gs with
    | none => rfl
    | some g =>
      rw [hz] at h1
      have h3 : absG g = (tg, 0, 0) := Option.some.inj h1
      have h4 : g.k = 0 := congrArg (fun x => x.2.1) h3
      have h5 : g.n = 0 := congrArg (fun x => x.2.2) h3
      show decide (¬ (g.k = 0 ∧ g.n = 0)) = false
      exact decide_eq_false (fun h => h ⟨h4, h5⟩)
  rw [h1, h2] at this
  exact this
end
theorem M_self {p : PS} {g : List Int × Int × Int} {t : PT} (ht : p.ths[0]? = some t) (hg : p.gh = some g) : M p p.acted p.k p.W (some g) t = p := by
  unfold M
  have e : p.ths.set 0 t = p.ths := by
    apply List.ext_getElem?
    intro i
    rw [List.getElem?_set]
    by_cases h : 0 = i
    · subst h
      rw [if_pos rfl]
      have := (List.getElem?_eq_some_iff.1 ht).1
      rw [if_pos this, ht]
    · rw [if_neg h]
  rw [e, ← hg]
theorem Rw.rep {p : PS} {W free tg : List Int} (I : Rw p W free tg) (B : Bse p) {k : Int} (hk : 0 ≤ k ∧ k ≤ 900000) {a : Bool} {t : PT} (hf : t.fs = []) : Rep (M p a k W (some (tg, 0, 0)) t) free tg 900000 := by
  obtain ⟨t0, ht0⟩ := B.th
  exact ⟨I.ok B hk, ⟨t, M_th ht0, hf⟩, I.lk, rfl, I.nd, I.tag, I.tl, B.bad⟩
theorem filter_len (G : Int → Bool) (l : List Int) : (l.filter G).length + (l.filter fun y => !G y).length = l.length := by
  induction l with
  | nil => rfl
  | cons a l ih =>
    cases hg : G a with
    | true => rw [List.filter_cons_of_pos hg, List.filter_cons_of_neg (by rw [hg]; decide)]; show _ + 1 + _ = l.length + 1; omega
    | false => rw [List.filter_cons_of_neg (by rw [hg]; decide), List.filter_cons_of_pos (by rw [hg]; rfl)]; show _ + (_ + 1) = l.length + 1; omega
theorem take_filt {G : Int → Bool} {l : List Int} {i : Nat} (hi : i < l.length) : (l.take (i + 1)).filter G = (l.take i).filter G ++ (if G (l.getD i 0) then [l.getD i 0] else []) := by
  have e : l.getD i 0 = l[i] := by simp [List.getD, hi]
  rw [List.take_add_one, List.getElem?_eq_getElem hi, List.filter_append, e]
  cases hg : G l[i] with
  | true => rw [if_pos rfl]; simp [hg]
  | false => rw [if_neg (by decide)]; simp [hg]
theorem liveL_two (n i : Nat) : manyL (liveL n i) 2 = 0 := by
  unfold manyL liveL
  rw [List.length_eq_zero_iff, List.filter_eq_nil_iff]
  intro x hx
  obtain ⟨j, -, rfl⟩ := List.mem_map.1 hx
  split <;> decide
theorem nodup_le {l : List Int} {n : Nat} (hn : l.Nodup) (h : ∀ x ∈ l, 1 ≤ x ∧ x ≤ (n : Int)) : l.length ≤ n := nodup_len n l hn h
/-- what the law's first part gives: slots named, all nodes taken -/
structure StH (w0 w : World) (X : Mc) (p : PS) (A T N L B P S : Int) (m g6 : Nat) (gv : Value) (ns : List Int) (i all : Nat) (p0 : PS) : Prop where
  s : ScH w0 w X p m g6 ⟨A, T, N, L, B, P, S⟩ gv (gdL N ns (N.toNat + 1) i)
  r : ∃ b, Rep p [] (liveL N.toNat N.toNat) b ∧ b ≤ 1000
  c : p.c = ⟨A, T, N, L, B, P, S⟩
  t : ∃ t, p.ths[0]? = some t ∧ t.fs = [] ∧ t.R = [] ∧ t.O = []
  z : ∀ j : Nat, j < all → p.W.getD (8 + j) 0 = (fillW p0.W (nmL N ns) i).getD (8 + j) 0
section
variable {w : World} {nv : Value} {ns : List Int} {ask : Bool}
set_option maxRecDepth 10000 in
set_option maxHeartbeats 4000000 in
theorem scans_law {c : Cf} (hns : RdK w .i64 nv ns) : Fn Try.prog 4 #[.agg (cf7 c), nv, .bool ask] w fun r w' => r = .bool true ∧ Upd [] w w' := by
  obtain ⟨va, vc, rfl, -⟩ := hns.form
  obtain ⟨A, T, N, L, B, P, S⟩ := c
  refine fn_enter Try.func4 rfl rfl ?_
  refine bx fun w1 hb1 hu1 hs1 => ?_
  have hc2 : Blk w1 w.heap.size 23 (cf7 ⟨A, T, N, L, B, P, S⟩) := hb1
  refine ldw hc2 rfl ?_
  refine cl (rright_c ⟨A, T, N, L, B, P, S⟩ w1) ?_
  rintro _ w3 ⟨rfl, hu3⟩
  have hU3 := hu1.trans hu3
  by_cases hr : rightC ⟨A, T, N, L, B, P, S⟩
  rotate_left
  · refine cY hr ?_
    refine cl (lives18 _) ?_
    rintro _ wx ⟨rfl, hux⟩
    exact ⟨rfl, hU3.trans hux⟩
  refine cN (fun h => h hr) ?_
  have hc3 := hc2.upd hu3 (by simp)
  refine ldw hc3 rfl ?_
  refine cl (ar_new3 hr w3) ?_
  rintro _ w4 ⟨X, rfl, H, hc, hT, hall, hW0⟩
  refine ptr_eq ?_
  refine cl (plan_mm H.new.ok) ?_
  rintro _ w5 ⟨rfl, hu5⟩
  refine al z15 (fun _ => by kernel_rfl) fun w6 hb6 hu6 hs6 => ?_
  refine stw hb6 rfl (planC_len X.c) (planC_one X.c) fun w7 hb7 hu7 hs7 => ?_
  have hcX : X.c = ⟨A, T, N, L, B, P, S⟩ := hc
  rw [hcX] at hb7
  have hu7' : Upd [] w5 w7 := hu6.step hu7 (by simp)
  have H7 := (H.hz.upd0 hu5).upd0 hu7'
  have hU7 : Upd [] w3 w7 := (H.new.up.trans hu5).trans hu7'
  have hc7 := hc3.upd hU7 (by simp)
  have hn6 : w5.heap.size ∉ X.feet := fun hm => by
    have h1 := Sep.lt H.new.ok _ hm
    have h2 := hu5.size
    omega
  generalize w5.heap.size = g6 at *
  obtain ⟨b1, b2, b3, b4, b5, b6', b7, b8, b9, b10, b11, b12⟩ := plan_bd hr
  have hs0 : (Cf.slots ⟨A, T, N, L, B, P, S⟩) = slotsP A L := rfl
  have hml := mul_bd (a := slotsP A L) (b := T) (x := 14) (y := 6) (by omega) (by omega)
  refine ldw hc7 rfl ?_
  refine cl (rsent_c ⟨A, T, N, L, B, P, S⟩ w7) ?_
  rintro _ w7b ⟨rfl, hu7b⟩
  have hse : (if (⟨A, T, N, L, B, P, S⟩ : Cf).A = 0 then (0 : Int) else 2) = sentP A := rfl
  rw [hse]
  have hc7b := hc7.upd hu7b (by simp)
  have hb7b := hb7.upd hu7b (by simp)
  refine draw_all (fun w' => Upd [] w7b w') (by decide +kernel) (Upd.refl [] w7b).drew ?_
  refine rq (.agg (planC ⟨A, T, N, L, B, P, S⟩)) (fun w' hw' => ldw (hb7b.upd hw' (by simp)) rfl ⟨rfl, rfl⟩) ?_
  refine q_cl (.int .i64 (slotsP A L)) (fun w' hw' => (pslots_c ⟨A, T, N, L, B, P, S⟩ w').mono fun _ _ ⟨u, he, h1, h2⟩ => ⟨u, he, h1, hw'.trans h2⟩) ?_
  refine q_fa ?_
  refine q_ld (v := .int .i64 T) (fun w' hw' => (hc7b.upd hw' (by simp)).cell 1) ?_
  refine q_ar64 (by omega) ?_
  intro w8 hu8
  have hc8 := hc7b.upd hu8 (by simp)
  have hU78 := hu7b.trans hu8
  have H8 := H7.upd0 hU78
  have A8 : Aside w8 X g6 TPn (planC ⟨A, T, N, L, B, P, S⟩) := ⟨hb7b.upd hu8 (by simp), hn6⟩
  refine fa ?_
  refine ldb hc8 (v := .int .i64 N) rfl ?_
  refine ar64 (by omega) ?_
  refine mks (N.toNat + 1) (by omega) (by omega) (by omega) (by omega) fun w9 hb9 hu9 hs9 => ?_
  have R := H.rep
  have hsz := size_bd hr
  have hsz' : 10 ≤ sizeP A T N L ∧ sizeP A T N L ≤ 924 := hsz
  have hWl : X.abs.W.length = (sizeP A T N L).toNat := by have := R.ok.l; rw [hc] at this; exact this
  have hlk : linksP A T L = 8 + T * slotsP A L := rfl
  have hcm : T * slotsP A L = slotsP A L * T := Int.mul_comm _ _
  obtain ⟨all, hall'⟩ : ∃ all : Nat, slotsP A L * T = (all : Int) := ⟨(slotsP A L * T).toNat, by
    have : 0 ≤ slotsP A L * T := Int.mul_nonneg (by omega) (by omega)
    omega⟩
  rw [hall']
  have hk0 := R.ok.k0
  have hk1 := R.ok.k1
  have hvu : ∀ j, u64R ((nmL N ns).getD j 0) := fun j => by
    rcases Nat.lt_or_ge j ns.length with h | h
    · rw [nmL_at h]; have := nmF_bd (N := N) (by omega) (ns.getD j 0); exact ⟨by omega, by omega⟩
    · have : (nmL N ns).getD j 0 = 0 := by simp [nmL, List.getD, h]
      rw [this]; exact ⟨by decide, by decide⟩
  have S9 : ScH w3 w9 X X.abs X.m g6 ⟨A, T, N, L, B, P, S⟩ (.slice (some ⟨w8.heap.size, 0, none⟩) (N.toNat + 1) (N.toNat + 1)) (gdL N ns (N.toNat + 1) 0) := by
    refine ⟨H8.upd0 hu9, A8.upd0 hu9, rfl, ⟨?_, fun g hg => ?_, fun g hg => ?_⟩⟩
    · rw [gdL_len, gdL_0]
      have := Sl.lit (n := N.toNat + 1) hb9 (by rw [made_row1]; simp) (by simp only [maxLen]; omega)
      rw [made_row1] at this
      simpa using this
    · have : w8.heap.size = g := by simpa [Value.ownBlock] using hg
      subst this
      exact fun hm => Nat.lt_irrefl _ (Sep.lt H8.new.ok _ hm)
    · have : w8.heap.size = g := by simpa [Value.ownBlock] using hg
      subst this
      exact H8.new.up.size
  have hc9 := hc8.upd hu9 (by simp)
  have hU9 : Upd [] w w9 := hU3.trans S9.h.new.up
  generalize w8.heap.size = gq at *
  clear hb9 hb6 hb7 hb7b A8 H8 H7 hs6 hs7 hs9
  refine loop_rule [1, 2, 3, 7, 9, 10, 11, 12] [13] (fun vs' w' mm => ∃ (i : Nat) (Y : Mc), vs' = [.int .i64 (i : Int)] ∧ i ≤ all ∧ i ≤ ns.length ∧ mm = ns.length - i ∧ ScH w3 w' Y { X.abs with W := fillW X.abs.W (nmL N ns) i, k := X.abs.k + i } X.m g6 ⟨A, T, N, L, B, P, S⟩ (.slice (some ⟨gq, 0, none⟩) (N.toNat + 1) (N.toNat + 1)) (gdL N ns (N.toNat + 1) i)) rfl [.int .i64 0] ns.length rfl ⟨0, X, rfl, by omega, by omega, rfl, by
    have : X.abs.k + ((0 : Nat) : Int) = X.abs.k := by omega
    rw [this]; exact S9⟩ ?_
  rintro _ wa mm ⟨i, Y, rfl, hi1, hi2, rfl, J⟩
  have hUa : Upd [] w wa := hU3.trans J.h.new.up
  have hca : Blk wa w.heap.size 23 (cf7 ⟨A, T, N, L, B, P, S⟩) := hc3.upd J.h.new.up (by simp)
  refine len_sl ?_
  by_cases q1 : (i : Int) < ns.length
  · refine cY q1 ?_
    by_cases q2 : (i : Int) < all
    · refine cY q2 ?_
      obtain ⟨vb, vo, vc', he, -⟩ := hns.some_ (by omega)
      cases he
      obtain ⟨nn, hnn⟩ : ∃ nn : Nat, nmF N (ns.getD i 0) = (nn : Int) := ⟨(nmF N (ns.getD i 0)).toNat, by have := nmF_bd (N := N) (by omega) (ns.getD i 0); omega⟩
      have hnb := nmF_bd (N := N) (by omega) (ns.getD i 0)
      have hx1 := Int.lt_tmod_of_pos (ns.getD i 0) (show (0 : Int) < N + 1 by omega)
      have hx2 := Int.tmod_lt_of_pos (ns.getD i 0) (show (0 : Int) < N + 1 by omega)
      refine draw_all (fun w' => Upd [] wa w') (by decide +kernel) (Upd.refl [] wa).drew ?_
      refine q_ix i rfl (by omega) ?_
      refine q_ld (v := .int .i64 (ns.getD i 0)) (fun w' hw' => (hns.upd0 (hUa.trans hw')).at_ rfl i (by omega)) ?_
      refine q_fa ?_
      refine q_ld (v := .int .i64 N) (fun w' hw' => (hca.upd hw' (by simp)).cell 2) ?_
      refine q_ar64 (by omega) ?_
      refine rq (.int .i64 ((ns.getD i 0).tmod (N + 1))) (fun _ _ => rm (by omega) (val _ rfl ⟨rfl, rfl⟩)) ?_
      refine q_fa ?_
      refine q_ld (v := .int .i64 N) (fun w' hw' => (hca.upd hw' (by simp)).cell 2) ?_
      refine q_ar64 (by omega) ?_
      refine q_ar64 (by omega) ?_
      refine q_fa ?_
      refine q_ld (v := .int .i64 N) (fun w' hw' => (hca.upd hw' (by simp)).cell 2) ?_
      refine q_ar64 (by omega) ?_
      refine rq (.int .i64 (nn : Int)) (fun _ _ => rm (by omega) (val (nn : Int) hnn ⟨rfl, rfl⟩)) ?_
      intro wb hub
      have Jb := J.upd0 hub
      refine draw_mix 14 [(0, true), (2, true), (3, true), (4, true), (7, true), (8, true), (12, true), (13, true), (1, false), (5, false), (6, true), (9, false), (10, true), (11, false)] (fun w' => Upd [] wb w') (by decide +kernel) (Upd.refl [] wb).drew ?_
      refine rq (.agg (planC ⟨A, T, N, L, B, P, S⟩)) (fun w' hw' => ldw ((Jb.upd0 hw').a.b) rfl ⟨rfl, rfl⟩) ?_
      refine rq (.agg (planC ⟨A, T, N, L, B, P, S⟩)) (fun w' hw' => ldw ((Jb.upd0 hw').a.b) rfl ⟨rfl, rfl⟩) ?_
      refine rq (.agg (planC ⟨A, T, N, L, B, P, S⟩)) (fun w' hw' => ldw ((Jb.upd0 hw').a.b) rfl ⟨rfl, rfl⟩) ?_
      refine rq (.int .u64 (nn : Int)) (fun _ _ => cv (arU (by omega) ⟨rfl, rfl⟩)) ?_
      have u1 : Upd [] wb wb.drew := (Upd.refl [] wb).drew
      have hmm := mem_mm (Jb.upd0 u1).h.new.ok
      rw [Jb.m] at hmm
      refine cl hmm ?_
      rintro _ wc ⟨rfl, hwc⟩
      subst hwc
      refine ⟨u1, ?_⟩
      refine cl (pslots_c ⟨A, T, N, L, B, P, S⟩ _) ?_
      rintro _ w11 ⟨rfl, hu11⟩
      have u2 := u1.trans hu11
      refine ⟨u2, ?_⟩
      refine rq (.int .i64 ((i : Int).tdiv (slotsP A L))) (fun _ _ => qu (by rw [hs0]; omega) (ar64 (by
        have h1 := Int.tdiv_nonneg (show 0 ≤ (i : Int) by omega) (show 0 ≤ slotsP A L by omega)
        have h2 := Int.tdiv_le_self (slotsP A L) (show 0 ≤ (i : Int) by omega)
        rw [hs0]; omega) ⟨rfl, rfl⟩)) ?_
      refine cl (pslots_c ⟨A, T, N, L, B, P, S⟩ _) ?_
      rintro _ w12 ⟨rfl, hu12⟩
      have u3 := u2.trans hu12
      refine ⟨u3, ?_⟩
      refine rq (.int .i64 ((i : Int).tmod (slotsP A L))) (fun _ _ => rm (by rw [hs0]; omega) (val _ rfl ⟨rfl, rfl⟩)) ?_
      refine cl (haz_c hr _ _ _) ?_
      rintro _ w13 ⟨rfl, hu13⟩
      have u4 := u3.trans hu13
      refine ⟨u4, ?_⟩
      have hlin : Cf.haz ⟨A, T, N, L, B, P, S⟩ ((i : Int).tdiv (slotsP A L)) ((i : Int).tmod (slotsP A L)) = 8 + i := haz_lin hr (c := ⟨A, T, N, L, B, P, S⟩) ⟨by omega, by show (i : Int) < slotsP A L * T; omega⟩
      rw [hlin]
      have J13 := Jb.upd0 u4
      have hkY : Y.s.k = X.abs.k + i := J.h.k_
      refine cl (poke_p J13.h.new.ok J13.h.calm ⟨by omega, by omega⟩ (8 + (i : Int)) (nn : Int)) ?_
      rintro _ w14 hev14
      obtain ⟨Z, HZ, hmZ, p14⟩ := J13.h.ev hev14.ev
      have e14 : Y.abs.poke (8 + (i : Int)) (nn : Int) = { X.abs with W := fillW X.abs.W (nmL N ns) (i + 1), k := X.abs.k + ((i + 1 : Nat) : Int) } := by
        rw [J.h.a]
        unfold PS.poke
        rw [if_pos (show PS.okP _ (8 + (i : Int)) from ⟨by omega, by show 8 + (i : Int) < ((fillW X.abs.W (nmL N ns) i).length : Nat); rw [fillW_len]; omega⟩)]
        show (⟨X.abs.c, (fillW X.abs.W (nmL N ns) i).set (8 + (i : Int)).toNat (nn : Int), X.abs.k + i + 1, X.abs.gh, X.abs.acted, X.abs.bad, X.abs.ths⟩ : PS) = _
        rw [show (8 + (i : Int)).toNat = 8 + i by omega, show X.abs.k + (i : Int) + 1 = X.abs.k + ((i + 1 : Nat) : Int) by omega, ← hnn, ← nmL_at (by omega)]; rfl
      rw [e14] at HZ
      have J14 := J13.post HZ hmZ p14
      have hg14 := J14.g.sl
      rw [gdL_len] at hg14
      refine ix nn rfl (by omega) ?_
      refine stS hg14 rfl (by omega) rfl fun w15 hs15 hu15 hz15 => ?_
      have J15 : ScH w3 w15 Z { X.abs with W := fillW X.abs.W (nmL N ns) (i + 1), k := X.abs.k + ((i + 1 : Nat) : Int) } X.m g6 ⟨A, T, N, L, B, P, S⟩ (.slice (some ⟨gq, 0, none⟩) (N.toNat + 1) (N.toNat + 1)) (gdL N ns (N.toNat + 1) (i + 1)) := by
        have hgn : gq ∉ Z.feet := J14.g.n gq (by simp [Value.ownBlock])
        have hgf : w3.heap.size ≤ gq := J14.g.fr gq (by simp [Value.ownBlock])
        obtain ⟨cs, hbq⟩ := sl_blk hg14 (g := gq) (by simp [Value.ownBlock])
        refine ⟨J14.h.own hu15 (fun g hg => by rw [List.mem_singleton.1 hg]; exact hgn) (fun g hg => by rw [List.mem_singleton.1 hg]; exact hgf), ⟨J14.a.b.upd hu15 (fun hm => ?_), J14.a.n⟩, J14.m, ⟨?_, J14.g.n, J14.g.fr⟩⟩
        · have := J14.a.b.ne_ hbq (by decide)
          exact this (List.mem_singleton.1 hm)
        · rw [gdL_len, ← gdL_s N ns (N.toNat + 1) i nn (by rw [nmL_at (by omega)]; exact hnn), List.map_set]
          exact hs15
      refine ar64 (by omega) ?_
      exact round_mk [.int .i64 ((i + 1 : Nat) : Int)] (ns.length - (i + 1)) rfl rfl ⟨i + 1, Z, rfl, by omega, by omega, rfl, J15⟩ (by omega)
    · refine cN q2 ?_
      have hlkc : linksP X.abs.c.A X.abs.c.T X.abs.c.L = linksP A T L := by rw [hc]
      have R1 := R.fill (nmL N ns) hvu i (by rw [hlkc]; omega) (by omega)
      have hNn : ((N.toNat : Nat) : Int) = N := by omega
      obtain ⟨se, hsE⟩ : ∃ se : Nat, sentP A = (se : Int) := ⟨(sentP A).toNat, by omega⟩
      rw [hsE] at b3
      have hse2 : (sentP A).toNat = se := by omega
      rw [hse2] at R1
      obtain ⟨t0, ht0, hf0⟩ := H.t0
      obtain ⟨-, hR0, hO0⟩ := hall t0 (List.mem_of_getElem? ht0)
      have hth0 : X.abs.ths[0]? = some (absT t0) := abs_th X ht0
      refine loop_rule [2, 3, 7, 9, 10, 11, 12] [15] (fun vs' w' mm => ∃ (j : Nat) (Z : Mc) (Q : PS), vs' = [.int .i64 ((se : Int) + j)] ∧ se + j ≤ N.toNat ∧ mm = N.toNat - se - j ∧ ScH w3 w' Z Q X.m g6 ⟨A, T, N, L, B, P, S⟩ (.slice (some ⟨gq, 0, none⟩) (N.toNat + 1) (N.toNat + 1)) (gdL N ns (N.toNat + 1) i) ∧
          Rep Q (freeF N.toNat (N.toNat - se - j)) (liveL N.toNat (se + j)) (200 + i + 3 * j) ∧ Q.c = ⟨A, T, N, L, B, P, S⟩ ∧ (∃ t, Q.ths[0]? = some t ∧ t.fs = [] ∧ t.R = [] ∧ t.O = []) ∧ ∀ jj : Nat, jj < all → Q.W.getD (8 + jj) 0 = (fillW X.abs.W (nmL N ns) i).getD (8 + jj) 0) rfl [.int .i64 (sentP A)] (N.toNat - se) rfl
        ⟨0, Y, _, by rw [hsE]; rfl, by omega, rfl, J, R1, hc, ⟨absT t0, hth0, hf0, hR0, hO0⟩, fun _ _ => rfl⟩ ?_
      rintro _ wb mm ⟨j, Z, PP, rfl, hj, rfl, JZ, RZ, hcZ, ⟨tz, htz, hfz, hRz, hOz⟩, hzz⟩
      have hcb : Blk wb w.heap.size 23 (cf7 ⟨A, T, N, L, B, P, S⟩) := hc3.upd JZ.h.new.up (by simp)
      refine fa ?_
      refine ldb hcb (v := .int .i64 N) rfl ?_
      refine cd (fun hlt => ?_) (fun hlt => ?_)
      · obtain ⟨kk, hkk⟩ : ∃ kk, N.toNat - se - j = kk + 1 := ⟨N.toNat - se - j - 1, by omega⟩
        rw [hkk, freeF_s, show ((N.toNat - kk : Nat) : Int) = ((se + j + 1 : Nat) : Int) by omega] at RZ
        obtain ⟨qq, hq1, hq2, hq3, hq4, hq5⟩ := al_gen RZ (by omega) htz hfz (by rw [hOz]; decide) (by rw [hRz]; decide)
        have hal := JZ.h.alone2 (q := qq) (fn := 1) (v := .slice none 0 0) (l := []) (n := 3) (List.getElem?_eq_some_iff.1 htz).1 (by rw [topL_at htz, hfz]; rfl) (by omega) (RdK.nil_ wb .u64) (by decide) hq1
        rw [JZ.m] at hal
        refine cl hal ?_
        rintro _ wc ⟨rfl, Z2, HZ2, hm2, p2⟩
        refine ar64 (by omega) ?_
        refine round_mk [.int .i64 ((se : Int) + ((j + 1 : Nat) : Int))] (N.toNat - se - (j + 1)) rfl (by rw [show (se : Int) + ((j + 1 : Nat) : Int) = (se : Int) + j + 1 by omega]; rfl) ⟨j + 1, Z2, qq, rfl, by omega, rfl, JZ.post HZ2 (hm2.trans JZ.m.symm) p2, ?_, hq3.trans hcZ, ?_, fun jj hjj => by rw [hq5 _ (by omega)]; exact hzz jj hjj⟩ (by omega)
        · have e1 : (((se + j + 1 : Nat) : Int) - 1).toNat = se + j := by omega
          rw [e1, liveL_set] at hq2
          rw [show N.toNat - se - (j + 1) = kk by omega]
          have e2 : (200 : Int) + i + 3 * ((j + 1 : Nat) : Int) = 200 + i + 3 * j + 3 := by omega
          rw [e2]
          exact hq2
        · have hl0 := (List.getElem?_eq_some_iff.1 htz).1
          exact ⟨{ tz with fs := [], r := (((se + j + 1 : Nat) : Int), 0, 0) }, by rw [hq4, List.getElem?_set, if_pos rfl, if_pos hl0], rfl, hRz, hOz⟩
      obtain rfl : j = N.toNat - se := by omega
      rw [show N.toNat - se - (N.toNat - se) = 0 by omega, show se + (N.toNat - se) = N.toNat by omega] at RZ
      have RZ : Rep PP [] (liveL N.toNat N.toNat) (200 + i + 3 * ((N.toNat - se : Nat) : Int)) := RZ
      have Bs : Bse PP := ⟨RZ.ok.up (by omega), ⟨tz, htz⟩, by rw [hcZ]; exact b4.1, RZ.bad⟩
      have hcN : PP.c.N = N := by rw [hcZ]
      have I0 : Rw PP PP.W [] (liveL N.toNat N.toNat) := ⟨RZ.ok.w, rfl, RZ.lk, RZ.nd, RZ.tag, RZ.tl⟩
      have hallc : (all : Int) = PP.c.slots * PP.c.T := by rw [hcZ]; exact hall'.symm
      have hllc : 8 + (all : Int) = linksP PP.c.A PP.c.T PP.c.L := (Bs.all hallc).2.2
      have hall84 : all ≤ 84 := (Bs.all hallc).2.1
      obtain ⟨G, hG⟩ : ∃ G : Int → Bool, G = hasI (slL PP.W all) := ⟨_, rfl⟩
      have hGg : ∀ y : Nat, 1 ≤ y → G (y : Int) = gdB N ns i y := fun y hy => by
        rw [hG]
        exact gd_slots (W := X.abs.W) (by omega) (fun jj hjj => by rw [hW0]; exact haz0 hr jj (by rw [hall']; omega)) hi1 hi2 (by omega) hzz hy
      have S0 : SRt PP PP.W G (se : Int) PP.W [] (liveL N.toNat N.toNat) [] 0 := ⟨I0, List.nodup_nil, fun x hx => (by cases hx), fun x h1 h2 => by
        have := liveL_at N.toNat N.toNat (x - 1).toNat (by omega)
        rw [this, if_pos (by omega)], fun x h1 h2 _ => by omega, fun x h1 h2 _ => by omega, liveL_two _ _, rfl, fun _ _ _ => rfl⟩
      have e0 := M_self htz RZ.gh
      have hk0Z := RZ.ok.k0
      have hk1Z := RZ.ok.k1
      rw [← e0] at JZ
      refine ar64 (by omega) ?_
      refine loop_rule [2, 3, 7, 9, 10, 11, 12] [16, 17] (fun vs' w' mm => ∃ (i3 : Nat) (y : Int) (Z : Mc) (W free tg wait : List Int) (k : Int) (a : Bool) (t : PT) (wv : Value), vs' = [wv, .int .i64 y] ∧ y = (se : Int) + i3 + 1 ∧ se + i3 ≤ N.toNat ∧ mm = N.toNat - se - i3 ∧
          ScH w3 w' Z (M PP a k W (some (tg, 0, 0)) t) X.m g6 ⟨A, T, N, L, B, P, S⟩ (.slice (some ⟨gq, 0, none⟩) (N.toNat + 1) (N.toNat + 1)) (gdL N ns (N.toNat + 1) i) ∧ t.fs = [] ∧ t.R = wait ∧ t.O.length ≤ 200 ∧ SRt PP PP.W G (se : Int) W free tg wait i3 ∧
          FarZ w3 w' Z 3 1 wv wait.length (wait.map (.int .i64)) ∧ 0 ≤ k ∧ k ≤ 1000 + 300 * i3) rfl [.slice none 0 0, .int .i64 (sentP A + 1)] (N.toNat - se) rfl
        ⟨0, sentP A + 1, Z, _, _, _, [], _, _, tz, _, rfl, by omega, by omega, rfl, JZ, hfz, hRz, by rw [hOz]; decide, S0, FarZ.nil_ _ _ _ _ _, hk0Z, by omega⟩ ?_
      clear e0 S0 I0 JZ
      rintro _ wc mm ⟨i3, y, Z3, W3, free3, tg3, wait3, k3, a3, t3, wv3, rfl, hy, hi3, rfl, J3, hf3, hR3, hO3, S3, F3, hk30, hk31⟩
      have hcc : Blk wc w.heap.size 23 (cf7 ⟨A, T, N, L, B, P, S⟩) := hc3.upd J3.h.new.up (by simp)
      have hslW : slL W3 all = slL PP.W all := slL_congr fun jj hjj => S3.hz (8 + jj) (by omega) (by omega)
      have hwl3 : wait3.length ≤ 64 := Nat.le_trans (nodup_le (n := N.toNat) S3.nd (fun x hx => by have := (S3.wt x hx).1; omega)) (by omega)
      refine fa ?_
      refine ldb hcc (v := .int .i64 N) rfl ?_
      refine cd (fun hlt => ?_) (fun hlt => ?_)
      · have hx3 : 1 ≤ y ∧ y ≤ PP.c.N := by omega
        have htx : tg3.getD (y - 1).toNat 0 = 1 := S3.un y (by omega) hx3.2
        have mm3 := mem_mm J3.h.new.ok
        rw [J3.m] at mm3
        refine cl mm3 ?_
        rintro _ wc ⟨rfl, rfl⟩
        refine cl (steps_c J3.h.new.ok.mem) ?_
        rintro _ wc ⟨rfl, rfl⟩
        have hkZ3 : Z3.s.k = k3 := J3.h.k_
        rw [hkZ3]
        refine cv ?_
        refine arU (by omega) ?_
        refine bs #[.int .u64 y] (fun _ => by kernel_rfl) fun wd hbd hud hsd => ?_
        have J4 := J3.upd0 hud
        have F4 := F3.upd0 hud
        have hthl : 0 < (M PP a3 k3 W3 (some (tg3, 0, 0)) t3).ths.length := (List.getElem?_eq_some_iff.1 (M_th (a := a3) (k := k3) (W := W3) (gh := some (tg3, 0, 0)) (t := t3) htz)).1
        have htop : topL (M PP a3 k3 W3 (some (tg3, 0, 0)) t3) 0 = 0 := by rw [topM Bs, hf3]; rfl
        have S5 := S3.retire (by omega) (by omega)
        rw [show (se : Int) + i3 + 1 = y from hy.symm] at S5
        have hwl5 : (wait3 ++ [y]).length ≤ 64 := Nat.le_trans (nodup_le (n := N.toNat) S5.nd (fun x hx => by have := (S5.wt x hx).1; omega)) (by omega)
        have hRl : t3.R.length ≤ 900 := by rw [hR3]; omega
        by_cases hs : (wait3.length : Int) + 1 ≥ S
        · obtain ⟨W6, r6, rw6, hz6'⟩ := scan_run (a := false) (k := k3) (t := { t3 with r := (0, 0, 0), R := t3.R ++ [y] }) Bs S5.rw_ hallc ⟨by omega, by omega⟩ (by show (t3.R ++ [y]).length ≤ 1000; rw [hR3]; omega) (by show t3.O.length ≤ 1000; omega) (fun x hx => by
            have hx : x ∈ wait3 ++ [y] := by rw [← hR3]; exact hx
            obtain ⟨a1, a2⟩ := S5.wt x hx
            exact ⟨by omega, a2⟩) (by show (t3.R ++ [y]).Nodup; rw [hR3]; exact S5.nd)
          have e3R : ({ t3 with r := (0, 0, 0), R := t3.R ++ [y] } : PT).R = wait3 ++ [y] := by rw [← hR3]
          rw [e3R, hslW, ← hG] at r6 rw6
          rw [show 3 * ((wait3 ++ [y]).filter fun y => !G y).length + 1 + all = (3 * ((wait3 ++ [y]).filter fun y => !G y).length + all) + 1 by omega] at r6
          have hrun := ret_scan (a := a3) (k := k3) (t := t3) Bs S3.rw_ ⟨hk30, by omega⟩ hRl (by omega) hx3 htx (by rw [hR3, hcZ]; exact hs) (R' := wait3 ++ [y]) (by rw [hR3]) r6
          have hfl := filter_len G (wait3 ++ [y])
          have hal := J4.h.alone2 (n := 3 * ((wait3 ++ [y]).filter fun y => !G y).length + all + 1) (fn := 5) (l := [y]) hthl htop (by omega) (one_rd hbd) (by simp) (by rw [pushH_M Bs 5 [y] hf3]; exact hrun)
          rw [J4.m] at hal
          refine cl hal ?_
          rintro _ we ⟨rfl, Z6, HZ6, hm6, p6⟩
          have J6 := J4.post HZ6 (hm6.trans J4.m.symm) p6
          have F6 := F4.post p6
          have S6 := S5.scan (by omega) (by omega) rw6 hz6'
          refine bs #[.int .i64 y] (fun _ => by kernel_rfl) fun wf hbf huf hsf => ?_
          refine apg (F6.upd0 huf).sl hbf rfl rfl (by decide) (by simp only [maxLen]; omega) (by omega) fun wv7 wg hs7 hG7 => ?_
          obtain ⟨F7, J7⟩ := (J6.upd0 huf).grow (by decide) (by decide) (F6.upd0 huf) hs7 hG7
          have F7 : FarZ w3 wg Z6 3 1 wv7 (wait3 ++ [y]).length ((wait3 ++ [y]).map (.int .i64)) := by rw [List.length_append, List.map_append]; exact F7
          have hcg : Blk wg w.heap.size 23 (cf7 ⟨A, T, N, L, B, P, S⟩) := hc3.upd J7.h.new.up (by simp)
          generalize hwt : wait3 ++ [y] = wait7 at *
          have hwl7 : wait7.length = wait3.length + 1 := by rw [← hwt, List.length_append]; rfl
          obtain ⟨wa7, wc7, rfl, -⟩ := F7.sl.form
          refine len_sl ?_
          refine fa ?_
          refine ldb hcg (v := .int .i64 S) rfl ?_
          refine cY (by omega) ?_
          refine loop_rule [2, 3, 7, 9, 10, 11, 12, 16, 17, 18] [20, 21] (fun vs' w' mm => ∃ (jj : Nat) (sv : Value), vs' = [sv, .int .i64 (jj : Int)] ∧ jj ≤ wait7.length ∧ mm = wait7.length - jj ∧ Upd [] wg w' ∧ FarZ wg w' Z6 3 1 sv ((wait7.take jj).filter G).length (((wait7.take jj).filter G).map (.int .i64))) rfl [.slice none 0 0, .int .i64 0] wait7.length rfl ⟨0, _, rfl, by omega, rfl, .refl _ _, FarZ.nil_ _ _ _ _ _⟩ ?_
          rintro _ wh mm ⟨jj, sv, rfl, hjj, rfl, huh, Fs⟩
          have J8 := J7.upd0 huh
          have F8 := F7.upd0 huh
          refine len_sl ?_
          refine cd (fun hjl => ?_) (fun hjl => ?_)
          · have hjl : jj < wait7.length := by omega
            obtain ⟨wb8, wo8, wc8, he, -⟩ := F7.sl.some_ (by omega)
            cases he
            obtain ⟨z, hzv⟩ : ∃ z, wait7.getD jj 0 = z := ⟨_, rfl⟩
            have hzm : z ∈ wait7 := by rw [← hzv]; simp [List.getD, hjl]
            have hzb := (S5.wt z hzm).1
            have hgz : (gdL N ns (N.toNat + 1) i).getD z.toNat false = G z := by
              rw [gdL_at (by omega), ← hGg z.toNat (by omega), show ((z.toNat : Nat) : Int) = z by omega]
            refine ix jj rfl hjl ?_
            refine ld (v := .int .i64 z) (by rw [← hzv]; exact int_at F8.sl hjl) ?_
            refine ix z.toNat (by omega) (by omega) ?_
            have hg8 := J8.g.sl
            have hgl8 := gdL_len N ns (N.toNat + 1) i
            have hbz : wh.cell? ⟨gq, 0 + z.toNat * 1, none⟩ = some (.bool (G z)) := by
              rw [← hgz]
              have hg9 : Sl wh 4 1 (.slice (some ⟨gq, 0, none⟩) (gdL N ns (N.toNat + 1) i).length (N.toNat + 1)) (gdL N ns (N.toNat + 1) i).length ((gdL N ns (N.toNat + 1) i).map .bool) := by rw [hgl8]; rw [hgl8] at hg8; exact hg8
              exact bool_at hg9 (by rw [hgl8]; omega)
            have htf := take_filt (G := G) hjl
            rw [hzv] at htf
            have hfl2 : ((wait7.take jj).filter G).length ≤ jj := Nat.le_trans (List.length_filter_le _ _) (by rw [List.length_take]; omega)
            cases hGz : G z with
            | true =>
              rw [hGz] at hbz
              rw [hGz, if_pos rfl] at htf
              refine ld (v := .bool true) hbz ?_
              refine ix jj rfl hjl ?_
              refine ld (v := .int .i64 z) (by rw [← hzv]; exact int_at F8.sl hjl) ?_
              refine bs #[.int .i64 z] (fun _ => by kernel_rfl) fun wi hbi hui hsi => ?_
              refine apg (Fs.upd0 hui).sl hbi rfl rfl (by decide) (by simp only [maxLen]; omega) (by omega) fun sv9 wj hs9 hG9 => ?_
              have hU9 : Upd [] wg wj := (huh.trans hui).step hG9.up (fun q hq => .inr (Fs.fr q (by simpa using hq)))
              refine ar64 (by omega) ?_
              refine round_mk [sv9, .int .i64 ((jj + 1 : Nat) : Int)] (wait7.length - (jj + 1)) rfl rfl ⟨jj + 1, sv9, rfl, by omega, rfl, hU9, ⟨?_, fun q hq => ?_, fun q hq => ?_⟩⟩ (by omega)
              · rw [htf, List.length_append, List.map_append]; exact hs9
              · rcases hG9.own q hq with h1 | h1
                · exact Fs.n q h1
                · intro hm
                  have h2 := (J8.upd0 hui).h.new.ok.lt q hm
                  omega
              · rcases hG9.own q hq with h1 | h1
                · exact Fs.fr q h1
                · have h2 := (huh.trans hui).size; omega
            | false =>
              rw [hGz] at hbz
              rw [hGz, if_neg (by decide), List.append_nil] at htf
              refine ld (v := .bool false) hbz ?_
              refine ar64 (by omega) ?_
              refine round_mk [sv, .int .i64 ((jj + 1 : Nat) : Int)] (wait7.length - (jj + 1)) rfl rfl ⟨jj + 1, sv, rfl, by omega, rfl, huh, ?_⟩ (by omega)
              rw [htf]; exact Fs
          · obtain rfl : jj = wait7.length := by omega
            rw [List.take_length] at Fs
            obtain ⟨sa, sc, rfl, -⟩ := Fs.sl.form
            have hflen : (wait7.filter G).length ≤ wait7.length := List.length_filter_le _ _
            refine len_sl ?_
            refine len_sl ?_
            refine ar64 (by omega) ?_
            refine ar64 (by omega) ?_
            refine ar64 (by omega) ?_
            have mm8 := mem_mm J8.h.new.ok
            rw [J8.m] at mm8
            refine cl mm8 ?_
            rintro _ wh ⟨rfl, rfl⟩
            refine cl (steps_c J8.h.new.ok.mem) ?_
            rintro _ wh ⟨rfl, rfl⟩
            have hkZ8 : Z6.s.k = k3 + all + 3 * (wait7.filter fun y => !G y).length := J8.h.k_
            rw [hkZ8]
            refine ar64 (by omega) ?_
            refine cN (fun h => h (by omega)) ?_
            obtain ⟨th8, hth8, hat8⟩ := J8.h.th (i := 0) (M_th htz)
            have htm8 := thread_mm (i := 0) J8.h.new.ok hth8 J8.h.tl
            rw [J8.m] at htm8
            refine cl htm8 ?_
            rintro _ wh ⟨rfl, rfl⟩
            obtain ⟨ra8, rc8, hrv8, hrc8⟩ := J8.h.new.ok.rcell hth8
            have hR8 : th8.R = wait7.filter G := (congrArg PT.R hat8)
            rw [hR8] at hrc8
            refine fa ?_
            refine cl (len_p hrc8) ?_
            rintro _ wh ⟨rfl, rfl⟩
            refine len_sl ?_
            refine cN (fun h => h rfl) ?_
            refine ar64 (by omega) ?_
            refine round_mk [.slice sa (wait7.filter G).length sc, .int .i64 (y + 1)] (N.toNat - se - (i3 + 1)) rfl rfl ⟨i3 + 1, y + 1, Z6, W6, _, _, wait7.filter G, _, false, _, _, rfl, by omega, by omega, rfl, J8, rfl, rfl, by show ([] : List Int).length ≤ 200; decide, S6, ⟨Fs.sl, Fs.n, fun q hq => by have := Fs.fr q hq; have := J7.h.new.up.size; omega⟩, by omega, by omega⟩ (by omega)
        · have hrun := ret_run (a := a3) (k := k3) (t := t3) Bs S3.rw_ ⟨hk30, by omega⟩ hRl (by omega) hx3 htx (by rw [hR3, hcZ]; exact hs)
          have hal := J4.h.alone2 (n := 1) (fn := 5) (l := [y]) hthl htop (by omega) (one_rd hbd) (by simp) (by rw [pushH_M Bs 5 [y] hf3]; exact hrun)
          rw [J4.m] at hal
          refine cl hal ?_
          rintro _ we ⟨rfl, Z6, HZ6, hm6, p6⟩
          have J6 := J4.post HZ6 (hm6.trans J4.m.symm) p6
          have F6 := F4.post p6
          refine bs #[.int .i64 y] (fun _ => by kernel_rfl) fun wf hbf huf hsf => ?_
          refine apg (F6.upd0 huf).sl hbf rfl rfl (by decide) (by simp only [maxLen]; omega) (by omega) fun wv7 wg hs7 hG7 => ?_
          obtain ⟨F7, J7⟩ := (J6.upd0 huf).grow (by decide) (by decide) (F6.upd0 huf) hs7 hG7
          have F7 : FarZ w3 wg Z6 3 1 wv7 (wait3 ++ [y]).length ((wait3 ++ [y]).map (.int .i64)) := by rw [List.length_append, List.map_append]; exact F7
          have hcg : Blk wg w.heap.size 23 (cf7 ⟨A, T, N, L, B, P, S⟩) := hc3.upd J7.h.new.up (by simp)
          have hwl7 : (wait3 ++ [y]).length = wait3.length + 1 := by rw [List.length_append]; rfl
          obtain ⟨wa7, wc7, rfl, -⟩ := F7.sl.form
          refine len_sl ?_
          refine fa ?_
          refine ldb hcg (v := .int .i64 S) rfl ?_
          refine cN (by omega) ?_
          have mm8 := mem_mm J7.h.new.ok
          rw [J7.m] at mm8
          refine cl mm8 ?_
          rintro _ wg ⟨rfl, rfl⟩
          refine cl (steps_c J7.h.new.ok.mem) ?_
          rintro _ wg ⟨rfl, rfl⟩
          have hkZ8 : Z6.s.k = k3 := J7.h.k_
          rw [hkZ8]
          refine ar64 (by omega) ?_
          refine cN (fun h => h (by omega)) ?_
          obtain ⟨th8, hth8, hat8⟩ := J7.h.th (i := 0) (M_th htz)
          have htm8 := thread_mm (i := 0) J7.h.new.ok hth8 J7.h.tl
          rw [J7.m] at htm8
          refine cl htm8 ?_
          rintro _ wg ⟨rfl, rfl⟩
          obtain ⟨ra8, rc8, hrv8, hrc8⟩ := J7.h.new.ok.rcell hth8
          have hR8 : th8.R = wait3 ++ [y] := (congrArg PT.R hat8).trans (by show t3.R ++ [y] = _; rw [hR3])
          rw [hR8] at hrc8
          refine fa ?_
          refine cl (len_p hrc8) ?_
          rintro _ wg ⟨rfl, rfl⟩
          refine len_sl ?_
          refine cN (fun h => h rfl) ?_
          refine ar64 (by omega) ?_
          refine round_mk [.slice wa7 (wait3 ++ [y]).length wc7, .int .i64 (y + 1)] (N.toNat - se - (i3 + 1)) rfl rfl ⟨i3 + 1, y + 1, Z6, W3, free3, _, wait3 ++ [y], k3, false, _, _, rfl, by omega, by omega, rfl, J7, rfl, by show t3.R ++ [y] = _; rw [hR3], hO3, S5, F7, hk30, by omega⟩ (by omega)
      · have hi3N : se + i3 = N.toNat := by omega
        cases ask with
        | false =>
          obtain ⟨aF, haF⟩ : ∃ a, a = a3 := ⟨_, rfl⟩
          have JF := J3
          have SF := S3
          have FF := F3
          have hRFt : t3.R = wait3 := hR3
          have hfF := hf3
          have hkF0 := hk30
          have hkF1 := hk31
          generalize wait3 = wF at *
          generalize free3 = freeF_ at *
          generalize tg3 = tgF at *
          generalize W3 = WF at *
          generalize t3 = tF at *
          generalize k3 = kF at *
          subst haF
          obtain ⟨wva, wvc, rfl, -⟩ := FF.sl.form
          obtain ⟨thF, hthF, hatF⟩ := JF.h.th (i := 0) (M_th htz)
          have htmF := thread_mm (i := 0) JF.h.new.ok hthF JF.h.tl
          rw [JF.m] at htmF
          refine cl htmF ?_
          rintro _ wc ⟨rfl, rfl⟩
          obtain ⟨raF, rcF, hrvF, hrcF⟩ := JF.h.new.ok.rcell hthF
          have hslF := JF.h.new.ok.rvs_ hthF
          have hRF : thF.R = wF := (congrArg PT.R hatF).trans hRFt
          rw [hRF] at hrcF hslF hrvF
          rw [hrvF] at hslF
          have hwlF : wF.length ≤ 64 := Nat.le_trans (nodup_le (n := N.toNat) SF.nd (fun x hx => by have := (SF.wt x hx).1; omega)) (by omega)
          refine fa ?_
          refine cl (list_cell hrcF hslF (by omega)) ?_
          rintro lv wl ⟨hlv, hul⟩
          have JL := JF.upd0 hul
          have hcl : Blk wl w.heap.size 23 (cf7 ⟨A, T, N, L, B, P, S⟩) := hc3.upd JL.h.new.up (by simp)
          obtain ⟨la, lc, rfl, -⟩ := hlv.form
          refine loop_rule [2, 3, 7, 10, 12, 16, 22] [23] (fun vs' w' mm => ∃ (i4 : Nat), vs' = [.int .i64 (i4 : Int)] ∧ i4 ≤ wF.length ∧ mm = wF.length - i4 ∧ Upd [] wl w') rfl [.int .i64 0] wF.length rfl ⟨0, rfl, by omega, rfl, .refl _ _⟩ ?_
          rintro _ wm mm ⟨i4, rfl, hi4, rfl, hum⟩
          have hlm := hlv.upd hum (by simp)
          have JM := JL.upd0 hum
          refine len_sl ?_
          refine cd (fun hl4 => ?_) (fun hl4 => ?_)
          · have hl4 : i4 < wF.length := by omega
            obtain ⟨lb, lo, lc2, he, -⟩ := hlv.some_ (by omega)
            cases he
            obtain ⟨z, hzv⟩ : ∃ z, wF.getD i4 0 = z := ⟨_, rfl⟩
            have hzm : z ∈ wF := by rw [← hzv]; simp [List.getD, hl4]
            have hzb := (SF.wt z hzm).1
            refine draw_all (fun w' => Upd [] wm w') (by decide +kernel) (Upd.refl [] wm).drew ?_
            refine q_ix i4 rfl hl4 ?_
            refine q_ld (v := .int .i64 z) (fun w' hw' => by rw [← hzv]; exact int_at (hlm.upd hw' (by simp)) hl4) ?_
            obtain ⟨wfa, wfb, wfc, hef, -⟩ := (FF.sl).some_ (by omega)
            cases hef
            refine q_ix i4 rfl hl4 ?_
            refine q_ld (v := .int .i64 z) (fun w' hw' => by rw [← hzv]; exact int_at (((FF.upd0 hul).upd0 hum).upd0 hw').sl hl4) ?_
            refine cN (fun h => h rfl) ?_
            intro wn hwn
            refine ar64 (by omega) ?_
            exact round_mk [.int .i64 ((i4 + 1 : Nat) : Int)] (wF.length - (i4 + 1)) rfl rfl ⟨i4 + 1, rfl, by omega, rfl, hum.trans hwn⟩ (by omega)
          obtain rfl : i4 = wF.length := by omega
          refine ar64 (by omega) ?_
          refine loop_rule [2, 3, 7, 10, 12, 22] [24] (fun vs' w' mm => ∃ y5 : Int, vs' = [.int .i64 y5] ∧ w' = wm) rfl [.int .i64 (sentP A + 1)] 0 rfl ⟨_, rfl, rfl⟩ ?_
          rintro _ wr mm ⟨y5, rfl, rfl⟩
          have hur : Upd [] wr wr := .refl _ _
          have JR := JM.upd0 hur
          have hcr' : Blk wr w.heap.size 23 (cf7 ⟨A, T, N, L, B, P, S⟩) := hc3.upd JR.h.new.up (by simp)
          have RF : Rep (M PP aF kF WF (some (tgF, 0, 0)) tF) freeF_ tgF 900000 := SF.rw_.rep Bs ⟨hkF0, by omega⟩ hfF
          obtain ⟨gp, gvv, hgv, hIsG⟩ := JR.h.ghost (p := M PP aF kF WF (some (tgF, 0, 0)) tF) rfl
          have htlF := SF.rw_.tl
          refine draw_mix 19 [(0, true), (1, true), (2, true), (3, true), (4, true), (5, true), (6, true), (7, true), (10, true), (11, true), (12, true), (13, true), (14, true), (15, true), (16, true), (8, false), (9, true), (17, true), (18, true)] (fun w' => Upd [] wr w') (by decide +kernel) (Upd.refl [] wr).drew ?_
          refine t_cl (ptrV gp) (fun w' hw' => by
            have := ghost_mm (JR.upd0 hw').h.new.ok
            rw [(JR.upd0 hw').m, hgv] at this
            exact this) ?_
          refine t_cl (.int .i64 (wF.length : Int)) (fun w' hw' => by
            obtain ⟨gp2, gv2, hgv2, hI2⟩ := (JR.upd0 hw').h.ghost (p := M PP aF kF WF (some (tgF, 0, 0)) tF) rfl
            have e : gp2 = gp := by rw [hgv] at hgv2; simpa [ptrV] using hgv2.symm
            subst e
            have := count_g hI2 (by omega) 2
            rw [SF.mn] at this
            exact this) ?_
          refine q_len ?_
          refine cY rfl ?_
          refine q_fa ?_
          refine q_ld (v := .int .i64 N) (fun w' hw' => (hcr'.upd hw' (by simp)).cell 2) ?_
          refine q_ar64 (by omega) ?_
          refine q_len ?_
          refine q_ar64 (by omega) ?_
          have JRd := JR.upd0 (Upd.refl [] wr).drew
          have hch := JRd.h.chain0 RF
          rw [JRd.m] at hch
          refine cl hch ?_
          rintro cv wz ⟨hcv, huz⟩
          have U : Upd [] wr wz := (Upd.refl [] wr).drew.trans huz
          refine ⟨U, ?_⟩
          obtain ⟨ca, cc, rfl, -⟩ := hcv.form
          refine q_len ?_
          have JZ' := JR.upd0 U
          have hlnF := SF.ln
          refine cY (by omega) ?_
          have hft := JZ'.h.fault0 (p := M PP aF kF WF (some (tgF, 0, 0)) tF) rfl Bs.bad
          rw [JZ'.m] at hft
          refine cl hft ?_
          rintro _ wy ⟨rfl, huy⟩
          refine cl (lives18 _) ?_
          rintro _ wx ⟨rfl, hux⟩
          exact ⟨rfl, ((hU3.trans JZ'.h.new.up).trans huy).trans hux⟩
        | true =>
          have hthl : 0 < (M PP a3 k3 W3 (some (tg3, 0, 0)) t3).ths.length := (List.getElem?_eq_some_iff.1 (M_th (a := a3) (k := k3) (W := W3) (gh := some (tg3, 0, 0)) (t := t3) htz)).1
          have htop : topL (M PP a3 k3 W3 (some (tg3, 0, 0)) t3) 0 = 0 := by rw [topM Bs, hf3]; rfl
          obtain ⟨W6, r6, rw6, hz6'⟩ := scan_run (a := a3) (k := k3) (t := t3) Bs S3.rw_ hallc ⟨by omega, by omega⟩ (by rw [hR3]; omega) (by omega) (fun x hx => by
            rw [hR3] at hx
            obtain ⟨a1, a2⟩ := S3.wt x hx
            exact ⟨by omega, a2⟩) (by rw [hR3]; exact S3.nd)
          rw [hR3, hslW, ← hG] at r6 rw6
          have hfl := filter_len G wait3
          have hal := J3.h.alone2 (n := 3 * (wait3.filter fun y => !G y).length + 1 + all) (fn := 6) (v := .slice none 0 0) (l := []) hthl htop (by omega) (RdK.nil_ wc .u64) (by decide) (by rw [pushH_M Bs 6 [] hf3, show ({ t3 with fs := [⟨6, 0, []⟩] } : PT) = { t3 with fs := [⟨6, 0, []⟩], R := wait3 } by rw [← hR3]]; exact r6)
          rw [J3.m] at hal
          refine cl hal ?_
          rintro _ we ⟨rfl, Z6, HZ6, hm6, p6⟩
          have JF := J3.post HZ6 (hm6.trans J3.m.symm) p6
          have SF := S3.scan (by omega) (by omega) rw6 hz6'
          have hwG : ∀ x ∈ wait3.filter G, G x = true := fun x hx => (List.mem_filter.1 hx).2
          have hflen : (wait3.filter G).length ≤ wait3.length := List.length_filter_le _ _
          have hkF0 : 0 ≤ k3 + all + 3 * ((wait3.filter fun y => !G y).length : Int) := by omega
          have hkF1 : k3 + all + 3 * ((wait3.filter fun y => !G y).length : Int) ≤ 100000 := by omega
          obtain ⟨aF, haF⟩ : ∃ a, a = false := ⟨_, rfl⟩
          rw [← haF] at JF
          generalize htF : ({ t3 with fs := [], r := (0, 0, 0), R := wait3.filter G, O := [] } : PT) = tF at *
          have hRFt : tF.R = wait3.filter G := by rw [← htF]
          have hfF : tF.fs = [] := by rw [← htF]
          clear HZ6
          generalize k3 + all + 3 * ((wait3.filter fun y => !G y).length : Int) = kF at *
          generalize (wait3.filter fun y => !G y).reverse ++ free3 = freeF_ at *
          generalize clr tg3 (wait3.filter fun y => !G y) = tgF at *
          generalize wait3.filter G = wF at *
          generalize W6 = WF at *
          obtain ⟨thF, hthF, hatF⟩ := JF.h.th (i := 0) (M_th htz)
          have htmF := thread_mm (i := 0) JF.h.new.ok hthF JF.h.tl
          rw [JF.m] at htmF
          refine cl htmF ?_
          rintro _ we ⟨rfl, rfl⟩
          obtain ⟨raF, rcF, hrvF, hrcF⟩ := JF.h.new.ok.rcell hthF
          have hslF := JF.h.new.ok.rvs_ hthF
          have hRF : thF.R = wF := (congrArg PT.R hatF).trans hRFt
          rw [hRF] at hrcF hslF hrvF
          rw [hrvF] at hslF
          have hwlF : wF.length ≤ 64 := Nat.le_trans (nodup_le (n := N.toNat) SF.nd (fun x hx => by have := (SF.wt x hx).1; omega)) (by omega)
          refine fa ?_
          refine cl (list_cell hrcF hslF (by omega)) ?_
          rintro lv wl ⟨hlv, hul⟩
          have JL := JF.upd0 hul
          have hcl : Blk wl w.heap.size 23 (cf7 ⟨A, T, N, L, B, P, S⟩) := hc3.upd JL.h.new.up (by simp)
          obtain ⟨la, lc, rfl, -⟩ := hlv.form
          refine loop_rule [2, 3, 7, 10, 12, 16, 22] [23] (fun vs' w' mm => ∃ (i4 : Nat), vs' = [.int .i64 (i4 : Int)] ∧ i4 ≤ wF.length ∧ mm = wF.length - i4 ∧ Upd [] wl w') rfl [.int .i64 0] wF.length rfl ⟨0, rfl, by omega, rfl, .refl _ _⟩ ?_
          rintro _ wm mm ⟨i4, rfl, hi4, rfl, hum⟩
          have hlm := hlv.upd hum (by simp)
          have JM := JL.upd0 hum
          refine len_sl ?_
          refine cd (fun hl4 => ?_) (fun hl4 => ?_)
          · have hl4 : i4 < wF.length := by omega
            obtain ⟨lb, lo, lc2, he, -⟩ := hlv.some_ (by omega)
            cases he
            obtain ⟨z, hzv⟩ : ∃ z, wF.getD i4 0 = z := ⟨_, rfl⟩
            have hzm : z ∈ wF := by rw [← hzv]; simp [List.getD, hl4]
            have hzb := (SF.wt z hzm).1
            refine draw_all (fun w' => Upd [] wm w') (by decide +kernel) (Upd.refl [] wm).drew ?_
            refine q_ix i4 rfl hl4 ?_
            refine q_ld (v := .int .i64 z) (fun w' hw' => by rw [← hzv]; exact int_at (hlm.upd hw' (by simp)) hl4) ?_
            have hgz : (gdL N ns (N.toNat + 1) i).getD z.toNat false = true := by
              rw [gdL_at (by omega), ← hGg z.toNat (by omega), show ((z.toNat : Nat) : Int) = z by omega]
              exact hwG z hzm
            refine q_ix z.toNat (by omega) (by omega) ?_
            refine q_ld (v := .bool true) (fun w' hw' => by
              rw [← hgz]
              have hg8 := (JM.upd0 hw').g.sl
              have hgl8 := gdL_len N ns (N.toNat + 1) i
              have hg9 : Sl w' 4 1 (.slice (some ⟨gq, 0, none⟩) (gdL N ns (N.toNat + 1) i).length (N.toNat + 1)) (gdL N ns (N.toNat + 1) i).length ((gdL N ns (N.toNat + 1) i).map .bool) := by rw [hgl8]; rw [hgl8] at hg8; exact hg8
              exact bool_at hg9 (by rw [hgl8]; omega)) ?_
            intro wn hwn
            refine ar64 (by omega) ?_
            exact round_mk [.int .i64 ((i4 + 1 : Nat) : Int)] (wF.length - (i4 + 1)) rfl rfl ⟨i4 + 1, rfl, by omega, rfl, hum.trans hwn⟩ (by omega)
          obtain rfl : i4 = wF.length := by omega
          refine ar64 (by omega) ?_
          refine loop_rule [2, 3, 7, 10, 12, 22] [24] (fun vs' w' mm => ∃ (i5 : Nat) (y5 : Int), vs' = [.int .i64 y5] ∧ y5 = (se : Int) + i5 + 1 ∧ se + i5 ≤ N.toNat ∧ mm = N.toNat - se - i5 ∧ Upd [] wm w') rfl [.int .i64 (sentP A + 1)] (N.toNat - se) rfl ⟨0, _, rfl, by omega, by omega, rfl, .refl _ _⟩ ?_
          rintro _ wr mm ⟨i5, y5, rfl, hy5, hi5, rfl, hur⟩
          have JQ := JM.upd0 hur
          have hcq : Blk wr w.heap.size 23 (cf7 ⟨A, T, N, L, B, P, S⟩) := hc3.upd JQ.h.new.up (by simp)
          refine fa ?_
          refine ldb hcq (v := .int .i64 N) rfl ?_
          by_cases hl5 : y5 ≤ N
          · refine cY hl5 ?_
            obtain ⟨gp, gvv, hgv, hIsG⟩ := JQ.h.ghost (p := M PP aF kF WF (some (tgF, 0, 0)) tF) rfl
            have htlF := SF.rw_.tl
            have hgz : (gdL N ns (N.toNat + 1) i).getD y5.toNat false = G y5 := by
              rw [gdL_at (by omega), ← hGg y5.toNat (by omega), show ((y5.toNat : Nat) : Int) = y5 by omega]
            have htag : gtag tgF y5 = if G y5 = true then 2 else 0 := by
              unfold gtag
              rw [if_neg (by omega)]
              by_cases hg : G y5 = true
              · rw [if_pos hg]; exact (SF.wt y5 (SF.gd y5 (by omega) (by omega) hg)).2
              · rw [if_neg hg]; exact SF.fr y5 (by omega) (by omega) (fun hm => hg (hwG y5 hm))
            have hbz : ∀ w', Upd [] wr w' → w'.cell? ⟨gq, 0 + y5.toNat * 1, none⟩ = some (.bool (G y5)) := fun w' hw' => by
              rw [← hgz]
              have hg8 := (JQ.upd0 hw').g.sl
              have hgl8 := gdL_len N ns (N.toNat + 1) i
              have hg9 : Sl w' 4 1 (.slice (some ⟨gq, 0, none⟩) (gdL N ns (N.toNat + 1) i).length (N.toNat + 1)) (gdL N ns (N.toNat + 1) i).length ((gdL N ns (N.toNat + 1) i).map .bool) := by rw [hgl8]; rw [hgl8] at hg8; exact hg8
              exact bool_at hg9 (by rw [hgl8]; omega)
            refine draw_all (fun w' => Upd [] wr w') (by decide +kernel) (Upd.refl [] wr).drew ?_
            refine q_cl (ptrV gp) (fun w' hw' => by
              have := ghost_mm (JQ.upd0 hw').h.new.ok
              rw [(JQ.upd0 hw').m, hgv] at this
              exact this.mono fun _ _ ⟨u, he, h1, h2⟩ => ⟨u, he, h1, by rw [h2]; exact hw'⟩) ?_
            have htc : ∀ (x : Int), gtag tgF y5 = x → ∀ w', Upd [] wr w' → Fn Try.prog 17 #[ptrV gp, .int .i64 y5] w' fun r w'' => r = .int .i64 x ∧ Upd [] wr w'' := fun x hx w' hw' => by
              obtain ⟨gp2, gv2, hgv2, hI2⟩ := (JQ.upd0 hw').h.ghost (p := M PP aF kF WF (some (tgF, 0, 0)) tF) rfl
              have e : gp2 = gp := by rw [hgv] at hgv2; simpa [ptrV] using hgv2.symm
              subst e
              have := tag_c hI2 (by omega) y5
              rw [hx] at this
              exact this.mono fun _ _ ⟨u, he, h1, h2⟩ => ⟨u, he, h1, by rw [h2]; exact hw'⟩
            cases hGy : G y5 with
            | true =>
              rw [hGy] at hbz
              rw [hGy, if_pos rfl] at htag
              refine q_cl (.int .i64 2) (fun w' hw' => htc 2 htag w' hw') ?_
              refine q_ix y5.toNat (by omega) (by omega) ?_
              refine q_ld (v := .bool true) (fun w' hw' => hbz w' hw') ?_
              refine rq (.bool false) (fun _ _ => bnq ⟨rfl, rfl⟩) ?_
              intro ws hws
              refine ar64 (by omega) ?_
              exact round_mk [.int .i64 (y5 + 1)] (N.toNat - se - (i5 + 1)) rfl rfl ⟨i5 + 1, y5 + 1, rfl, by omega, by omega, rfl, hur.trans hws⟩ (by omega)
            | false =>
              rw [hGy] at hbz
              rw [hGy, if_neg (by decide)] at htag
              refine q_cl (.int .i64 0) (fun w' hw' => htc 0 htag w' hw') ?_
              refine q_ix y5.toNat (by omega) (by omega) ?_
              refine q_ld (v := .bool false) (fun w' hw' => hbz w' hw') ?_
              refine rq (.bool false) (fun _ _ => bnq ⟨rfl, rfl⟩) ?_
              intro ws hws
              refine ar64 (by omega) ?_
              exact round_mk [.int .i64 (y5 + 1)] (N.toNat - se - (i5 + 1)) rfl rfl ⟨i5 + 1, y5 + 1, rfl, by omega, by omega, rfl, hur.trans hws⟩ (by omega)
          refine cN hl5 ?_
          have JR := JM.upd0 hur
          have hcr' : Blk wr w.heap.size 23 (cf7 ⟨A, T, N, L, B, P, S⟩) := hc3.upd JR.h.new.up (by simp)
          have RF : Rep (M PP aF kF WF (some (tgF, 0, 0)) tF) freeF_ tgF 900000 := SF.rw_.rep Bs ⟨hkF0, by omega⟩ hfF
          obtain ⟨gp, gvv, hgv, hIsG⟩ := JR.h.ghost (p := M PP aF kF WF (some (tgF, 0, 0)) tF) rfl
          have htlF := SF.rw_.tl
          refine draw_mix 19 [(0, true), (1, true), (2, true), (3, true), (4, true), (5, true), (6, true), (7, true), (10, true), (11, true), (12, true), (13, true), (14, true), (15, true), (16, true), (8, false), (9, true), (17, true), (18, true)] (fun w' => Upd [] wr w') (by decide +kernel) (Upd.refl [] wr).drew ?_
          refine t_cl (ptrV gp) (fun w' hw' => by
            have := ghost_mm (JR.upd0 hw').h.new.ok
            rw [(JR.upd0 hw').m, hgv] at this
            exact this) ?_
          refine t_cl (.int .i64 (wF.length : Int)) (fun w' hw' => by
            obtain ⟨gp2, gv2, hgv2, hI2⟩ := (JR.upd0 hw').h.ghost (p := M PP aF kF WF (some (tgF, 0, 0)) tF) rfl
            have e : gp2 = gp := by rw [hgv] at hgv2; simpa [ptrV] using hgv2.symm
            subst e
            have := count_g hI2 (by omega) 2
            rw [SF.mn] at this
            exact this) ?_
          refine q_len ?_
          refine cY rfl ?_
          refine q_fa ?_
          refine q_ld (v := .int .i64 N) (fun w' hw' => (hcr'.upd hw' (by simp)).cell 2) ?_
          refine q_ar64 (by omega) ?_
          refine q_len ?_
          refine q_ar64 (by omega) ?_
          have JRd := JR.upd0 (Upd.refl [] wr).drew
          have hch := JRd.h.chain0 RF
          rw [JRd.m] at hch
          refine cl hch ?_
          rintro cv wz ⟨hcv, huz⟩
          have U : Upd [] wr wz := (Upd.refl [] wr).drew.trans huz
          refine ⟨U, ?_⟩
          obtain ⟨ca, cc, rfl, -⟩ := hcv.form
          refine q_len ?_
          have JZ' := JR.upd0 U
          have hlnF := SF.ln
          refine cY (by omega) ?_
          have hft := JZ'.h.fault0 (p := M PP aF kF WF (some (tgF, 0, 0)) tF) rfl Bs.bad
          rw [JZ'.m] at hft
          refine cl hft ?_
          rintro _ wy ⟨rfl, huy⟩
          refine cl (lives18 _) ?_
          rintro _ wx ⟨rfl, hux⟩
          exact ⟨rfl, ((hU3.trans JZ'.h.new.up).trans huy).trans hux⟩
  · refine cN q1 ?_
    have hlkc : linksP X.abs.c.A X.abs.c.T X.abs.c.L = linksP A T L := by rw [hc]
    have R1 := R.fill (nmL N ns) hvu i (by rw [hlkc]; omega) (by omega)
    have hNn : ((N.toNat : Nat) : Int) = N := by omega
    obtain ⟨se, hsE⟩ : ∃ se : Nat, sentP A = (se : Int) := ⟨(sentP A).toNat, by omega⟩
    rw [hsE] at b3
    have hse2 : (sentP A).toNat = se := by omega
    rw [hse2] at R1
    obtain ⟨t0, ht0, hf0⟩ := H.t0
    obtain ⟨-, hR0, hO0⟩ := hall t0 (List.mem_of_getElem? ht0)
    have hth0 : X.abs.ths[0]? = some (absT t0) := abs_th X ht0
    refine loop_rule [2, 3, 7, 9, 10, 11, 12] [15] (fun vs' w' mm => ∃ (j : Nat) (Z : Mc) (Q : PS), vs' = [.int .i64 ((se : Int) + j)] ∧ se + j ≤ N.toNat ∧ mm = N.toNat - se - j ∧ ScH w3 w' Z Q X.m g6 ⟨A, T, N, L, B, P, S⟩ (.slice (some ⟨gq, 0, none⟩) (N.toNat + 1) (N.toNat + 1)) (gdL N ns (N.toNat + 1) i) ∧
        Rep Q (freeF N.toNat (N.toNat - se - j)) (liveL N.toNat (se + j)) (200 + i + 3 * j) ∧ Q.c = ⟨A, T, N, L, B, P, S⟩ ∧ (∃ t, Q.ths[0]? = some t ∧ t.fs = [] ∧ t.R = [] ∧ t.O = []) ∧ ∀ jj : Nat, jj < all → Q.W.getD (8 + jj) 0 = (fillW X.abs.W (nmL N ns) i).getD (8 + jj) 0) rfl [.int .i64 (sentP A)] (N.toNat - se) rfl
      ⟨0, Y, _, by rw [hsE]; rfl, by omega, rfl, J, R1, hc, ⟨absT t0, hth0, hf0, hR0, hO0⟩, fun _ _ => rfl⟩ ?_
    rintro _ wb mm ⟨j, Z, PP, rfl, hj, rfl, JZ, RZ, hcZ, ⟨tz, htz, hfz, hRz, hOz⟩, hzz⟩
    have hcb : Blk wb w.heap.size 23 (cf7 ⟨A, T, N, L, B, P, S⟩) := hc3.upd JZ.h.new.up (by simp)
    refine fa ?_
    refine ldb hcb (v := .int .i64 N) rfl ?_
    refine cd (fun hlt => ?_) (fun hlt => ?_)
    · obtain ⟨kk, hkk⟩ : ∃ kk, N.toNat - se - j = kk + 1 := ⟨N.toNat - se - j - 1, by omega⟩
      rw [hkk, freeF_s, show ((N.toNat - kk : Nat) : Int) = ((se + j + 1 : Nat) : Int) by omega] at RZ
      obtain ⟨qq, hq1, hq2, hq3, hq4, hq5⟩ := al_gen RZ (by omega) htz hfz (by rw [hOz]; decide) (by rw [hRz]; decide)
      have hal := JZ.h.alone2 (q := qq) (fn := 1) (v := .slice none 0 0) (l := []) (n := 3) (List.getElem?_eq_some_iff.1 htz).1 (by rw [topL_at htz, hfz]; rfl) (by omega) (RdK.nil_ wb .u64) (by decide) hq1
      rw [JZ.m] at hal
      refine cl hal ?_
      rintro _ wc ⟨rfl, Z2, HZ2, hm2, p2⟩
      refine ar64 (by omega) ?_
      refine round_mk [.int .i64 ((se : Int) + ((j + 1 : Nat) : Int))] (N.toNat - se - (j + 1)) rfl (by rw [show (se : Int) + ((j + 1 : Nat) : Int) = (se : Int) + j + 1 by omega]; rfl) ⟨j + 1, Z2, qq, rfl, by omega, rfl, JZ.post HZ2 (hm2.trans JZ.m.symm) p2, ?_, hq3.trans hcZ, ?_, fun jj hjj => by rw [hq5 _ (by omega)]; exact hzz jj hjj⟩ (by omega)
      · have e1 : (((se + j + 1 : Nat) : Int) - 1).toNat = se + j := by omega
        rw [e1, liveL_set] at hq2
        rw [show N.toNat - se - (j + 1) = kk by omega]
        have e2 : (200 : Int) + i + 3 * ((j + 1 : Nat) : Int) = 200 + i + 3 * j + 3 := by omega
        rw [e2]
        exact hq2
      · have hl0 := (List.getElem?_eq_some_iff.1 htz).1
        exact ⟨{ tz with fs := [], r := (((se + j + 1 : Nat) : Int), 0, 0) }, by rw [hq4, List.getElem?_set, if_pos rfl, if_pos hl0], rfl, hRz, hOz⟩
    obtain rfl : j = N.toNat - se := by omega
    rw [show N.toNat - se - (N.toNat - se) = 0 by omega, show se + (N.toNat - se) = N.toNat by omega] at RZ
    have RZ : Rep PP [] (liveL N.toNat N.toNat) (200 + i + 3 * ((N.toNat - se : Nat) : Int)) := RZ
    have Bs : Bse PP := ⟨RZ.ok.up (by omega), ⟨tz, htz⟩, by rw [hcZ]; exact b4.1, RZ.bad⟩
    have hcN : PP.c.N = N := by rw [hcZ]
    have I0 : Rw PP PP.W [] (liveL N.toNat N.toNat) := ⟨RZ.ok.w, rfl, RZ.lk, RZ.nd, RZ.tag, RZ.tl⟩
    have hallc : (all : Int) = PP.c.slots * PP.c.T := by rw [hcZ]; exact hall'.symm
    have hllc : 8 + (all : Int) = linksP PP.c.A PP.c.T PP.c.L := (Bs.all hallc).2.2
    have hall84 : all ≤ 84 := (Bs.all hallc).2.1
    obtain ⟨G, hG⟩ : ∃ G : Int → Bool, G = hasI (slL PP.W all) := ⟨_, rfl⟩
    have hGg : ∀ y : Nat, 1 ≤ y → G (y : Int) = gdB N ns i y := fun y hy => by
      rw [hG]
      exact gd_slots (W := X.abs.W) (by omega) (fun jj hjj => by rw [hW0]; exact haz0 hr jj (by rw [hall']; omega)) hi1 hi2 (by omega) hzz hy
    have S0 : SRt PP PP.W G (se : Int) PP.W [] (liveL N.toNat N.toNat) [] 0 := ⟨I0, List.nodup_nil, fun x hx => (by cases hx), fun x h1 h2 => by
      have := liveL_at N.toNat N.toNat (x - 1).toNat (by omega)
      rw [this, if_pos (by omega)], fun x h1 h2 _ => by omega, fun x h1 h2 _ => by omega, liveL_two _ _, rfl, fun _ _ _ => rfl⟩
    have e0 := M_self htz RZ.gh
    have hk0Z := RZ.ok.k0
    have hk1Z := RZ.ok.k1
    rw [← e0] at JZ
    refine ar64 (by omega) ?_
    refine loop_rule [2, 3, 7, 9, 10, 11, 12] [16, 17] (fun vs' w' mm => ∃ (i3 : Nat) (y : Int) (Z : Mc) (W free tg wait : List Int) (k : Int) (a : Bool) (t : PT) (wv : Value), vs' = [wv, .int .i64 y] ∧ y = (se : Int) + i3 + 1 ∧ se + i3 ≤ N.toNat ∧ mm = N.toNat - se - i3 ∧
        ScH w3 w' Z (M PP a k W (some (tg, 0, 0)) t) X.m g6 ⟨A, T, N, L, B, P, S⟩ (.slice (some ⟨gq, 0, none⟩) (N.toNat + 1) (N.toNat + 1)) (gdL N ns (N.toNat + 1) i) ∧ t.fs = [] ∧ t.R = wait ∧ t.O.length ≤ 200 ∧ SRt PP PP.W G (se : Int) W free tg wait i3 ∧
        FarZ w3 w' Z 3 1 wv wait.length (wait.map (.int .i64)) ∧ 0 ≤ k ∧ k ≤ 1000 + 300 * i3) rfl [.slice none 0 0, .int .i64 (sentP A + 1)] (N.toNat - se) rfl
      ⟨0, sentP A + 1, Z, _, _, _, [], _, _, tz, _, rfl, by omega, by omega, rfl, JZ, hfz, hRz, by rw [hOz]; decide, S0, FarZ.nil_ _ _ _ _ _, hk0Z, by omega⟩ ?_
    clear e0 S0 I0 JZ
    rintro _ wc mm ⟨i3, y, Z3, W3, free3, tg3, wait3, k3, a3, t3, wv3, rfl, hy, hi3, rfl, J3, hf3, hR3, hO3, S3, F3, hk30, hk31⟩
    have hcc : Blk wc w.heap.size 23 (cf7 ⟨A, T, N, L, B, P, S⟩) := hc3.upd J3.h.new.up (by simp)
    have hslW : slL W3 all = slL PP.W all := slL_congr fun jj hjj => S3.hz (8 + jj) (by omega) (by omega)
    have hwl3 : wait3.length ≤ 64 := Nat.le_trans (nodup_le (n := N.toNat) S3.nd (fun x hx => by have := (S3.wt x hx).1; omega)) (by omega)
    refine fa ?_
    refine ldb hcc (v := .int .i64 N) rfl ?_
    refine cd (fun hlt => ?_) (fun hlt => ?_)
    · have hx3 : 1 ≤ y ∧ y ≤ PP.c.N := by omega
      have htx : tg3.getD (y - 1).toNat 0 = 1 := S3.un y (by omega) hx3.2
      have mm3 := mem_mm J3.h.new.ok
      rw [J3.m] at mm3
      refine cl mm3 ?_
      rintro _ wc ⟨rfl, rfl⟩
      refine cl (steps_c J3.h.new.ok.mem) ?_
      rintro _ wc ⟨rfl, rfl⟩
      have hkZ3 : Z3.s.k = k3 := J3.h.k_
      rw [hkZ3]
      refine cv ?_
      refine arU (by omega) ?_
      refine bs #[.int .u64 y] (fun _ => by kernel_rfl) fun wd hbd hud hsd => ?_
      have J4 := J3.upd0 hud
      have F4 := F3.upd0 hud
      have hthl : 0 < (M PP a3 k3 W3 (some (tg3, 0, 0)) t3).ths.length := (List.getElem?_eq_some_iff.1 (M_th (a := a3) (k := k3) (W := W3) (gh := some (tg3, 0, 0)) (t := t3) htz)).1
      have htop : topL (M PP a3 k3 W3 (some (tg3, 0, 0)) t3) 0 = 0 := by rw [topM Bs, hf3]; rfl
      have S5 := S3.retire (by omega) (by omega)
      rw [show (se : Int) + i3 + 1 = y from hy.symm] at S5
      have hwl5 : (wait3 ++ [y]).length ≤ 64 := Nat.le_trans (nodup_le (n := N.toNat) S5.nd (fun x hx => by have := (S5.wt x hx).1; omega)) (by omega)
      have hRl : t3.R.length ≤ 900 := by rw [hR3]; omega
      by_cases hs : (wait3.length : Int) + 1 ≥ S
      · obtain ⟨W6, r6, rw6, hz6'⟩ := scan_run (a := false) (k := k3) (t := { t3 with r := (0, 0, 0), R := t3.R ++ [y] }) Bs S5.rw_ hallc ⟨by omega, by omega⟩ (by show (t3.R ++ [y]).length ≤ 1000; rw [hR3]; omega) (by show t3.O.length ≤ 1000; omega) (fun x hx => by
          have hx : x ∈ wait3 ++ [y] := by rw [← hR3]; exact hx
          obtain ⟨a1, a2⟩ := S5.wt x hx
          exact ⟨by omega, a2⟩) (by show (t3.R ++ [y]).Nodup; rw [hR3]; exact S5.nd)
        have e3R : ({ t3 with r := (0, 0, 0), R := t3.R ++ [y] } : PT).R = wait3 ++ [y] := by rw [← hR3]
        rw [e3R, hslW, ← hG] at r6 rw6
        rw [show 3 * ((wait3 ++ [y]).filter fun y => !G y).length + 1 + all = (3 * ((wait3 ++ [y]).filter fun y => !G y).length + all) + 1 by omega] at r6
        have hrun := ret_scan (a := a3) (k := k3) (t := t3) Bs S3.rw_ ⟨hk30, by omega⟩ hRl (by omega) hx3 htx (by rw [hR3, hcZ]; exact hs) (R' := wait3 ++ [y]) (by rw [hR3]) r6
        have hfl := filter_len G (wait3 ++ [y])
        have hal := J4.h.alone2 (n := 3 * ((wait3 ++ [y]).filter fun y => !G y).length + all + 1) (fn := 5) (l := [y]) hthl htop (by omega) (one_rd hbd) (by simp) (by rw [pushH_M Bs 5 [y] hf3]; exact hrun)
        rw [J4.m] at hal
        refine cl hal ?_
        rintro _ we ⟨rfl, Z6, HZ6, hm6, p6⟩
        have J6 := J4.post HZ6 (hm6.trans J4.m.symm) p6
        have F6 := F4.post p6
        have S6 := S5.scan (by omega) (by omega) rw6 hz6'
        refine bs #[.int .i64 y] (fun _ => by kernel_rfl) fun wf hbf huf hsf => ?_
        refine apg (F6.upd0 huf).sl hbf rfl rfl (by decide) (by simp only [maxLen]; omega) (by omega) fun wv7 wg hs7 hG7 => ?_
        obtain ⟨F7, J7⟩ := (J6.upd0 huf).grow (by decide) (by decide) (F6.upd0 huf) hs7 hG7
        have F7 : FarZ w3 wg Z6 3 1 wv7 (wait3 ++ [y]).length ((wait3 ++ [y]).map (.int .i64)) := by rw [List.length_append, List.map_append]; exact F7
        have hcg : Blk wg w.heap.size 23 (cf7 ⟨A, T, N, L, B, P, S⟩) := hc3.upd J7.h.new.up (by simp)
        generalize hwt : wait3 ++ [y] = wait7 at *
        have hwl7 : wait7.length = wait3.length + 1 := by rw [← hwt, List.length_append]; rfl
        obtain ⟨wa7, wc7, rfl, -⟩ := F7.sl.form
        refine len_sl ?_
        refine fa ?_
        refine ldb hcg (v := .int .i64 S) rfl ?_
        refine cY (by omega) ?_
        refine loop_rule [2, 3, 7, 9, 10, 11, 12, 16, 17, 18] [20, 21] (fun vs' w' mm => ∃ (jj : Nat) (sv : Value), vs' = [sv, .int .i64 (jj : Int)] ∧ jj ≤ wait7.length ∧ mm = wait7.length - jj ∧ Upd [] wg w' ∧ FarZ wg w' Z6 3 1 sv ((wait7.take jj).filter G).length (((wait7.take jj).filter G).map (.int .i64))) rfl [.slice none 0 0, .int .i64 0] wait7.length rfl ⟨0, _, rfl, by omega, rfl, .refl _ _, FarZ.nil_ _ _ _ _ _⟩ ?_
        rintro _ wh mm ⟨jj, sv, rfl, hjj, rfl, huh, Fs⟩
        have J8 := J7.upd0 huh
        have F8 := F7.upd0 huh
        refine len_sl ?_
        refine cd (fun hjl => ?_) (fun hjl => ?_)
        · have hjl : jj < wait7.length := by omega
          obtain ⟨wb8, wo8, wc8, he, -⟩ := F7.sl.some_ (by omega)
          cases he
          obtain ⟨z, hzv⟩ : ∃ z, wait7.getD jj 0 = z := ⟨_, rfl⟩
          have hzm : z ∈ wait7 := by rw [← hzv]; simp [List.getD, hjl]
          have hzb := (S5.wt z hzm).1
          have hgz : (gdL N ns (N.toNat + 1) i).getD z.toNat false = G z := by
            rw [gdL_at (by omega), ← hGg z.toNat (by omega), show ((z.toNat : Nat) : Int) = z by omega]
          refine ix jj rfl hjl ?_
          refine ld (v := .int .i64 z) (by rw [← hzv]; exact int_at F8.sl hjl) ?_
          refine ix z.toNat (by omega) (by omega) ?_
          have hg8 := J8.g.sl
          have hgl8 := gdL_len N ns (N.toNat + 1) i
          have hbz : wh.cell? ⟨gq, 0 + z.toNat * 1, none⟩ = some (.bool (G z)) := by
            rw [← hgz]
            have hg9 : Sl wh 4 1 (.slice (some ⟨gq, 0, none⟩) (gdL N ns (N.toNat + 1) i).length (N.toNat + 1)) (gdL N ns (N.toNat + 1) i).length ((gdL N ns (N.toNat + 1) i).map .bool) := by rw [hgl8]; rw [hgl8] at hg8; exact hg8
            exact bool_at hg9 (by rw [hgl8]; omega)
          have htf := take_filt (G := G) hjl
          rw [hzv] at htf
          have hfl2 : ((wait7.take jj).filter G).length ≤ jj := Nat.le_trans (List.length_filter_le _ _) (by rw [List.length_take]; omega)
          cases hGz : G z with
          | true =>
            rw [hGz] at hbz
            rw [hGz, if_pos rfl] at htf
            refine ld (v := .bool true) hbz ?_
            refine ix jj rfl hjl ?_
            refine ld (v := .int .i64 z) (by rw [← hzv]; exact int_at F8.sl hjl) ?_
            refine bs #[.int .i64 z] (fun _ => by kernel_rfl) fun wi hbi hui hsi => ?_
            refine apg (Fs.upd0 hui).sl hbi rfl rfl (by decide) (by simp only [maxLen]; omega) (by omega) fun sv9 wj hs9 hG9 => ?_
            have hU9 : Upd [] wg wj := (huh.trans hui).step hG9.up (fun q hq => .inr (Fs.fr q (by simpa using hq)))
            refine ar64 (by omega) ?_
            refine round_mk [sv9, .int .i64 ((jj + 1 : Nat) : Int)] (wait7.length - (jj + 1)) rfl rfl ⟨jj + 1, sv9, rfl, by omega, rfl, hU9, ⟨?_, fun q hq => ?_, fun q hq => ?_⟩⟩ (by omega)
            · rw [htf, List.length_append, List.map_append]; exact hs9
            · rcases hG9.own q hq with h1 | h1
              · exact Fs.n q h1
              · intro hm
                have h2 := (J8.upd0 hui).h.new.ok.lt q hm
                omega
            · rcases hG9.own q hq with h1 | h1
              · exact Fs.fr q h1
              · have h2 := (huh.trans hui).size; omega
          | false =>
            rw [hGz] at hbz
            rw [hGz, if_neg (by decide), List.append_nil] at htf
            refine ld (v := .bool false) hbz ?_
            refine ar64 (by omega) ?_
            refine round_mk [sv, .int .i64 ((jj + 1 : Nat) : Int)] (wait7.length - (jj + 1)) rfl rfl ⟨jj + 1, sv, rfl, by omega, rfl, huh, ?_⟩ (by omega)
            rw [htf]; exact Fs
        · obtain rfl : jj = wait7.length := by omega
          rw [List.take_length] at Fs
          obtain ⟨sa, sc, rfl, -⟩ := Fs.sl.form
          have hflen : (wait7.filter G).length ≤ wait7.length := List.length_filter_le _ _
          refine len_sl ?_
          refine len_sl ?_
          refine ar64 (by omega) ?_
          refine ar64 (by omega) ?_
          refine ar64 (by omega) ?_
          have mm8 := mem_mm J8.h.new.ok
          rw [J8.m] at mm8
          refine cl mm8 ?_
          rintro _ wh ⟨rfl, rfl⟩
          refine cl (steps_c J8.h.new.ok.mem) ?_
          rintro _ wh ⟨rfl, rfl⟩
          have hkZ8 : Z6.s.k = k3 + all + 3 * (wait7.filter fun y => !G y).length := J8.h.k_
          rw [hkZ8]
          refine ar64 (by omega) ?_
          refine cN (fun h => h (by omega)) ?_
          obtain ⟨th8, hth8, hat8⟩ := J8.h.th (i := 0) (M_th htz)
          have htm8 := thread_mm (i := 0) J8.h.new.ok hth8 J8.h.tl
          rw [J8.m] at htm8
          refine cl htm8 ?_
          rintro _ wh ⟨rfl, rfl⟩
          obtain ⟨ra8, rc8, hrv8, hrc8⟩ := J8.h.new.ok.rcell hth8
          have hR8 : th8.R = wait7.filter G := (congrArg PT.R hat8)
          rw [hR8] at hrc8
          refine fa ?_
          refine cl (len_p hrc8) ?_
          rintro _ wh ⟨rfl, rfl⟩
          refine len_sl ?_
          refine cN (fun h => h rfl) ?_
          refine ar64 (by omega) ?_
          refine round_mk [.slice sa (wait7.filter G).length sc, .int .i64 (y + 1)] (N.toNat - se - (i3 + 1)) rfl rfl ⟨i3 + 1, y + 1, Z6, W6, _, _, wait7.filter G, _, false, _, _, rfl, by omega, by omega, rfl, J8, rfl, rfl, by show ([] : List Int).length ≤ 200; decide, S6, ⟨Fs.sl, Fs.n, fun q hq => by have := Fs.fr q hq; have := J7.h.new.up.size; omega⟩, by omega, by omega⟩ (by omega)
      · have hrun := ret_run (a := a3) (k := k3) (t := t3) Bs S3.rw_ ⟨hk30, by omega⟩ hRl (by omega) hx3 htx (by rw [hR3, hcZ]; exact hs)
        have hal := J4.h.alone2 (n := 1) (fn := 5) (l := [y]) hthl htop (by omega) (one_rd hbd) (by simp) (by rw [pushH_M Bs 5 [y] hf3]; exact hrun)
        rw [J4.m] at hal
        refine cl hal ?_
        rintro _ we ⟨rfl, Z6, HZ6, hm6, p6⟩
        have J6 := J4.post HZ6 (hm6.trans J4.m.symm) p6
        have F6 := F4.post p6
        refine bs #[.int .i64 y] (fun _ => by kernel_rfl) fun wf hbf huf hsf => ?_
        refine apg (F6.upd0 huf).sl hbf rfl rfl (by decide) (by simp only [maxLen]; omega) (by omega) fun wv7 wg hs7 hG7 => ?_
        obtain ⟨F7, J7⟩ := (J6.upd0 huf).grow (by decide) (by decide) (F6.upd0 huf) hs7 hG7
        have F7 : FarZ w3 wg Z6 3 1 wv7 (wait3 ++ [y]).length ((wait3 ++ [y]).map (.int .i64)) := by rw [List.length_append, List.map_append]; exact F7
        have hcg : Blk wg w.heap.size 23 (cf7 ⟨A, T, N, L, B, P, S⟩) := hc3.upd J7.h.new.up (by simp)
        have hwl7 : (wait3 ++ [y]).length = wait3.length + 1 := by rw [List.length_append]; rfl
        obtain ⟨wa7, wc7, rfl, -⟩ := F7.sl.form
        refine len_sl ?_
        refine fa ?_
        refine ldb hcg (v := .int .i64 S) rfl ?_
        refine cN (by omega) ?_
        have mm8 := mem_mm J7.h.new.ok
        rw [J7.m] at mm8
        refine cl mm8 ?_
        rintro _ wg ⟨rfl, rfl⟩
        refine cl (steps_c J7.h.new.ok.mem) ?_
        rintro _ wg ⟨rfl, rfl⟩
        have hkZ8 : Z6.s.k = k3 := J7.h.k_
        rw [hkZ8]
        refine ar64 (by omega) ?_
        refine cN (fun h => h (by omega)) ?_
        obtain ⟨th8, hth8, hat8⟩ := J7.h.th (i := 0) (M_th htz)
        have htm8 := thread_mm (i := 0) J7.h.new.ok hth8 J7.h.tl
        rw [J7.m] at htm8
        refine cl htm8 ?_
        rintro _ wg ⟨rfl, rfl⟩
        obtain ⟨ra8, rc8, hrv8, hrc8⟩ := J7.h.new.ok.rcell hth8
        have hR8 : th8.R = wait3 ++ [y] := (congrArg PT.R hat8).trans (by show t3.R ++ [y] = _; rw [hR3])
        rw [hR8] at hrc8
        refine fa ?_
        refine cl (len_p hrc8) ?_
        rintro _ wg ⟨rfl, rfl⟩
        refine len_sl ?_
        refine cN (fun h => h rfl) ?_
        refine ar64 (by omega) ?_
        refine round_mk [.slice wa7 (wait3 ++ [y]).length wc7, .int .i64 (y + 1)] (N.toNat - se - (i3 + 1)) rfl rfl ⟨i3 + 1, y + 1, Z6, W3, free3, _, wait3 ++ [y], k3, false, _, _, rfl, by omega, by omega, rfl, J7, rfl, by show t3.R ++ [y] = _; rw [hR3], hO3, S5, F7, hk30, by omega⟩ (by omega)
    · have hi3N : se + i3 = N.toNat := by omega
      cases ask with
      | false =>
        obtain ⟨aF, haF⟩ : ∃ a, a = a3 := ⟨_, rfl⟩
        have JF := J3
        have SF := S3
        have FF := F3
        have hRFt : t3.R = wait3 := hR3
        have hfF := hf3
        have hkF0 := hk30
        have hkF1 := hk31
        generalize wait3 = wF at *
        generalize free3 = freeF_ at *
        generalize tg3 = tgF at *
        generalize W3 = WF at *
        generalize t3 = tF at *
        generalize k3 = kF at *
        subst haF
        obtain ⟨wva, wvc, rfl, -⟩ := FF.sl.form
        obtain ⟨thF, hthF, hatF⟩ := JF.h.th (i := 0) (M_th htz)
        have htmF := thread_mm (i := 0) JF.h.new.ok hthF JF.h.tl
        rw [JF.m] at htmF
        refine cl htmF ?_
        rintro _ wc ⟨rfl, rfl⟩
        obtain ⟨raF, rcF, hrvF, hrcF⟩ := JF.h.new.ok.rcell hthF
        have hslF := JF.h.new.ok.rvs_ hthF
        have hRF : thF.R = wF := (congrArg PT.R hatF).trans hRFt
        rw [hRF] at hrcF hslF hrvF
        rw [hrvF] at hslF
        have hwlF : wF.length ≤ 64 := Nat.le_trans (nodup_le (n := N.toNat) SF.nd (fun x hx => by have := (SF.wt x hx).1; omega)) (by omega)
        refine fa ?_
        refine cl (list_cell hrcF hslF (by omega)) ?_
        rintro lv wl ⟨hlv, hul⟩
        have JL := JF.upd0 hul
        have hcl : Blk wl w.heap.size 23 (cf7 ⟨A, T, N, L, B, P, S⟩) := hc3.upd JL.h.new.up (by simp)
        obtain ⟨la, lc, rfl, -⟩ := hlv.form
        refine loop_rule [2, 3, 7, 10, 12, 16, 22] [23] (fun vs' w' mm => ∃ (i4 : Nat), vs' = [.int .i64 (i4 : Int)] ∧ i4 ≤ wF.length ∧ mm = wF.length - i4 ∧ Upd [] wl w') rfl [.int .i64 0] wF.length rfl ⟨0, rfl, by omega, rfl, .refl _ _⟩ ?_
        rintro _ wm mm ⟨i4, rfl, hi4, rfl, hum⟩
        have hlm := hlv.upd hum (by simp)
        have JM := JL.upd0 hum
        refine len_sl ?_
        refine cd (fun hl4 => ?_) (fun hl4 => ?_)
        · have hl4 : i4 < wF.length := by omega
          obtain ⟨lb, lo, lc2, he, -⟩ := hlv.some_ (by omega)
          cases he
          obtain ⟨z, hzv⟩ : ∃ z, wF.getD i4 0 = z := ⟨_, rfl⟩
          have hzm : z ∈ wF := by rw [← hzv]; simp [List.getD, hl4]
          have hzb := (SF.wt z hzm).1
          refine draw_all (fun w' => Upd [] wm w') (by decide +kernel) (Upd.refl [] wm).drew ?_
          refine q_ix i4 rfl hl4 ?_
          refine q_ld (v := .int .i64 z) (fun w' hw' => by rw [← hzv]; exact int_at (hlm.upd hw' (by simp)) hl4) ?_
          obtain ⟨wfa, wfb, wfc, hef, -⟩ := (FF.sl).some_ (by omega)
          cases hef
          refine q_ix i4 rfl hl4 ?_
          refine q_ld (v := .int .i64 z) (fun w' hw' => by rw [← hzv]; exact int_at (((FF.upd0 hul).upd0 hum).upd0 hw').sl hl4) ?_
          refine cN (fun h => h rfl) ?_
          intro wn hwn
          refine ar64 (by omega) ?_
          exact round_mk [.int .i64 ((i4 + 1 : Nat) : Int)] (wF.length - (i4 + 1)) rfl rfl ⟨i4 + 1, rfl, by omega, rfl, hum.trans hwn⟩ (by omega)
        obtain rfl : i4 = wF.length := by omega
        refine ar64 (by omega) ?_
        refine loop_rule [2, 3, 7, 10, 12, 22] [24] (fun vs' w' mm => ∃ y5 : Int, vs' = [.int .i64 y5] ∧ w' = wm) rfl [.int .i64 (sentP A + 1)] 0 rfl ⟨_, rfl, rfl⟩ ?_
        rintro _ wr mm ⟨y5, rfl, rfl⟩
        have hur : Upd [] wr wr := .refl _ _
        have JR := JM.upd0 hur
        have hcr' : Blk wr w.heap.size 23 (cf7 ⟨A, T, N, L, B, P, S⟩) := hc3.upd JR.h.new.up (by simp)
        have RF : Rep (M PP aF kF WF (some (tgF, 0, 0)) tF) freeF_ tgF 900000 := SF.rw_.rep Bs ⟨hkF0, by omega⟩ hfF
        obtain ⟨gp, gvv, hgv, hIsG⟩ := JR.h.ghost (p := M PP aF kF WF (some (tgF, 0, 0)) tF) rfl
        have htlF := SF.rw_.tl
        refine draw_mix 19 [(0, true), (1, true), (2, true), (3, true), (4, true), (5, true), (6, true), (7, true), (10, true), (11, true), (12, true), (13, true), (14, true), (15, true), (16, true), (8, false), (9, true), (17, true), (18, true)] (fun w' => Upd [] wr w') (by decide +kernel) (Upd.refl [] wr).drew ?_
        refine t_cl (ptrV gp) (fun w' hw' => by
          have := ghost_mm (JR.upd0 hw').h.new.ok
          rw [(JR.upd0 hw').m, hgv] at this
          exact this) ?_
        refine t_cl (.int .i64 (wF.length : Int)) (fun w' hw' => by
          obtain ⟨gp2, gv2, hgv2, hI2⟩ := (JR.upd0 hw').h.ghost (p := M PP aF kF WF (some (tgF, 0, 0)) tF) rfl
          have e : gp2 = gp := by rw [hgv] at hgv2; simpa [ptrV] using hgv2.symm
          subst e
          have := count_g hI2 (by omega) 2
          rw [SF.mn] at this
          exact this) ?_
        refine q_len ?_
        refine cY rfl ?_
        refine q_fa ?_
        refine q_ld (v := .int .i64 N) (fun w' hw' => (hcr'.upd hw' (by simp)).cell 2) ?_
        refine q_ar64 (by omega) ?_
        refine q_len ?_
        refine q_ar64 (by omega) ?_
        have JRd := JR.upd0 (Upd.refl [] wr).drew
        have hch := JRd.h.chain0 RF
        rw [JRd.m] at hch
        refine cl hch ?_
        rintro cv wz ⟨hcv, huz⟩
        have U : Upd [] wr wz := (Upd.refl [] wr).drew.trans huz
        refine ⟨U, ?_⟩
        obtain ⟨ca, cc, rfl, -⟩ := hcv.form
        refine q_len ?_
        have JZ' := JR.upd0 U
        have hlnF := SF.ln
        refine cY (by omega) ?_
        have hft := JZ'.h.fault0 (p := M PP aF kF WF (some (tgF, 0, 0)) tF) rfl Bs.bad
        rw [JZ'.m] at hft
        refine cl hft ?_
        rintro _ wy ⟨rfl, huy⟩
        refine cl (lives18 _) ?_
        rintro _ wx ⟨rfl, hux⟩
        exact ⟨rfl, ((hU3.trans JZ'.h.new.up).trans huy).trans hux⟩
      | true =>
        have hthl : 0 < (M PP a3 k3 W3 (some (tg3, 0, 0)) t3).ths.length := (List.getElem?_eq_some_iff.1 (M_th (a := a3) (k := k3) (W := W3) (gh := some (tg3, 0, 0)) (t := t3) htz)).1
        have htop : topL (M PP a3 k3 W3 (some (tg3, 0, 0)) t3) 0 = 0 := by rw [topM Bs, hf3]; rfl
        obtain ⟨W6, r6, rw6, hz6'⟩ := scan_run (a := a3) (k := k3) (t := t3) Bs S3.rw_ hallc ⟨by omega, by omega⟩ (by rw [hR3]; omega) (by omega) (fun x hx => by
          rw [hR3] at hx
          obtain ⟨a1, a2⟩ := S3.wt x hx
          exact ⟨by omega, a2⟩) (by rw [hR3]; exact S3.nd)
        rw [hR3, hslW, ← hG] at r6 rw6
        have hfl := filter_len G wait3
        have hal := J3.h.alone2 (n := 3 * (wait3.filter fun y => !G y).length + 1 + all) (fn := 6) (v := .slice none 0 0) (l := []) hthl htop (by omega) (RdK.nil_ wc .u64) (by decide) (by rw [pushH_M Bs 6 [] hf3, show ({ t3 with fs := [⟨6, 0, []⟩] } : PT) = { t3 with fs := [⟨6, 0, []⟩], R := wait3 } by rw [← hR3]]; exact r6)
        rw [J3.m] at hal
        refine cl hal ?_
        rintro _ we ⟨rfl, Z6, HZ6, hm6, p6⟩
        have JF := J3.post HZ6 (hm6.trans J3.m.symm) p6
        have SF := S3.scan (by omega) (by omega) rw6 hz6'
        have hwG : ∀ x ∈ wait3.filter G, G x = true := fun x hx => (List.mem_filter.1 hx).2
        have hflen : (wait3.filter G).length ≤ wait3.length := List.length_filter_le _ _
        have hkF0 : 0 ≤ k3 + all + 3 * ((wait3.filter fun y => !G y).length : Int) := by omega
        have hkF1 : k3 + all + 3 * ((wait3.filter fun y => !G y).length : Int) ≤ 100000 := by omega
        obtain ⟨aF, haF⟩ : ∃ a, a = false := ⟨_, rfl⟩
        rw [← haF] at JF
        generalize htF : ({ t3 with fs := [], r := (0, 0, 0), R := wait3.filter G, O := [] } : PT) = tF at *
        have hRFt : tF.R = wait3.filter G := by rw [← htF]
        have hfF : tF.fs = [] := by rw [← htF]
        clear HZ6
        generalize k3 + all + 3 * ((wait3.filter fun y => !G y).length : Int) = kF at *
        generalize (wait3.filter fun y => !G y).reverse ++ free3 = freeF_ at *
        generalize clr tg3 (wait3.filter fun y => !G y) = tgF at *
        generalize wait3.filter G = wF at *
        generalize W6 = WF at *
        obtain ⟨thF, hthF, hatF⟩ := JF.h.th (i := 0) (M_th htz)
        have htmF := thread_mm (i := 0) JF.h.new.ok hthF JF.h.tl
        rw [JF.m] at htmF
        refine cl htmF ?_
        rintro _ we ⟨rfl, rfl⟩
        obtain ⟨raF, rcF, hrvF, hrcF⟩ := JF.h.new.ok.rcell hthF
        have hslF := JF.h.new.ok.rvs_ hthF
        have hRF : thF.R = wF := (congrArg PT.R hatF).trans hRFt
        rw [hRF] at hrcF hslF hrvF
        rw [hrvF] at hslF
        have hwlF : wF.length ≤ 64 := Nat.le_trans (nodup_le (n := N.toNat) SF.nd (fun x hx => by have := (SF.wt x hx).1; omega)) (by omega)
        refine fa ?_
        refine cl (list_cell hrcF hslF (by omega)) ?_
        rintro lv wl ⟨hlv, hul⟩
        have JL := JF.upd0 hul
        have hcl : Blk wl w.heap.size 23 (cf7 ⟨A, T, N, L, B, P, S⟩) := hc3.upd JL.h.new.up (by simp)
        obtain ⟨la, lc, rfl, -⟩ := hlv.form
        refine loop_rule [2, 3, 7, 10, 12, 16, 22] [23] (fun vs' w' mm => ∃ (i4 : Nat), vs' = [.int .i64 (i4 : Int)] ∧ i4 ≤ wF.length ∧ mm = wF.length - i4 ∧ Upd [] wl w') rfl [.int .i64 0] wF.length rfl ⟨0, rfl, by omega, rfl, .refl _ _⟩ ?_
        rintro _ wm mm ⟨i4, rfl, hi4, rfl, hum⟩
        have hlm := hlv.upd hum (by simp)
        have JM := JL.upd0 hum
        refine len_sl ?_
        refine cd (fun hl4 => ?_) (fun hl4 => ?_)
        · have hl4 : i4 < wF.length := by omega
          obtain ⟨lb, lo, lc2, he, -⟩ := hlv.some_ (by omega)
          cases he
          obtain ⟨z, hzv⟩ : ∃ z, wF.getD i4 0 = z := ⟨_, rfl⟩
          have hzm : z ∈ wF := by rw [← hzv]; simp [List.getD, hl4]
          have hzb := (SF.wt z hzm).1
          refine draw_all (fun w' => Upd [] wm w') (by decide +kernel) (Upd.refl [] wm).drew ?_
          refine q_ix i4 rfl hl4 ?_
          refine q_ld (v := .int .i64 z) (fun w' hw' => by rw [← hzv]; exact int_at (hlm.upd hw' (by simp)) hl4) ?_
          have hgz : (gdL N ns (N.toNat + 1) i).getD z.toNat false = true := by
            rw [gdL_at (by omega), ← hGg z.toNat (by omega), show ((z.toNat : Nat) : Int) = z by omega]
            exact hwG z hzm
          refine q_ix z.toNat (by omega) (by omega) ?_
          refine q_ld (v := .bool true) (fun w' hw' => by
            rw [← hgz]
            have hg8 := (JM.upd0 hw').g.sl
            have hgl8 := gdL_len N ns (N.toNat + 1) i
            have hg9 : Sl w' 4 1 (.slice (some ⟨gq, 0, none⟩) (gdL N ns (N.toNat + 1) i).length (N.toNat + 1)) (gdL N ns (N.toNat + 1) i).length ((gdL N ns (N.toNat + 1) i).map .bool) := by rw [hgl8]; rw [hgl8] at hg8; exact hg8
            exact bool_at hg9 (by rw [hgl8]; omega)) ?_
          intro wn hwn
          refine ar64 (by omega) ?_
          exact round_mk [.int .i64 ((i4 + 1 : Nat) : Int)] (wF.length - (i4 + 1)) rfl rfl ⟨i4 + 1, rfl, by omega, rfl, hum.trans hwn⟩ (by omega)
        obtain rfl : i4 = wF.length := by omega
        refine ar64 (by omega) ?_
        refine loop_rule [2, 3, 7, 10, 12, 22] [24] (fun vs' w' mm => ∃ (i5 : Nat) (y5 : Int), vs' = [.int .i64 y5] ∧ y5 = (se : Int) + i5 + 1 ∧ se + i5 ≤ N.toNat ∧ mm = N.toNat - se - i5 ∧ Upd [] wm w') rfl [.int .i64 (sentP A + 1)] (N.toNat - se) rfl ⟨0, _, rfl, by omega, by omega, rfl, .refl _ _⟩ ?_
        rintro _ wr mm ⟨i5, y5, rfl, hy5, hi5, rfl, hur⟩
        have JQ := JM.upd0 hur
        have hcq : Blk wr w.heap.size 23 (cf7 ⟨A, T, N, L, B, P, S⟩) := hc3.upd JQ.h.new.up (by simp)
        refine fa ?_
        refine ldb hcq (v := .int .i64 N) rfl ?_
        by_cases hl5 : y5 ≤ N
        · refine cY hl5 ?_
          obtain ⟨gp, gvv, hgv, hIsG⟩ := JQ.h.ghost (p := M PP aF kF WF (some (tgF, 0, 0)) tF) rfl
          have htlF := SF.rw_.tl
          have hgz : (gdL N ns (N.toNat + 1) i).getD y5.toNat false = G y5 := by
            rw [gdL_at (by omega), ← hGg y5.toNat (by omega), show ((y5.toNat : Nat) : Int) = y5 by omega]
          have htag : gtag tgF y5 = if G y5 = true then 2 else 0 := by
            unfold gtag
            rw [if_neg (by omega)]
            by_cases hg : G y5 = true
            · rw [if_pos hg]; exact (SF.wt y5 (SF.gd y5 (by omega) (by omega) hg)).2
            · rw [if_neg hg]; exact SF.fr y5 (by omega) (by omega) (fun hm => hg (hwG y5 hm))
          have hbz : ∀ w', Upd [] wr w' → w'.cell? ⟨gq, 0 + y5.toNat * 1, none⟩ = some (.bool (G y5)) := fun w' hw' => by
            rw [← hgz]
            have hg8 := (JQ.upd0 hw').g.sl
            have hgl8 := gdL_len N ns (N.toNat + 1) i
            have hg9 : Sl w' 4 1 (.slice (some ⟨gq, 0, none⟩) (gdL N ns (N.toNat + 1) i).length (N.toNat + 1)) (gdL N ns (N.toNat + 1) i).length ((gdL N ns (N.toNat + 1) i).map .bool) := by rw [hgl8]; rw [hgl8] at hg8; exact hg8
            exact bool_at hg9 (by rw [hgl8]; omega)
          refine draw_all (fun w' => Upd [] wr w') (by decide +kernel) (Upd.refl [] wr).drew ?_
          refine q_cl (ptrV gp) (fun w' hw' => by
            have := ghost_mm (JQ.upd0 hw').h.new.ok
            rw [(JQ.upd0 hw').m, hgv] at this
            exact this.mono fun _ _ ⟨u, he, h1, h2⟩ => ⟨u, he, h1, by rw [h2]; exact hw'⟩) ?_
          have htc : ∀ (x : Int), gtag tgF y5 = x → ∀ w', Upd [] wr w' → Fn Try.prog 17 #[ptrV gp, .int .i64 y5] w' fun r w'' => r = .int .i64 x ∧ Upd [] wr w'' := fun x hx w' hw' => by
            obtain ⟨gp2, gv2, hgv2, hI2⟩ := (JQ.upd0 hw').h.ghost (p := M PP aF kF WF (some (tgF, 0, 0)) tF) rfl
            have e : gp2 = gp := by rw [hgv] at hgv2; simpa [ptrV] using hgv2.symm
            subst e
            have := tag_c hI2 (by omega) y5
            rw [hx] at this
            exact this.mono fun _ _ ⟨u, he, h1, h2⟩ => ⟨u, he, h1, by rw [h2]; exact hw'⟩
          cases hGy : G y5 with
          | true =>
            rw [hGy] at hbz
            rw [hGy, if_pos rfl] at htag
            refine q_cl (.int .i64 2) (fun w' hw' => htc 2 htag w' hw') ?_
            refine q_ix y5.toNat (by omega) (by omega) ?_
            refine q_ld (v := .bool true) (fun w' hw' => hbz w' hw') ?_
            refine rq (.bool false) (fun _ _ => bnq ⟨rfl, rfl⟩) ?_
            intro ws hws
            refine ar64 (by omega) ?_
            exact round_mk [.int .i64 (y5 + 1)] (N.toNat - se - (i5 + 1)) rfl rfl ⟨i5 + 1, y5 + 1, rfl, by omega, by omega, rfl, hur.trans hws⟩ (by omega)
          | false =>
            rw [hGy] at hbz
            rw [hGy, if_neg (by decide)] at htag
            refine q_cl (.int .i64 0) (fun w' hw' => htc 0 htag w' hw') ?_
            refine q_ix y5.toNat (by omega) (by omega) ?_
            refine q_ld (v := .bool false) (fun w' hw' => hbz w' hw') ?_
            refine rq (.bool false) (fun _ _ => bnq ⟨rfl, rfl⟩) ?_
            intro ws hws
            refine ar64 (by omega) ?_
            exact round_mk [.int .i64 (y5 + 1)] (N.toNat - se - (i5 + 1)) rfl rfl ⟨i5 + 1, y5 + 1, rfl, by omega, by omega, rfl, hur.trans hws⟩ (by omega)
        refine cN hl5 ?_
        have JR := JM.upd0 hur
        have hcr' : Blk wr w.heap.size 23 (cf7 ⟨A, T, N, L, B, P, S⟩) := hc3.upd JR.h.new.up (by simp)
        have RF : Rep (M PP aF kF WF (some (tgF, 0, 0)) tF) freeF_ tgF 900000 := SF.rw_.rep Bs ⟨hkF0, by omega⟩ hfF
        obtain ⟨gp, gvv, hgv, hIsG⟩ := JR.h.ghost (p := M PP aF kF WF (some (tgF, 0, 0)) tF) rfl
        have htlF := SF.rw_.tl
        refine draw_mix 19 [(0, true), (1, true), (2, true), (3, true), (4, true), (5, true), (6, true), (7, true), (10, true), (11, true), (12, true), (13, true), (14, true), (15, true), (16, true), (8, false), (9, true), (17, true), (18, true)] (fun w' => Upd [] wr w') (by decide +kernel) (Upd.refl [] wr).drew ?_
        refine t_cl (ptrV gp) (fun w' hw' => by
          have := ghost_mm (JR.upd0 hw').h.new.ok
          rw [(JR.upd0 hw').m, hgv] at this
          exact this) ?_
        refine t_cl (.int .i64 (wF.length : Int)) (fun w' hw' => by
          obtain ⟨gp2, gv2, hgv2, hI2⟩ := (JR.upd0 hw').h.ghost (p := M PP aF kF WF (some (tgF, 0, 0)) tF) rfl
          have e : gp2 = gp := by rw [hgv] at hgv2; simpa [ptrV] using hgv2.symm
          subst e
          have := count_g hI2 (by omega) 2
          rw [SF.mn] at this
          exact this) ?_
        refine q_len ?_
        refine cY rfl ?_
        refine q_fa ?_
        refine q_ld (v := .int .i64 N) (fun w' hw' => (hcr'.upd hw' (by simp)).cell 2) ?_
        refine q_ar64 (by omega) ?_
        refine q_len ?_
        refine q_ar64 (by omega) ?_
        have JRd := JR.upd0 (Upd.refl [] wr).drew
        have hch := JRd.h.chain0 RF
        rw [JRd.m] at hch
        refine cl hch ?_
        rintro cv wz ⟨hcv, huz⟩
        have U : Upd [] wr wz := (Upd.refl [] wr).drew.trans huz
        refine ⟨U, ?_⟩
        obtain ⟨ca, cc, rfl, -⟩ := hcv.form
        refine q_len ?_
        have JZ' := JR.upd0 U
        have hlnF := SF.ln
        refine cY (by omega) ?_
        have hft := JZ'.h.fault0 (p := M PP aF kF WF (some (tgF, 0, 0)) tF) rfl Bs.bad
        rw [JZ'.m] at hft
        refine cl hft ?_
        rintro _ wy ⟨rfl, huy⟩
        refine cl (lives18 _) ?_
        rintro _ wx ⟨rfl, hux⟩
        exact ⟨rfl, ((hU3.trans JZ'.h.new.up).trans huy).trans hux⟩
end
theorem HazardScans_walk (w : World) (l : List Int) (wl : Fits [.i64, .i64, .i64, .i64, .i64, .i64, .i64] l) (v1 : Value) (l1 : List (List Int)) (h1 : SlRows w w.heap.size [.i64] v1 l1) (b : Bool) :
    Calls Try.prog 4 #[.agg (mkInts [.i64, .i64, .i64, .i64, .i64, .i64, .i64] l).toArray, v1, .bool b] w fun e w' => e = .returned (.bool true) ∧ Below w.heap.size w w' := by
  obtain ⟨⟨A, T, N, L, B, P, S⟩, rfl⟩ := cf_of wl
  exact (scans_law (c := ⟨A, T, N, L, B, P, S⟩) (RdK.of_ints h1.ints (Nat.le_refl _))).mono fun _ _ ⟨_, he, hr, hu⟩ => ⟨by rw [he, hr], hu.below⟩
end Go.Proofs.Ytklbeipdigancaa

