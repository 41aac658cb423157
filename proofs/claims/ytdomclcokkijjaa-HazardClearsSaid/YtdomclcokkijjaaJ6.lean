/- Joined: Ik Il Im. -/
import Derived.Test.YtdomclcokkijjaaJ5
/- HazardClears: what Clear does alone. -/
namespace Go.Proofs.Ytdomclcokkijjaa
open Go.RowKit
attribute [local irreducible] Instr.loadAt Instr.storeAt Instr.fieldAt Instr.indexAt Instr.sliceAt Instr.buildSlice Instr.box Instr.alloc Builtin.append_ Builtin.len_ Builtin.min_ Builtin.max_ Calls Instr.build Instr.makeSlice binSem convert Instr.index Instr.range Instr.next
def wW (c : Cf) (W : List Int) : Nat → List Int
  | 0 => W
  | j + 1 => (wW c W j).set (c.haz 0 (j : Int)).toNat 0
theorem wW_len (c : Cf) (W : List Int) : ∀ j, (wW c W j).length = W.length
  | 0 => rfl
  | j + 1 => by show ((wW c W j).set _ _).length = _; rw [List.length_set, wW_len c W j]
theorem wW_u (c : Cf) (W : List Int) (h : ∀ x ∈ W, u64R x) : ∀ j, ∀ x ∈ wW c W j, u64R x
  | 0 => h
  | j + 1 => mem_set_ (wW_u c W h j) (by decide)
structure WpIn (p : PS) (t : PT) : Prop where
  ok : p.Ok 800000
  th : p.ths[0]? = some t
  fs : t.fs = []
  R : t.R = []
  O : t.O = []
  g : ∃ tg, p.gh = some (tg, 0, 0) ∧ tg.length ≤ 64
  T : 1 ≤ p.c.T
theorem wipe_run {p : PS} {t : PT} (I : WpIn p t) (s : Nat) (hs : (s : Int) = p.c.slots) : ∀ (d j : Nat) (a : Bool), j + d = s →
    RunH 0 (d + 1) (M p a (p.k + j) (wW p.c p.W j) p.gh { t with fs := [⟨4, (j : Int), []⟩] }) (M p false (p.k + s) (wW p.c p.W s) p.gh { t with fs := [], r := (0, 0, 0) })
  | 0, j, a, hj => by
    obtain rfl : j = s := by omega
    have hsl : p.c.slots ≤ 14 := by
      have hr := I.ok.r
      generalize p.c = c at *
      obtain ⟨A, T, N, L, B, P, S⟩ := c
      exact (plan_bd hr).1.2
    have hk0 := I.ok.k0
    have hk1 := I.ok.k1
    refine ⟨1, _, ⟨rfl, _, [], _, M_th I.th, rfl, by decide, (fun j => (⟨by decide, by decide⟩ : u64R 0)), (show (0 : Int) ≤ (j : Int) ∧ (j : Int) ≤ 100000 by omega), by rw [show ({ t with fs := [⟨4, (j : Int), []⟩] } : PT).R = [] from I.R]; decide, by rw [show ({ t with fs := [⟨4, (j : Int), []⟩] } : PT).O = [] from I.O]; decide, (show PS.Ok (M p false (p.k + j) (wW p.c p.W j) p.gh _) 900000 from M_ok' I.ok ⟨by omega, by omega⟩ (wW_u _ _ I.ok.w j) (wW_len _ _ j) I.g), ?_⟩, .inl ⟨?_, rfl⟩⟩
    · have e : hzDo (M p false (p.k + j) (wW p.c p.W j) p.gh { t with fs := [⟨4, (j : Int), []⟩] }) 0 { t with fs := [⟨4, (j : Int), []⟩] } [] ⟨4, (j : Int), []⟩ = M p false (p.k + j) (wW p.c p.W j) p.gh { t with fs := [], r := (0, 0, 0) } := by
        unfold hzDo hzWipe
        rw [if_neg (by show ¬ (4 : Int) = 3; decide), if_pos rfl]
        refine (if_pos (show (j : Int) ≥ p.c.slots by omega)).trans ?_
        rw [M_put]
      rw [M_calm, e]
      refine ⟨rfl, .inr ?_, ?_⟩
      · rw [topL_at (M_th I.th)]; rfl
      · rw [topL_at (M_th I.th)]; simp
    · rw [topL_at (M_th I.th)]; rfl
  | d + 1, j, a, hj => by
    have hr := I.ok.r
    have hsl : p.c.slots ≤ 14 := by
      generalize p.c = c at *
      obtain ⟨A, T, N, L, B, P, S⟩ := c
      exact (plan_bd hr).1.2
    have hk0 := I.ok.k0
    have hk1 := I.ok.k1
    have hT := I.T
    obtain ⟨h1, h2, h3, h4⟩ := haz_at hr (i := 0) (k := (j : Int)) ⟨by omega, by omega⟩ ⟨by omega, by omega⟩
    have hWl := I.ok.l
    have hhz : 0 ≤ p.c.haz 0 (j : Int) ∧ p.c.haz 0 (j : Int) < (wW p.c p.W j).length := by rw [wW_len]; omega
    refine ⟨1, M p true (p.k + (j + 1 : Nat)) (wW p.c p.W (j + 1)) p.gh { t with fs := [⟨4, ((j + 1 : Nat) : Int), []⟩] }, ⟨rfl, _, [], _, M_th I.th, rfl, by decide, (fun j => (⟨by decide, by decide⟩ : u64R 0)), (show (0 : Int) ≤ (j : Int) ∧ (j : Int) ≤ 100000 by omega), by rw [show ({ t with fs := [⟨4, (j : Int), []⟩] } : PT).R = [] from I.R]; decide, by rw [show ({ t with fs := [⟨4, (j : Int), []⟩] } : PT).O = [] from I.O]; decide, (show PS.Ok (M p false (p.k + j) (wW p.c p.W j) p.gh _) 900000 from M_ok' I.ok ⟨by omega, by omega⟩ (wW_u _ _ I.ok.w j) (wW_len _ _ j) I.g), ?_⟩, .inr ⟨?_, wipe_run I s hs d (j + 1) true (by omega)⟩⟩
    · have e : hzDo (M p false (p.k + j) (wW p.c p.W j) p.gh { t with fs := [⟨4, (j : Int), []⟩] }) 0 { t with fs := [⟨4, (j : Int), []⟩] } [] ⟨4, (j : Int), []⟩ = M p true (p.k + (j + 1 : Nat)) (wW p.c p.W (j + 1)) p.gh { t with fs := [⟨4, ((j + 1 : Nat) : Int), []⟩] } := by
        unfold hzDo hzWipe
        rw [if_neg (by show ¬ (4 : Int) = 3; decide), if_pos rfl]
        refine (if_neg (show ¬ (j : Int) ≥ p.c.slots by omega)).trans ?_
        show ((M p false (p.k + j) (wW p.c p.W j) p.gh _).store (p.c.haz 0 (j : Int)) 0).put 0 (topped _ [] ⟨4, (j : Int) + 1, []⟩) = _
        rw [M_store hhz h1, M_put, show p.k + ((j + 1 : Nat) : Int) = p.k + j + 1 by omega]; rfl
      rw [M_calm, e]
      refine ⟨rfl, .inl rfl, ?_⟩
      rw [topL_at (M_th I.th)]; simp
    · rw [topL_at (M_th I.th)]; simp
theorem wipe_spec {p : PS} {t : PT} (I : WpIn p t) : RunH 0 (p.c.slots.toNat + 1) (pushH p 0 4 []) (M p false (p.k + p.c.slots) (wW p.c p.W p.c.slots.toNat) p.gh { t with fs := [], r := (0, 0, 0) }) := by
  have hsl : 2 ≤ p.c.slots := by
    have hr := I.ok.r
    generalize p.c = c at *
    obtain ⟨A, T, N, L, B, P, S⟩ := c
    exact (plan_bd hr).1.1
  have e0 : pushH p 0 4 [] = M p p.acted (p.k + (0 : Nat)) (wW p.c p.W 0) p.gh { t with fs := [⟨4, ((0 : Nat) : Int), []⟩] } := by
    unfold pushH
    rw [I.th]
    show p.put 0 { t with fs := t.fs ++ [⟨4, 0, []⟩] } = _
    rw [I.fs]
    show _ = M p p.acted (p.k + 0) p.W p.gh _
    rw [Int.add_zero]; rfl
  rw [e0]
  have := wipe_run I p.c.slots.toNat (by omega) p.c.slots.toNat 0 p.acted (by omega)
  rw [show (p.c.slots.toNat : Int) = p.c.slots by omega] at this
  exact this
end Go.Proofs.Ytdomclcokkijjaa

/- The law HazardClears: its walk. -/
namespace Go.Proofs.Ytdomclcokkijjaa
open Go.RowKit
attribute [local irreducible] Instr.loadAt Instr.storeAt Instr.fieldAt Instr.indexAt Instr.sliceAt Instr.buildSlice Instr.box Instr.alloc Builtin.append_ Builtin.len_ Builtin.min_ Builtin.max_ Calls Instr.build Instr.makeSlice binSem convert Instr.index Instr.range Instr.next
def fillW (W vs : List Int) : Nat → List Int
  | 0 => W
  | i + 1 => (fillW W vs i).set (8 + i) (vs.getD i 0)
theorem fillW_len (W vs : List Int) : ∀ i, (fillW W vs i).length = W.length
  | 0 => rfl
  | i + 1 => by show ((fillW W vs i).set _ _).length = _; rw [List.length_set, fillW_len W vs i]
theorem fillW_u (W vs : List Int) (h : ∀ x ∈ W, u64R x) (hv : ∀ i, u64R (vs.getD i 0)) : ∀ i, ∀ x ∈ fillW W vs i, u64R x
  | 0 => h
  | i + 1 => mem_set_ (fillW_u W vs h hv i) (hv i)
theorem fillW_at (W vs : List Int) (j : Nat) : ∀ i, 8 + i ≤ W.length → (fillW W vs i).getD (8 + j) 0 = if j < i then vs.getD j 0 else W.getD (8 + j) 0
  | 0, _ => by rw [if_neg (by omega)]; rfl
  | i + 1, h => by
    show ((fillW W vs i).set (8 + i) (vs.getD i 0)).getD (8 + j) 0 = _
    by_cases hj : i = j
    · subst hj
      rw [setD_self (by rw [fillW_len]; omega), if_pos (by omega)]
    · rw [getD_set (by omega), fillW_at W vs j i (by omega)]
      by_cases h1 : j < i
      · rw [if_pos h1, if_pos (by omega)]
      · rw [if_neg h1, if_neg (by omega)]
theorem wW_at {c : Cf} (hr : rightC c) (hT : 1 ≤ c.T) (W : List Int) (hW : W.length = (sizeP c.A c.T c.N c.L).toNat) (j : Nat) : ∀ s : Nat, (s : Int) ≤ c.slots → (wW c W s).getD (8 + j) 0 = if j < s then 0 else W.getD (8 + j) 0
  | 0, _ => by rw [if_neg (by omega)]; rfl
  | s + 1, h => by
    obtain ⟨h1, h2, h3, h4⟩ := haz_at hr (i := 0) (k := (s : Int)) ⟨by omega, by omega⟩ ⟨by omega, by omega⟩
    rw [Int.zero_mul] at h4
    have e : (c.haz 0 (s : Int)).toNat = 8 + s := by omega
    show ((wW c W s).set (c.haz 0 (s : Int)).toNat 0).getD (8 + j) 0 = _
    rw [e]
    by_cases hj : s = j
    · subst hj
      rw [setD_self (by rw [wW_len]; omega), if_pos (by omega)]
    · rw [getD_set (by omega), wW_at hr hT W hW j s (by omega)]
      by_cases h1 : j < s
      · rw [if_pos h1, if_pos (by omega)]
      · rw [if_neg h1, if_neg (by omega)]
theorem haz_lin {c : Cf} (hr : rightC c) {i : Int} (hi : 0 ≤ i ∧ i < c.slots * c.T) : c.haz (i.tdiv c.slots) (i.tmod c.slots) = 8 + i := by
  have hs : 2 ≤ c.slots := by
    generalize c = d at *
    obtain ⟨A, T, N, L, B, P, S⟩ := d
    exact (plan_bd hr).1.1
  have h1 : i.tdiv c.slots = i / c.slots := Int.tdiv_eq_ediv_of_nonneg hi.1
  have h2 : i.tmod c.slots = i % c.slots := Int.tmod_eq_emod_of_nonneg hi.1
  have h3 : 0 ≤ i / c.slots := Int.ediv_nonneg hi.1 (by omega)
  have h4 : i / c.slots < c.T := Int.ediv_lt_of_lt_mul (by omega) (by rw [Int.mul_comm]; exact hi.2)
  have h5 : 0 ≤ i % c.slots := Int.emod_nonneg _ (by omega)
  have h6 : i % c.slots < c.slots := Int.emod_lt_of_pos _ (by omega)
  obtain ⟨-, -, -, h7⟩ := haz_at hr (i := i / c.slots) (k := i % c.slots) ⟨h3, h4⟩ ⟨h5, h6⟩
  rw [h1, h2, h7]
  have := Int.emod_add_mul_ediv i c.slots
  rw [Int.mul_comm] at this
  omega
end Go.Proofs.Ytdomclcokkijjaa

/- The law HazardClears: its walk. -/
namespace Go.Proofs.Ytdomclcokkijjaa
open Go.RowKit
attribute [local irreducible] Instr.loadAt Instr.storeAt Instr.fieldAt Instr.indexAt Instr.sliceAt Instr.buildSlice Instr.box Instr.alloc Builtin.append_ Builtin.len_ Builtin.min_ Builtin.max_ Calls Instr.build Instr.makeSlice binSem convert Instr.index Instr.range Instr.next
structure Cl (w0 w : World) (X0 X : Mc) (W : List Int) (k : Int) (g6 : Nat) (c : Cf) : Prop where
  h : Hz w0 w X { X0.abs with W := W, k := k }
  a : Aside w X g6 TPn (planC c)
  m : X.m = X0.m
theorem Cl.upd0 {w0 w w' : World} {X0 X : Mc} {W : List Int} {k : Int} {g6 : Nat} {c : Cf} (h : Cl w0 w X0 X W k g6 c) (hu : Upd [] w w') : Cl w0 w' X0 X W k g6 c := ⟨h.h.upd0 hu, h.a.upd0 hu, h.m⟩
theorem ar_new3 {A T N L B P S : Int} (hr : rightC ⟨A, T, N, L, B, P, S⟩) (w : World) : Fn Try.prog 20 #[.agg (cf7 ⟨A, T, N, L, B, P, S⟩), .slice none 0 0, .bool true] w fun r w' =>
    ∃ X, r = .tuple #[ptrV X.m, .int .i64 0] ∧ Ar w w' X (freeF N.toNat (N.toNat - (sentP A).toNat)) (liveL N.toNat (sentP A).toNat) 200 ∧ X.abs.c = ⟨A, T, N, L, B, P, S⟩ ∧ (X.ths.length : Int) = T ∧ (∀ t ∈ X.ths, t.fs = [] ∧ t.R = [] ∧ t.O = []) ∧ X.abs.W = (layS A T N L (newMS (sizeP A T N L).toNat)).W := by
  refine (core_new2 (draws := []) true (RdK.nil_ w .u8) (by decide)).mono ?_
  rintro e w1 ⟨r, he, -, hy⟩
  obtain ⟨m, mp, mv, lv, fp, fv, gs, tv, ths, hrt, I, hT, hths, -, hgs⟩ := hy hr
  obtain ⟨gp, gv, rfl⟩ := hgs rfl
  obtain ⟨b1, b2, b3, b4, b5, b6, -⟩ := plan_bd hr
  have hall : ∀ t ∈ ths, t.fs = [] ∧ t.R = [] ∧ t.O = [] := fun t ht => by
    obtain ⟨g, pv, sv, wv, rfl⟩ := hths t ht
    exact ⟨rfl, rfl, rfl⟩
  have h0 : ths[0]? = some (ths[0]'(by omega)) := List.getElem?_eq_getElem _
  have hq := layS_q hr
  refine ⟨r, he, _, hrt, ⟨I, rep0 hr h0 (hall _ (List.getElem_mem _)).1, ⟨hq.on, hq.L⟩, ?_⟩, rfl, hT, hall, rfl⟩
  show ths.length ≤ 100
  omega
theorem haz0 {A T N L B P S : Int} (hr : rightC ⟨A, T, N, L, B, P, S⟩) (j : Nat) (hj : (j : Int) < slotsP A L * T) : (layS A T N L (newMS (sizeP A T N L).toNat)).W.getD (8 + j) 0 = 0 := by
  obtain ⟨t, n, l, sl, wd, nt, se, U⟩ := nums hr
  have h1 := U.sl_; have h2 := U.eT
  have h3 : j < t * sl := by
    rw [h1, h2] at hj
    have : (j : Int) < ((t * sl : Nat) : Int) := by rw [Int.natCast_mul, Int.mul_comm]; exact hj
    omega
  rw [W_at hr U (8 + j) (by omega)]
  unfold spAt
  rw [if_neg (by omega), if_pos (by omega), fw1]
set_option maxRecDepth 10000 in
set_option maxHeartbeats 2000000 in
theorem clears_law {w : World} {c : Cf} {vv : Value} {vs : List Int} (hvv : RdK w .u64 vv vs) (hvu : ∀ i, u64R (vs.getD i 0)) : Fn Try.prog 12 #[.agg (cf7 c), vv] w fun r w' => r = .bool true ∧ Upd [] w w' := by
  obtain ⟨va, vc, rfl, -⟩ := hvv.form
  obtain ⟨A, T, N, L, B, P, S⟩ := c
  refine fn_enter Try.func12 rfl rfl ?_
  refine bx fun w1 hb1 hu1 hs1 => ?_
  have hc2 : Blk w1 w.heap.size 42 (cf7 ⟨A, T, N, L, B, P, S⟩) := hb1
  refine ldw hc2 rfl ?_
  refine cl (rright_c ⟨A, T, N, L, B, P, S⟩ w1) ?_
  rintro _ w3 ⟨rfl, hu3⟩
  have hU3 := hu1.trans hu3
  by_cases hr : rightC ⟨A, T, N, L, B, P, S⟩
  rotate_left
  · refine cY hr ?_
    refine cl (lives18 _) ?_
    rintro _ wx ⟨rfl, hux⟩
    exact ⟨rfl, hU3.trans hux⟩
  refine cN (fun h => h hr) ?_
  have hc3 := hc2.upd hu3 (by simp)
  refine ldw hc3 rfl ?_
  refine cl (ar_new3 hr w3) ?_
  rintro _ w4 ⟨X, rfl, H, hc, hT, hall, hW0⟩
  refine ptr_eq ?_
  refine cl (plan_mm H.new.ok) ?_
  rintro _ w5 ⟨rfl, hu5⟩
  refine al z15 (fun _ => by kernel_rfl) fun w6 hb6 hu6 hs6 => ?_
  refine stw hb6 rfl (planC_len X.c) (planC_one X.c) fun w7 hb7 hu7 hs7 => ?_
  have hcX : X.c = ⟨A, T, N, L, B, P, S⟩ := hc
  rw [hcX] at hb7
  have hu7' : Upd [] w5 w7 := hu6.step hu7 (by simp)
  have H7 := (H.hz.upd0 hu5).upd0 hu7'
  have hU7 : Upd [] w3 w7 := (H.new.up.trans hu5).trans hu7'
  have hc7 := hc3.upd hU7 (by simp)
  have hn6 : w5.heap.size ∉ X.feet := fun hm => by
    have h1 := Sep.lt H.new.ok _ hm
    have h2 := hu5.size
    omega
  generalize w5.heap.size = g6 at *
  obtain ⟨b1, b2, b3, b4, b5, b6', b7, b8, b9, b10, b11, b12⟩ := plan_bd hr
  have hs0 : (Cf.slots ⟨A, T, N, L, B, P, S⟩) = slotsP A L := rfl
  have hml := mul_bd (a := slotsP A L) (b := T) (x := 14) (y := 6) (by omega) (by omega)
  refine draw_all (fun w' => Upd [] w7 w') (by decide +kernel) (Upd.refl [] w7).drew ?_
  refine rq (.agg (planC ⟨A, T, N, L, B, P, S⟩)) (fun w' hw' => ldw (hb7.upd hw' (by simp)) rfl ⟨rfl, rfl⟩) ?_
  refine q_cl (.int .i64 (slotsP A L)) (fun w' hw' => (pslots_c ⟨A, T, N, L, B, P, S⟩ w').mono fun _ _ ⟨u, he, h1, h2⟩ => ⟨u, he, h1, hw'.trans h2⟩) ?_
  refine q_fa ?_
  refine q_ld (v := .int .i64 T) (fun w' hw' => (hc7.upd hw' (by simp)).cell 1) ?_
  refine q_ar64 (by omega) ?_
  intro w8 hu8
  have R := H.rep
  have J8 : Cl w3 w8 X X X.abs.W X.abs.k g6 ⟨A, T, N, L, B, P, S⟩ := ⟨H7.upd0 hu8, ⟨hb7.upd hu8 (by simp), hn6⟩, rfl⟩
  have hsz := size_bd hr
  have hsz' : 10 ≤ sizeP A T N L ∧ sizeP A T N L ≤ 924 := hsz
  have hWl : X.abs.W.length = (sizeP A T N L).toNat := by have := R.ok.l; rw [hc] at this; exact this
  have hlk : linksP A T L = 8 + T * slotsP A L := rfl
  have hcm : T * slotsP A L = slotsP A L * T := Int.mul_comm _ _
  have hal8 : 8 + slotsP A L * T ≤ sizeP A T N L := by omega
  have hk0 := R.ok.k0
  have hk1 := R.ok.k1
  generalize hall' : slotsP A L * T = all at *
  refine loop_rule [0, 1, 5, 7, 8] [9] (fun vs' w' mm => ∃ (i : Nat) (Y : Mc), vs' = [.int .i64 (i : Int)] ∧ (i : Int) ≤ all ∧ i ≤ vs.length ∧ mm = vs.length - i ∧ Cl w3 w' X Y (fillW X.abs.W vs i) (X.abs.k + i) g6 ⟨A, T, N, L, B, P, S⟩) rfl [.int .i64 0] vs.length rfl ⟨0, X, rfl, by omega, by omega, rfl, by
    have : X.abs.k + ((0 : Nat) : Int) = X.abs.k := by omega
    rw [this]; exact J8⟩ ?_
  rintro _ w9 mm ⟨i, Y, rfl, hi1, hi2, rfl, J⟩
  refine len_sl ?_
  have hU9 : Upd [] w w9 := hU3.trans J.h.new.up
  have hm9 : Y.m = X.m := J.m
  by_cases q1 : (i : Int) < vs.length
  · refine cY q1 ?_
    by_cases q2 : (i : Int) < all
    · refine cY q2 ?_
      obtain ⟨vb, vo, vc', he, -⟩ := hvv.some_ (by omega)
      cases he
      refine draw_mix 16 [(0, true), (2, true), (3, true), (4, true), (7, true), (8, true), (12, true), (13, true), (14, true), (15, true), (1, false), (5, false), (6, true), (9, false), (10, true), (11, false)] (fun w' => Upd [] w9 w') (by decide +kernel) (Upd.refl [] w9).drew ?_
      refine rq (.agg (planC ⟨A, T, N, L, B, P, S⟩)) (fun w' hw' => ldw ((J.upd0 hw').a.b) rfl ⟨rfl, rfl⟩) ?_
      refine rq (.agg (planC ⟨A, T, N, L, B, P, S⟩)) (fun w' hw' => ldw ((J.upd0 hw').a.b) rfl ⟨rfl, rfl⟩) ?_
      refine rq (.agg (planC ⟨A, T, N, L, B, P, S⟩)) (fun w' hw' => ldw ((J.upd0 hw').a.b) rfl ⟨rfl, rfl⟩) ?_
      refine q_ix i rfl (by omega) ?_
      refine q_ld (v := .int .u64 (vs.getD i 0)) (fun w' hw' => (hvv.upd0 (hU9.trans hw')).at_ rfl i (by omega)) ?_
      have u1 : Upd [] w9 w9.drew := (Upd.refl [] w9).drew
      have hmm := mem_mm (J.upd0 u1).h.new.ok
      rw [hm9] at hmm
      refine cl hmm ?_
      rintro _ w10 ⟨rfl, hw10⟩
      subst hw10
      refine ⟨u1, ?_⟩
      refine cl (pslots_c ⟨A, T, N, L, B, P, S⟩ _) ?_
      rintro _ w11 ⟨rfl, hu11⟩
      have u2 := u1.trans hu11
      refine ⟨u2, ?_⟩
      refine rq (.int .i64 ((i : Int).tdiv (slotsP A L))) (fun _ _ => qu (by rw [hs0]; omega) (ar64 (by
        have h1 := Int.tdiv_nonneg (show 0 ≤ (i : Int) by omega) (show 0 ≤ slotsP A L by omega)
        have h2 := Int.tdiv_le_self (slotsP A L) (show 0 ≤ (i : Int) by omega)
        rw [hs0]; omega) ⟨rfl, rfl⟩)) ?_
      refine cl (pslots_c ⟨A, T, N, L, B, P, S⟩ _) ?_
      rintro _ w12 ⟨rfl, hu12⟩
      have u3 := u2.trans hu12
      refine ⟨u3, ?_⟩
      refine rq (.int .i64 ((i : Int).tmod (slotsP A L))) (fun _ _ => rm (by rw [hs0]; omega) (val _ rfl ⟨rfl, rfl⟩)) ?_
      refine cl (haz_c hr _ _ _) ?_
      rintro _ w13 ⟨rfl, hu13⟩
      have u4 := u3.trans hu13
      refine ⟨u4, ?_⟩
      have hlin : Cf.haz ⟨A, T, N, L, B, P, S⟩ ((i : Int).tdiv (slotsP A L)) ((i : Int).tmod (slotsP A L)) = 8 + i := haz_lin hr (c := ⟨A, T, N, L, B, P, S⟩) ⟨by omega, by show (i : Int) < slotsP A L * T; omega⟩
      rw [hlin]
      have J13 := J.upd0 u4
      have hkY : Y.s.k = X.abs.k + i := J.h.k_
      refine cl (poke_p J13.h.new.ok J13.h.calm ⟨by omega, by omega⟩ (8 + (i : Int)) (vs.getD i 0)) ?_
      rintro _ w14 ⟨Z, p14, k14, a14, s14⟩
      have e14 : Y.abs.poke (8 + (i : Int)) (vs.getD i 0) = { X.abs with W := fillW X.abs.W vs (i + 1), k := X.abs.k + ((i + 1 : Nat) : Int) } := by
        rw [J.h.a]
        unfold PS.poke
        rw [if_pos (show PS.okP _ (8 + (i : Int)) from ⟨by omega, by show 8 + (i : Int) < ((fillW X.abs.W vs i).length : Nat); rw [fillW_len]; omega⟩)]
        show (⟨X.abs.c, (fillW X.abs.W vs i).set (8 + (i : Int)).toNat (vs.getD i 0), X.abs.k + i + 1, X.abs.gh, X.abs.acted, X.abs.bad, X.abs.ths⟩ : PS) = _
        rw [show (8 + (i : Int)).toNat = 8 + i by omega, show X.abs.k + (i : Int) + 1 = X.abs.k + ((i + 1 : Nat) : Int) by omega]; rfl
      rw [e14] at a14
      have J14 : Cl w3 w14 X Z (fillW X.abs.W vs (i + 1)) (X.abs.k + ((i + 1 : Nat) : Int)) g6 ⟨A, T, N, L, B, P, S⟩ := ⟨⟨J13.h.new.post p14, a14, k14.calm J13.h.calm, by rw [k14.len]; exact J13.h.tl⟩, J13.a.post p14, k14.m.trans J.m⟩
      refine ar64 (by omega) ?_
      exact round_mk [.int .i64 ((i + 1 : Nat) : Int)] (vs.length - (i + 1)) rfl rfl ⟨i + 1, Z, rfl, by omega, by omega, rfl, J14⟩ (by omega)
    · refine cN q2 ?_
      have hq : ∀ j : Nat, (j : Int) < all → (j < i ↔ j < vs.length) := fun j hj => by omega
      have hmm := mem_mm J.h.new.ok
      rw [hm9] at hmm
      refine cl hmm ?_
      rintro _ w9 ⟨rfl, rfl⟩
      refine cl (steps_c J.h.new.ok.mem) ?_
      rintro _ w9 ⟨rfl, rfl⟩
      have hkY : Y.s.k = X.abs.k + i := J.h.k_
      rw [hkY]
      obtain ⟨t0, ht0, hf0⟩ := H.t0
      obtain ⟨-, hR0, hO0⟩ := hall t0 (List.mem_of_getElem? ht0)
      have hth : X.abs.ths[0]? = some (absT t0) := abs_th X ht0
      have WI : WpIn { X.abs with W := fillW X.abs.W vs i, k := X.abs.k + i } (absT t0) := ⟨⟨R.ok.r, R.ok.t, by show 0 ≤ X.abs.k + i; omega, by show X.abs.k + i ≤ 800000; omega, fillW_u _ _ R.ok.w hvu i, (fillW_len _ _ i).trans R.ok.l⟩, hth, hf0, hR0, hO0, ⟨_, R.gh, by have := R.ok.t; unfold PS.tagl at this; rw [R.gh] at this; exact this⟩, by show 1 ≤ X.abs.c.T; rw [hc]; exact b4.1⟩
      have hrun := wipe_spec WI
      have hsl : ({ X.abs with W := fillW X.abs.W vs i, k := X.abs.k + i } : PS).c.slots = slotsP A L := by show X.abs.c.slots = _; rw [hc]; rfl
      rw [hsl] at hrun
      obtain ⟨tY, htY, hatY⟩ := J.h.th (i := 0) hth
      have hfY : tY.fs = [] := (congrArg PT.fs hatY).trans hf0
      refine draw_mixA [(0, true), (1, false), (2, true), (3, true), (4, true), (7, true), (9, true), (5, false), (6, false), (8, true), (10, false), (11, true), (12, true)] (fun w' => Blk w' g6 TPn (planC ⟨A, T, N, L, B, P, S⟩)) (by decide +kernel) J.a.b.drew ?_
      have Jd := J.upd0 (Upd.refl [] w9).drew
      have hal := alone18_c (i := 0) Jd.h.new.ok Jd.h.calm Jd.h.tl htY hfY ((slotsP A L).toNat + 1) (by omega) 4 (RdK.nil_ _ .u64) (by decide) (by rw [Jd.h.a]; exact hrun)
      rw [hm9] at hal
      refine cl hal ?_
      rintro _ w10 ⟨rfl, Z, p10, k10, a10⟩
      have hct : ∀ W' k', ({ X.abs with W := W', k := k' } : PS).c = ⟨A, T, N, L, B, P, S⟩ := fun _ _ => hc
      have A10 := Jd.a.post p10
      have H10 : Hz w3 w10 Z _ := ⟨Jd.h.new.post p10, a10, k10.calm Jd.h.calm, by rw [k10.len]; exact Jd.h.tl⟩
      have hmZ : Z.m = X.m := k10.m.trans J.m
      refine ⟨A10.b, ?_⟩
      refine rq (.agg (planC ⟨A, T, N, L, B, P, S⟩)) (fun w' hw' => ldw (hw') rfl ⟨rfl, rfl⟩) ?_
      have hmm10 := mem_mm H10.new.ok
      rw [hmZ] at hmm10
      refine cl hmm10 ?_
      rintro _ w10 ⟨rfl, rfl⟩
      refine ⟨A10.b, ?_⟩
      refine cl (steps_c H10.new.ok.mem) ?_
      rintro _ w10 ⟨rfl, rfl⟩
      refine ⟨A10.b, ?_⟩
      have hkZ : Z.s.k = X.abs.k + i + slotsP A L := H10.k_
      rw [hkZ]
      refine q_ar64 (by omega) ?_
      refine cl (pslots_c ⟨A, T, N, L, B, P, S⟩ w10) ?_
      rintro _ w11 ⟨rfl, hu11⟩
      have A11 := A10.upd0 hu11
      have H11 := H10.upd0 hu11
      refine ⟨A11.b, ?_⟩
      refine cN (fun h => h (by rw [hs0]; omega)) ?_
      have hwl : (wW X.abs.c (fillW X.abs.W vs i) (slotsP A L).toNat).length = X.abs.W.length := by rw [wW_len, fillW_len]
      have hval : ∀ j : Nat, (j : Int) < all → (wW X.abs.c (fillW X.abs.W vs i) (slotsP A L).toNat).getD (8 + j) 0 = if j < vs.length ∧ (j : Int) ≥ slotsP A L then vs.getD j 0 else 0 := fun j hj => by
        have hcr : rightC X.abs.c := R.ok.r
        rw [wW_at hcr (by rw [hc]; exact b4.1) _ (by rw [fillW_len]; exact R.ok.l) j (slotsP A L).toNat (by rw [hc]; show ((slotsP A L).toNat : Int) ≤ slotsP A L; omega), fillW_at _ _ _ _ (by omega)]
        have hz0 : X.abs.W.getD (8 + j) 0 = 0 := by rw [hW0]; exact haz0 hr j (by rw [hall']; exact hj)
        have hqj := hq j hj
        by_cases h1 : j < (slotsP A L).toNat
        · rw [if_pos h1, if_neg (by omega)]
        · rw [if_neg h1]
          by_cases h2 : j < i
          · rw [if_pos h2, if_pos ⟨hqj.1 h2, by omega⟩]
          · rw [if_neg h2, if_neg (fun h => h2 (hqj.2 h.1)), hz0]
      generalize hWW : wW X.abs.c (fillW X.abs.W vs i) (slotsP A L).toNat = WW at *
      refine loop_rule [1, 5, 7, 8] [11] (fun vs' w' mm => ∃ (j : Nat) (Q : Mc), vs' = [.int .i64 (j : Int)] ∧ (j : Int) ≤ all ∧ mm = all.toNat - j ∧ Hz w3 w' Q (M { X.abs with W := fillW X.abs.W vs i, k := X.abs.k + i } false (X.abs.k + i + slotsP A L + j) WW X.abs.gh { absT t0 with fs := [], r := (0, 0, 0) }) ∧ Aside w' Q g6 TPn (planC ⟨A, T, N, L, B, P, S⟩) ∧ Q.m = X.m) rfl [.int .i64 0] all.toNat rfl ⟨0, Z, rfl, by omega, rfl, by
        have : X.abs.k + i + slotsP A L + ((0 : Nat) : Int) = X.abs.k + i + slotsP A L := by omega
        rw [this]; exact H11, A11, hmZ⟩ ?_
      rintro _ w12 mm ⟨j, Q, rfl, hj1, rfl, HQ, AQ, hmQ⟩
      refine cd (fun hlt => ?_) (fun hlt => ?_)
      · have hu12' : Upd [] w w12 := hU3.trans HQ.new.up
        refine draw_mixA [(0, true), (2, true), (3, true), (4, true), (7, true), (8, true), (1, false), (5, false), (6, true), (9, false), (10, true), (11, false), (12, false), (13, true), (14, true), (15, true), (16, true), (17, true)] (fun w' => Blk w' g6 TPn (planC ⟨A, T, N, L, B, P, S⟩)) (by decide +kernel) AQ.b.drew ?_
        refine rq (.agg (planC ⟨A, T, N, L, B, P, S⟩)) (fun w' hw' => ldw (hw') rfl ⟨rfl, rfl⟩) ?_
        refine rq (.agg (planC ⟨A, T, N, L, B, P, S⟩)) (fun w' hw' => ldw (hw') rfl ⟨rfl, rfl⟩) ?_
        refine rq (.agg (planC ⟨A, T, N, L, B, P, S⟩)) (fun w' hw' => ldw (hw') rfl ⟨rfl, rfl⟩) ?_
        have u1 : Upd [] w12 w12.drew := (Upd.refl [] w12).drew
        have hmm2 := mem_mm (HQ.upd0 u1).new.ok
        rw [hmQ] at hmm2
        refine cl hmm2 ?_
        rintro _ w13 ⟨rfl, hw13⟩
        subst hw13
        refine ⟨(AQ.upd0 u1).b, ?_⟩
        refine cl (pslots_c ⟨A, T, N, L, B, P, S⟩ _) ?_
        rintro _ w14 ⟨rfl, hu14⟩
        have u2 := u1.trans hu14
        refine ⟨(AQ.upd0 u2).b, ?_⟩
        refine rq (.int .i64 ((j : Int).tdiv (slotsP A L))) (fun _ _ => qu (by rw [hs0]; omega) (ar64 (by
          have h1 := Int.tdiv_nonneg (show 0 ≤ (j : Int) by omega) (show 0 ≤ slotsP A L by omega)
          have h2 := Int.tdiv_le_self (slotsP A L) (show 0 ≤ (j : Int) by omega)
          rw [hs0]; omega) ⟨rfl, rfl⟩)) ?_
        refine cl (pslots_c ⟨A, T, N, L, B, P, S⟩ _) ?_
        rintro _ w15 ⟨rfl, hu15⟩
        have u3 := u2.trans hu15
        refine ⟨(AQ.upd0 u3).b, ?_⟩
        refine rq (.int .i64 ((j : Int).tmod (slotsP A L))) (fun _ _ => rm (by rw [hs0]; omega) (val _ rfl ⟨rfl, rfl⟩)) ?_
        refine cl (haz_c hr _ _ _) ?_
        rintro _ w16 ⟨rfl, hu16⟩
        have u4 := u3.trans hu16
        refine ⟨(AQ.upd0 u4).b, ?_⟩
        have hlin : Cf.haz ⟨A, T, N, L, B, P, S⟩ ((j : Int).tdiv (slotsP A L)) ((j : Int).tmod (slotsP A L)) = 8 + j := haz_lin hr (c := ⟨A, T, N, L, B, P, S⟩) ⟨by omega, by show (j : Int) < slotsP A L * T; omega⟩
        rw [hlin]
        have H16 := HQ.upd0 u4
        have hkQ : Q.s.k = X.abs.k + i + slotsP A L + j := HQ.k_
        have hokQ : Q.abs.okP (8 + (j : Int)) := by rw [HQ.a]; exact ⟨by omega, by show 8 + (j : Int) < (WW.length : Int); omega⟩
        refine cl (peek_p H16.new.ok H16.calm ⟨by omega, by omega⟩ (8 + (j : Int)) hokQ) ?_
        rintro _ w17 ⟨rfl, Q2, p17, k17, a17, s17⟩
        refine ⟨((AQ.upd0 u4).post p17).b, ?_⟩
        have e17 : Q.abs.peek (8 + (j : Int)) = M { X.abs with W := fillW X.abs.W vs i, k := X.abs.k + i } false (X.abs.k + i + slotsP A L + ((j + 1 : Nat) : Int)) WW X.abs.gh { absT t0 with fs := [], r := (0, 0, 0) } := by
          unfold PS.peek
          rw [if_pos hokQ, HQ.a, show X.abs.k + i + slotsP A L + ((j + 1 : Nat) : Int) = X.abs.k + i + slotsP A L + j + 1 by omega]; rfl
        rw [e17] at a17
        have H17 : Hz w3 w17 Q2 _ := ⟨H16.new.post p17, a17, k17.calm H16.calm, by rw [k17.len]; exact H16.tl⟩
        have A17 := (AQ.upd0 u4).post p17
        have hrdQ : Q.abs.rd (8 + (j : Int)) = if j < vs.length ∧ (j : Int) ≥ slotsP A L then vs.getD j 0 else 0 := by
          rw [← hval j (by omega), HQ.a]
          show WW.getD (8 + (j : Int)).toNat 0 = _
          rw [show (8 + (j : Int)).toNat = 8 + j by omega]
        refine len_sl ?_
        have hU17 : Upd [] w w17 := hU3.trans H17.new.up
        have hnext : ∀ (x : Int), (if j < vs.length ∧ (j : Int) ≥ slotsP A L then vs.getD j 0 else 0) = x → Q.abs.rd (8 + (j : Int)) = x := fun x hx => hrdQ.trans hx
        by_cases g1 : (j : Int) < vs.length
        · refine cY g1 ?_
          refine ldw A17.b rfl ?_
          refine cl (pslots_c ⟨A, T, N, L, B, P, S⟩ w17) ?_
          rintro _ w18 ⟨rfl, hu18⟩
          have H18 := H17.upd0 hu18
          have A18 := A17.upd0 hu18
          by_cases g2 : (j : Int) ≥ slotsP A L
          · refine cY g2 ?_
            obtain ⟨vb, vo, vc', he, -⟩ := hvv.some_ (by omega)
            cases he
            refine ix j rfl (by omega) ?_
            refine ld ((hvv.upd0 (hU17.trans hu18)).at_ rfl j (by omega)) ?_
            refine cN (fun h => h (hnext _ (by rw [if_pos ⟨by omega, g2⟩]))) ?_
            refine ar64 (by omega) ?_
            exact round_mk [.int .i64 ((j + 1 : Nat) : Int)] (all.toNat - (j + 1)) rfl rfl ⟨j + 1, Q2, rfl, by omega, rfl, H18, A18, k17.m.trans hmQ⟩ (by omega)
          · refine cN g2 ?_
            refine cN (fun h => h (hnext _ (by rw [if_neg (fun h => g2 h.2)]))) ?_
            refine ar64 (by omega) ?_
            exact round_mk [.int .i64 ((j + 1 : Nat) : Int)] (all.toNat - (j + 1)) rfl rfl ⟨j + 1, Q2, rfl, by omega, rfl, H18, A18, k17.m.trans hmQ⟩ (by omega)
        · refine cN g1 ?_
          refine cN (fun h => h (hnext _ (by rw [if_neg (fun h => g1 (by omega))]))) ?_
          refine ar64 (by omega) ?_
          exact round_mk [.int .i64 ((j + 1 : Nat) : Int)] (all.toNat - (j + 1)) rfl rfl ⟨j + 1, Q2, rfl, by omega, rfl, H17, A17, k17.m.trans hmQ⟩ (by omega)
      · refine cl (lives18 w12) ?_
        rintro _ w13 ⟨rfl, hu13⟩
        exact ⟨rfl, (hU3.trans HQ.new.up).trans hu13⟩
  · refine cN q1 ?_
    have hq : ∀ j : Nat, (j : Int) < all → (j < i ↔ j < vs.length) := fun j hj => by omega
    have hmm := mem_mm J.h.new.ok
    rw [hm9] at hmm
    refine cl hmm ?_
    rintro _ w9 ⟨rfl, rfl⟩
    refine cl (steps_c J.h.new.ok.mem) ?_
    rintro _ w9 ⟨rfl, rfl⟩
    have hkY : Y.s.k = X.abs.k + i := J.h.k_
    rw [hkY]
    obtain ⟨t0, ht0, hf0⟩ := H.t0
    obtain ⟨-, hR0, hO0⟩ := hall t0 (List.mem_of_getElem? ht0)
    have hth : X.abs.ths[0]? = some (absT t0) := abs_th X ht0
    have WI : WpIn { X.abs with W := fillW X.abs.W vs i, k := X.abs.k + i } (absT t0) := ⟨⟨R.ok.r, R.ok.t, by show 0 ≤ X.abs.k + i; omega, by show X.abs.k + i ≤ 800000; omega, fillW_u _ _ R.ok.w hvu i, (fillW_len _ _ i).trans R.ok.l⟩, hth, hf0, hR0, hO0, ⟨_, R.gh, by have := R.ok.t; unfold PS.tagl at this; rw [R.gh] at this; exact this⟩, by show 1 ≤ X.abs.c.T; rw [hc]; exact b4.1⟩
    have hrun := wipe_spec WI
    have hsl : ({ X.abs with W := fillW X.abs.W vs i, k := X.abs.k + i } : PS).c.slots = slotsP A L := by show X.abs.c.slots = _; rw [hc]; rfl
    rw [hsl] at hrun
    obtain ⟨tY, htY, hatY⟩ := J.h.th (i := 0) hth
    have hfY : tY.fs = [] := (congrArg PT.fs hatY).trans hf0
    refine draw_mixA [(0, true), (1, false), (2, true), (3, true), (4, true), (7, true), (9, true), (5, false), (6, false), (8, true), (10, false), (11, true), (12, true)] (fun w' => Blk w' g6 TPn (planC ⟨A, T, N, L, B, P, S⟩)) (by decide +kernel) J.a.b.drew ?_
    have Jd := J.upd0 (Upd.refl [] w9).drew
    have hal := alone18_c (i := 0) Jd.h.new.ok Jd.h.calm Jd.h.tl htY hfY ((slotsP A L).toNat + 1) (by omega) 4 (RdK.nil_ _ .u64) (by decide) (by rw [Jd.h.a]; exact hrun)
    rw [hm9] at hal
    refine cl hal ?_
    rintro _ w10 ⟨rfl, Z, p10, k10, a10⟩
    have hct : ∀ W' k', ({ X.abs with W := W', k := k' } : PS).c = ⟨A, T, N, L, B, P, S⟩ := fun _ _ => hc
    have A10 := Jd.a.post p10
    have H10 : Hz w3 w10 Z _ := ⟨Jd.h.new.post p10, a10, k10.calm Jd.h.calm, by rw [k10.len]; exact Jd.h.tl⟩
    have hmZ : Z.m = X.m := k10.m.trans J.m
    refine ⟨A10.b, ?_⟩
    refine rq (.agg (planC ⟨A, T, N, L, B, P, S⟩)) (fun w' hw' => ldw (hw') rfl ⟨rfl, rfl⟩) ?_
    have hmm10 := mem_mm H10.new.ok
    rw [hmZ] at hmm10
    refine cl hmm10 ?_
    rintro _ w10 ⟨rfl, rfl⟩
    refine ⟨A10.b, ?_⟩
    refine cl (steps_c H10.new.ok.mem) ?_
    rintro _ w10 ⟨rfl, rfl⟩
    refine ⟨A10.b, ?_⟩
    have hkZ : Z.s.k = X.abs.k + i + slotsP A L := H10.k_
    rw [hkZ]
    refine q_ar64 (by omega) ?_
    refine cl (pslots_c ⟨A, T, N, L, B, P, S⟩ w10) ?_
    rintro _ w11 ⟨rfl, hu11⟩
    have A11 := A10.upd0 hu11
    have H11 := H10.upd0 hu11
    refine ⟨A11.b, ?_⟩
    refine cN (fun h => h (by rw [hs0]; omega)) ?_
    have hwl : (wW X.abs.c (fillW X.abs.W vs i) (slotsP A L).toNat).length = X.abs.W.length := by rw [wW_len, fillW_len]
    have hval : ∀ j : Nat, (j : Int) < all → (wW X.abs.c (fillW X.abs.W vs i) (slotsP A L).toNat).getD (8 + j) 0 = if j < vs.length ∧ (j : Int) ≥ slotsP A L then vs.getD j 0 else 0 := fun j hj => by
      have hcr : rightC X.abs.c := R.ok.r
      rw [wW_at hcr (by rw [hc]; exact b4.1) _ (by rw [fillW_len]; exact R.ok.l) j (slotsP A L).toNat (by rw [hc]; show ((slotsP A L).toNat : Int) ≤ slotsP A L; omega), fillW_at _ _ _ _ (by omega)]
      have hz0 : X.abs.W.getD (8 + j) 0 = 0 := by rw [hW0]; exact haz0 hr j (by rw [hall']; exact hj)
      have hqj := hq j hj
      by_cases h1 : j < (slotsP A L).toNat
      · rw [if_pos h1, if_neg (by omega)]
      · rw [if_neg h1]
        by_cases h2 : j < i
        · rw [if_pos h2, if_pos ⟨hqj.1 h2, by omega⟩]
        · rw [if_neg h2, if_neg (fun h => h2 (hqj.2 h.1)), hz0]
    generalize hWW : wW X.abs.c (fillW X.abs.W vs i) (slotsP A L).toNat = WW at *
    refine loop_rule [1, 5, 7, 8] [11] (fun vs' w' mm => ∃ (j : Nat) (Q : Mc), vs' = [.int .i64 (j : Int)] ∧ (j : Int) ≤ all ∧ mm = all.toNat - j ∧ Hz w3 w' Q (M { X.abs with W := fillW X.abs.W vs i, k := X.abs.k + i } false (X.abs.k + i + slotsP A L + j) WW X.abs.gh { absT t0 with fs := [], r := (0, 0, 0) }) ∧ Aside w' Q g6 TPn (planC ⟨A, T, N, L, B, P, S⟩) ∧ Q.m = X.m) rfl [.int .i64 0] all.toNat rfl ⟨0, Z, rfl, by omega, rfl, by
      have : X.abs.k + i + slotsP A L + ((0 : Nat) : Int) = X.abs.k + i + slotsP A L := by omega
      rw [this]; exact H11, A11, hmZ⟩ ?_
    rintro _ w12 mm ⟨j, Q, rfl, hj1, rfl, HQ, AQ, hmQ⟩
    refine cd (fun hlt => ?_) (fun hlt => ?_)
    · have hu12' : Upd [] w w12 := hU3.trans HQ.new.up
      refine draw_mixA [(0, true), (2, true), (3, true), (4, true), (7, true), (8, true), (1, false), (5, false), (6, true), (9, false), (10, true), (11, false), (12, false), (13, true), (14, true), (15, true), (16, true), (17, true)] (fun w' => Blk w' g6 TPn (planC ⟨A, T, N, L, B, P, S⟩)) (by decide +kernel) AQ.b.drew ?_
      refine rq (.agg (planC ⟨A, T, N, L, B, P, S⟩)) (fun w' hw' => ldw (hw') rfl ⟨rfl, rfl⟩) ?_
      refine rq (.agg (planC ⟨A, T, N, L, B, P, S⟩)) (fun w' hw' => ldw (hw') rfl ⟨rfl, rfl⟩) ?_
      refine rq (.agg (planC ⟨A, T, N, L, B, P, S⟩)) (fun w' hw' => ldw (hw') rfl ⟨rfl, rfl⟩) ?_
      have u1 : Upd [] w12 w12.drew := (Upd.refl [] w12).drew
      have hmm2 := mem_mm (HQ.upd0 u1).new.ok
      rw [hmQ] at hmm2
      refine cl hmm2 ?_
      rintro _ w13 ⟨rfl, hw13⟩
      subst hw13
      refine ⟨(AQ.upd0 u1).b, ?_⟩
      refine cl (pslots_c ⟨A, T, N, L, B, P, S⟩ _) ?_
      rintro _ w14 ⟨rfl, hu14⟩
      have u2 := u1.trans hu14
      refine ⟨(AQ.upd0 u2).b, ?_⟩
      refine rq (.int .i64 ((j : Int).tdiv (slotsP A L))) (fun _ _ => qu (by rw [hs0]; omega) (ar64 (by
        have h1 := Int.tdiv_nonneg (show 0 ≤ (j : Int) by omega) (show 0 ≤ slotsP A L by omega)
        have h2 := Int.tdiv_le_self (slotsP A L) (show 0 ≤ (j : Int) by omega)
        rw [hs0]; omega) ⟨rfl, rfl⟩)) ?_
      refine cl (pslots_c ⟨A, T, N, L, B, P, S⟩ _) ?_
      rintro _ w15 ⟨rfl, hu15⟩
      have u3 := u2.trans hu15
      refine ⟨(AQ.upd0 u3).b, ?_⟩
      refine rq (.int .i64 ((j : Int).tmod (slotsP A L))) (fun _ _ => rm (by rw [hs0]; omega) (val _ rfl ⟨rfl, rfl⟩)) ?_
      refine cl (haz_c hr _ _ _) ?_
      rintro _ w16 ⟨rfl, hu16⟩
      have u4 := u3.trans hu16
      refine ⟨(AQ.upd0 u4).b, ?_⟩
      have hlin : Cf.haz ⟨A, T, N, L, B, P, S⟩ ((j : Int).tdiv (slotsP A L)) ((j : Int).tmod (slotsP A L)) = 8 + j := haz_lin hr (c := ⟨A, T, N, L, B, P, S⟩) ⟨by omega, by show (j : Int) < slotsP A L * T; omega⟩
      rw [hlin]
      have H16 := HQ.upd0 u4
      have hkQ : Q.s.k = X.abs.k + i + slotsP A L + j := HQ.k_
      have hokQ : Q.abs.okP (8 + (j : Int)) := by rw [HQ.a]; exact ⟨by omega, by show 8 + (j : Int) < (WW.length : Int); omega⟩
      refine cl (peek_p H16.new.ok H16.calm ⟨by omega, by omega⟩ (8 + (j : Int)) hokQ) ?_
      rintro _ w17 ⟨rfl, Q2, p17, k17, a17, s17⟩
      refine ⟨((AQ.upd0 u4).post p17).b, ?_⟩
      have e17 : Q.abs.peek (8 + (j : Int)) = M { X.abs with W := fillW X.abs.W vs i, k := X.abs.k + i } false (X.abs.k + i + slotsP A L + ((j + 1 : Nat) : Int)) WW X.abs.gh { absT t0 with fs := [], r := (0, 0, 0) } := by
        unfold PS.peek
        rw [if_pos hokQ, HQ.a, show X.abs.k + i + slotsP A L + ((j + 1 : Nat) : Int) = X.abs.k + i + slotsP A L + j + 1 by omega]; rfl
      rw [e17] at a17
      have H17 : Hz w3 w17 Q2 _ := ⟨H16.new.post p17, a17, k17.calm H16.calm, by rw [k17.len]; exact H16.tl⟩
      have A17 := (AQ.upd0 u4).post p17
      have hrdQ : Q.abs.rd (8 + (j : Int)) = if j < vs.length ∧ (j : Int) ≥ slotsP A L then vs.getD j 0 else 0 := by
        rw [← hval j (by omega), HQ.a]
        show WW.getD (8 + (j : Int)).toNat 0 = _
        rw [show (8 + (j : Int)).toNat = 8 + j by omega]
      refine len_sl ?_
      have hU17 : Upd [] w w17 := hU3.trans H17.new.up
      have hnext : ∀ (x : Int), (if j < vs.length ∧ (j : Int) ≥ slotsP A L then vs.getD j 0 else 0) = x → Q.abs.rd (8 + (j : Int)) = x := fun x hx => hrdQ.trans hx
      by_cases g1 : (j : Int) < vs.length
      · refine cY g1 ?_
        refine ldw A17.b rfl ?_
        refine cl (pslots_c ⟨A, T, N, L, B, P, S⟩ w17) ?_
        rintro _ w18 ⟨rfl, hu18⟩
        have H18 := H17.upd0 hu18
        have A18 := A17.upd0 hu18
        by_cases g2 : (j : Int) ≥ slotsP A L
        · refine cY g2 ?_
          obtain ⟨vb, vo, vc', he, -⟩ := hvv.some_ (by omega)
          cases he
          refine ix j rfl (by omega) ?_
          refine ld ((hvv.upd0 (hU17.trans hu18)).at_ rfl j (by omega)) ?_
          refine cN (fun h => h (hnext _ (by rw [if_pos ⟨by omega, g2⟩]))) ?_
          refine ar64 (by omega) ?_
          exact round_mk [.int .i64 ((j + 1 : Nat) : Int)] (all.toNat - (j + 1)) rfl rfl ⟨j + 1, Q2, rfl, by omega, rfl, H18, A18, k17.m.trans hmQ⟩ (by omega)
        · refine cN g2 ?_
          refine cN (fun h => h (hnext _ (by rw [if_neg (fun h => g2 h.2)]))) ?_
          refine ar64 (by omega) ?_
          exact round_mk [.int .i64 ((j + 1 : Nat) : Int)] (all.toNat - (j + 1)) rfl rfl ⟨j + 1, Q2, rfl, by omega, rfl, H18, A18, k17.m.trans hmQ⟩ (by omega)
      · refine cN g1 ?_
        refine cN (fun h => h (hnext _ (by rw [if_neg (fun h => g1 (by omega))]))) ?_
        refine ar64 (by omega) ?_
        exact round_mk [.int .i64 ((j + 1 : Nat) : Int)] (all.toNat - (j + 1)) rfl rfl ⟨j + 1, Q2, rfl, by omega, rfl, H17, A17, k17.m.trans hmQ⟩ (by omega)
    · refine cl (lives18 w12) ?_
      rintro _ w13 ⟨rfl, hu13⟩
      exact ⟨rfl, (hU3.trans HQ.new.up).trans hu13⟩
theorem HazardClears_walk (w : World) (l : List Int) (wl : Fits [.i64, .i64, .i64, .i64, .i64, .i64, .i64] l) (v1 : Value) (l1 : List (List Int)) (h1 : SlRows w w.heap.size [.u64] v1 l1) :
    Calls Try.prog 12 #[.agg (mkInts [.i64, .i64, .i64, .i64, .i64, .i64, .i64] l).toArray, v1] w fun e w' => e = .returned (.bool true) ∧ Below w.heap.size w w' := by
  obtain ⟨⟨A, T, N, L, B, P, S⟩, rfl⟩ := cf_of wl
  obtain ⟨-, -, -, -, -, -, hf, -⟩ := h1.norm (by decide)
  refine (clears_law (c := ⟨A, T, N, L, B, P, S⟩) (RdK.of_ints h1.ints (Nat.le_refl _)) (u64_getD fun x hx => ?_)).mono fun _ _ ⟨_, he, hr, hu⟩ => ⟨by rw [he, hr], hu.below⟩
  obtain ⟨m, hm, rfl⟩ := List.mem_map.1 hx
  have hfm := hf m hm
  obtain ⟨y, rfl⟩ : ∃ y, m = [y] := by
    have h := hfm.1
    match m, h with
    | [y], _ => exact ⟨y, rfl⟩
  have h0 : IntKind.u64.min ≤ y ∧ y ≤ IntKind.u64.max := by simpa [Lit.wf] using hfm.2 0 .u64 y rfl rfl
  exact h0
end Go.Proofs.Ytdomclcokkijjaa

