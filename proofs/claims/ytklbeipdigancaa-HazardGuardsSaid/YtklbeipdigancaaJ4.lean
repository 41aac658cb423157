/- Joined: Ig Ih Ii Ij Ik Il Im In Io Ip Iq Ir. -/
import Derived.Test.YtklbeipdigancaaJ3
/- Rounds that are computed. -/
namespace Go.Proofs.Ytklbeipdigancaa
open Go.RowKit
attribute [local irreducible] Instr.loadAt Instr.storeAt Instr.fieldAt Instr.indexAt Instr.sliceAt Instr.buildSlice Instr.box Instr.alloc Builtin.append_ Builtin.len_ Builtin.min_ Builtin.max_ Calls Instr.build Instr.makeSlice binSem convert Instr.index Instr.range Instr.next
def okR (f : Fr) : Bool := f.R.all fun x => decide (0 ≤ x) && decide (x ≤ 18446744073709551615)
def okPB (p : PS) : Bool := decide (rightC p.c) && decide (p.tagl.length ≤ 64) && decide (0 ≤ p.k) && decide (p.k ≤ 900000) && (p.W.all fun x => decide (0 ≤ x) && decide (x ≤ 18446744073709551615)) && decide (p.W.length = (sizeP p.c.A p.c.T p.c.N p.c.L).toNat)
theorem okPB_ok {p : PS} (h : okPB p = true) : p.Ok 900000 := by
  unfold okPB at h
  simp only [Bool.and_eq_true, decide_eq_true_eq, List.all_eq_true] at h
  obtain ⟨⟨⟨⟨⟨h1, h2⟩, h3⟩, h4⟩, h5⟩, h6⟩ := h
  exact ⟨h1, h2, h3, h4, fun x hx => h5 x hx, h6⟩
theorem okR_ok {f : Fr} (h : okR f = true) (j : Nat) : u64R (f.R.getD j 0) := by
  unfold okR at h
  simp only [Bool.and_eq_true, decide_eq_true_eq, List.all_eq_true] at h
  exact u64_getD (fun x hx => h x hx) j
def exR (i : Nat) : Nat → PS → Option PS
  | 0, _ => none
  | n + 1, p => if p.acted = true ∨ topL p i = 0 then (if topL p i ≤ 90000 then some p else none) else
    match p.ths[i]? with
    | none => none
    | some t => match t.fs.getLast? with
      | none => none
      | some f => if (okR f && okPB p) = true ∧ t.fs.dropLast.length ≤ 90000 ∧ (0 ≤ f.pc ∧ f.pc ≤ 100000) ∧ t.R.length ≤ 90000 ∧ t.O.length ≤ 90000 then exR i n (hzDo p i t t.fs.dropLast f) else none
theorem exR_sound (i : Nat) : ∀ (n : Nat) (p q : PS), exR i n p = some q → ∃ m, Rnd i m p q
  | 0, _, _, h => by cases h
  | n + 1, p, q, h => by
    unfold exR at h
    split at h
    · rename_i h1
      split at h
      · rename_i h2
        cases h
        exact ⟨0, rfl, h1, h2⟩
      · cases h
    · rename_i h1
      split at h
      · cases h
      · rename_i t ht
        split at h
        · cases h
        · rename_i f hf
          split at h
          · rename_i hc
            obtain ⟨ha, hb, hd, he, hg⟩ := hc
            rw [Bool.and_eq_true] at ha
            obtain ⟨m, hm⟩ := exR_sound i n _ _ h
            refine ⟨m + 1, ?_, t, t.fs.dropLast, f, ht, ?_, hb, okR_ok ha.1, hd, he, hg, okPB_ok ha.2, hm⟩
            · cases hac : p.acted with
              | false => rfl
              | true => exact absurd (.inl hac) h1
            · obtain ⟨hne, hl⟩ := List.getLast?_eq_some_iff.1 hf
              rw [hl]; simp
          · cases h
def exH (i : Nat) : Nat → PS → Option PS
  | 0, _ => none
  | n + 1, p => match exR i 200 (calm0 p) with
    | none => none
    | some p' => if topL p' i = 0 then some p' else exH i n p'
theorem exH_sound (i : Nat) : ∀ (n : Nat) (p q : PS), exH i n p = some q → RunH i n p q ∧ topL q i = 0
  | 0, _, _, h => by cases h
  | n + 1, p, q, h => by
    unfold exH at h
    split at h
    · cases h
    · rename_i p' hp
      obtain ⟨m, hm⟩ := exR_sound i _ _ _ hp
      split at h
      · rename_i h0
        cases h
        exact ⟨⟨m, _, hm, .inl ⟨h0, rfl⟩⟩, h0⟩
      · rename_i h0
        obtain ⟨h1, h2⟩ := exH_sound i n _ _ h
        exact ⟨⟨m, _, hm, .inr ⟨by omega, h1⟩⟩, h2⟩
end Go.Proofs.Ytklbeipdigancaa

/- Stores and loads of the law's own; lives of chapter 18. -/
namespace Go.Proofs.Ytklbeipdigancaa
open Go.RowKit
attribute [local irreducible] Instr.loadAt Instr.storeAt Instr.fieldAt Instr.indexAt Instr.sliceAt Instr.buildSlice Instr.box Instr.alloc Builtin.append_ Builtin.len_ Builtin.min_ Builtin.max_ Calls Instr.build Instr.makeSlice binSem convert Instr.index Instr.range Instr.next
def PS.poke (p : PS) (a x : Int) : PS := if p.okP a then { p with W := p.W.set a.toNat x, k := p.k + 1 } else p
def PS.peek (p : PS) (a : Int) : PS := if p.okP a then { p with k := p.k + 1 } else p
def P18 : PS := ⟨⟨0, 1, 2, 1, 1, 1, 1⟩, (layS 0 1 2 1 (newMS (sizeP 0 1 2 1).toNat)).W, (layS 0 1 2 1 (newMS (sizeP 0 1 2 1).toNat)).k, some (liveL 2 0, 0, 0), false, false, [⟨[], (0, 0, 0), [0], [0], [0], [], []⟩]⟩
def unO (x : Option PS) : PS := match x with | some p => p | none => P18
def Q1 : PS := unO (exH 0 10 (pushH P18 0 1 []))
def Q2 : PS := Q1.poke 9 1
def Q3 : PS := unO (exH 0 20 (pushH Q2 0 5 [1]))
def Q4 : PS := unO (exH 0 20 (pushH Q3 0 4 []))
def Q5 : PS := unO (exH 0 20 (pushH Q4 0 6 []))
theorem some_unO {x : Option PS} (h : x.isSome = true) : x = some (unO x) := by
  cases x with
  | none => cases h
  | some p => rfl
theorem r1 : exH 0 10 (pushH P18 0 1 []) = some Q1 := some_unO (by decide +kernel)
theorem r3 : exH 0 20 (pushH Q2 0 5 [1]) = some Q3 := some_unO (by decide +kernel)
theorem r4 : exH 0 20 (pushH Q3 0 4 []) = some Q4 := some_unO (by decide +kernel)
theorem r5 : exH 0 20 (pushH Q4 0 6 []) = some Q5 := some_unO (by decide +kernel)
theorem g3 : Q3.gh = some ([2, 0], 0, 0) ∧ (Q3.ths[0]?.map (·.R)) = some [1] := by decide +kernel
theorem g5 : Q5.gh = some ([0, 0], 0, 0) ∧ Q5.bad = false := by decide +kernel
section
variable {w w' w'' : World} {X : Mc} {p q : PS}
theorem poke_p (h : Mach w X) (hc : X.s.on = false ∧ X.s.L = []) (hk : 0 ≤ X.s.k ∧ X.s.k ≤ 1000000) (a x : Int) : Fn Try.prog 13 #[ptrV X.mp, .int .i64 a, .int .u64 x] w fun _ w' => EvM w X w' (X.abs.poke a x) := by
  have hroom : Roomy X.s := ⟨hk.1, by omega, by rw [hc.2]; decide⟩
  refine (store_c h.mem hroom a x).mono ?_
  rintro e w2 ⟨u, he, h1, h2⟩
  by_cases ho : okA X.s a
  · obtain ⟨-, hp⟩ := h1 ho
    obtain ⟨lv, p⟩ := h.memPost hp
    refine ⟨u, he, _, p, ⟨rfl, rfl, rfl, rfl, fun hc => ⟨hc.1, by show (if X.s.on then _ else X.s.L) = []; rw [hc.1]; exact hc.2⟩⟩, ?_, rfl⟩
    unfold PS.poke
    rw [if_pos ((okA_abs X a).1 ho)]; rfl
  · obtain ⟨-, hp⟩ := h2 ho
    obtain ⟨lv, p⟩ := h.memPost hp
    refine ⟨u, he, _, p, ⟨rfl, rfl, rfl, rfl, id⟩, ?_, rfl⟩
    unfold PS.poke
    rw [if_neg (fun h => ho ((okA_abs X a).2 h))]; rfl
theorem peek_p (h : Mach w X) (hc : X.s.on = false ∧ X.s.L = []) (hk : 0 ≤ X.s.k ∧ X.s.k ≤ 1000000) (a : Int) (ha : X.abs.okP a) : Fn Try.prog 68 #[ptrV X.mp, .int .i64 a] w fun r w' => r = .tuple #[.int .u64 (X.abs.rd a), .int .i64 0] ∧ EvM w X w' (X.abs.peek a) := by
  have hroom : Roomy X.s := ⟨hk.1, by omega, by rw [hc.2]; decide⟩
  refine (load_c h.mem hroom a).mono ?_
  rintro e w2 ⟨u, he, h1, h2⟩
  obtain ⟨hr, hp⟩ := h1 ((okA_abs X a).2 ha)
  obtain ⟨lv, p⟩ := h.memPost hp
  refine ⟨u, he, hr, _, p, ⟨rfl, rfl, rfl, rfl, fun hc => ⟨hc.1, by show (if X.s.on then _ else X.s.L) = []; rw [hc.1]; exact hc.2⟩⟩, ?_, rfl⟩
  unfold PS.peek
  rw [if_pos ha]; rfl
/-- a machine of the call's own, and what it holds -/
structure Hz (w w' : World) (X : Mc) (p : PS) : Prop where
  new : New w w' X
  a : X.abs = p
  calm : X.s.on = false ∧ X.s.L = []
  tl : X.ths.length ≤ 100
theorem Hz.upd0 (h : Hz w w' X p) (hu : Upd [] w' w'') : Hz w w'' X p := ⟨⟨h.new.ok.upd0 hu, h.new.up.trans hu, h.new.fr⟩, h.a, h.calm, h.tl⟩
theorem Hz.to (h : Hz w w' X p) (e : Ev w' X w'' q) : ∃ Y, Hz w w'' Y q ∧ Y.m = X.m := by
  obtain ⟨Y, p, k, a⟩ := e
  exact ⟨Y, ⟨h.new.post p, a, k.calm h.calm, by rw [k.len]; exact h.tl⟩, k.m⟩
theorem Hz.th (h : Hz w w' X p) {i : Nat} {t : PT} (hi : p.ths[i]? = some t) : ∃ t', X.ths[i]? = some t' ∧ absT t' = t := by
  have h1 : (X.ths.map absT)[i]? = some t := by
    have : X.abs.ths[i]? = some t := by rw [h.a]; exact hi
    exact this
  rw [List.getElem?_map] at h1
  cases h3 : X.ths[i]? with
  | none => rw [h3] at h1; cases h1
  | some t' => rw [h3] at h1; exact ⟨t', rfl, Option.some.inj h1⟩
theorem Hz.th0 (h : Hz w w' X p) {i : Nat} (hi : i < p.ths.length) (h0 : topL p i = 0) : ∃ t', X.ths[i]? = some t' ∧ t'.fs = [] := by
  have h1 : p.ths[i]? = some (p.ths[i]'hi) := List.getElem?_eq_getElem _
  obtain ⟨t', h2, h3⟩ := h.th h1
  rw [topL_at h1, ← h3] at h0
  exact ⟨t', h2, List.length_eq_zero_iff.1 h0⟩
theorem Hz.alone (h : Hz w w' X p) {i : Nat} (hi : i < p.ths.length) (h0 : topL p i = 0) {n : Nat} (hn : n ≤ 2900) {fn : Int} {v : Value} {l : List Int} (hv : RdK w' .u64 v l) (hl : l.length ≤ 100000) (hr : RunH i n (pushH p i fn l) q) :
    Fn Try.prog 23 #[ptrV X.m, .int .i64 (i : Int), .int .i64 fn, v] w' fun r w'' => r = .bool true ∧ ∃ Y, Hz w w'' Y q ∧ Y.m = X.m := by
  obtain ⟨t, ht, hf⟩ := h.th0 hi h0
  rw [← h.a] at hr
  refine (alone18_c h.new.ok h.calm h.tl ht hf n hn fn hv hl hr).mono ?_
  rintro e w2 ⟨r, he, hr, hev⟩
  exact ⟨r, he, hr, h.to hev⟩
theorem Hz.ghost (h : Hz w w' X p) {tg : List Int} {a b : Int} (hg : p.gh = some (tg, a, b)) : ∃ gp v, gvOf X.gs = ptrV gp ∧ IsG w' gp v tg a b := by
  have h1 : X.gs.map absG = some (tg, a, b) := by rw [← hg, ← h.a]; rfl
  have h2 := h.new.ok.gh
  cases hz : X.gs with
  | none => rw [hz] at h1; cases h1
  | some g =>
    rw [hz] at h1 h2
    have h3 : absG g = (tg, a, b) := Option.some.inj h1
    have e1 : g.tags = tg := congrArg (fun x => x.1) h3
    have e2 : g.k = a := congrArg (fun x => x.2.1) h3
    have e3 : g.n = b := congrArg (fun x => x.2.2) h3
    refine ⟨g.p, g.v, rfl, ?_⟩
    rw [← e1, ← e2, ← e3]; exact h2
end
set_option maxRecDepth 10000 in
theorem lives18 (w : World) : Fn Try.prog 6 #[] w fun r w' => r = .bool true ∧ Upd [] w w' := by
  refine fn_enter Try.func6 rfl rfl ?_
  refine bd (cf7 ⟨0, 1, 2, 1, 1, 1, 1⟩) (fun _ => by kernel_rfl) ?_
  refine cl (core_new2 (draws := []) true (RdK.nil_ w .u8) (by decide)) ?_
  rintro r w1 ⟨-, hy⟩
  obtain ⟨m, mp, mv, lv, fp, fv, gs, tv, ths, rfl, I, hT, hths, -, hgs⟩ := hy (by decide)
  obtain ⟨gp, gv, rfl⟩ := hgs rfl
  obtain ⟨t0, rfl⟩ : ∃ t0, ths = [t0] := by
    match ths, hT with
    | [t0], _ => exact ⟨t0, rfl⟩
    | [], h => simp at h
    | _ :: _ :: _, h => simp at h; omega
  obtain ⟨g0, pv0, sv0, wv0, rfl⟩ := hths t0 (by simp)
  have hq := layS_q (A := 0) (T := 1) (N := 2) (L := 1) (B := 1) (P := 1) (S := 1) (by decide)
  have H : Hz w w1 _ P18 := ⟨I, rfl, ⟨hq.on, hq.L⟩, by show 1 ≤ 100; omega⟩
  generalize hX : mc0 m ⟨0, 1, 2, 1, 1, 1, 1⟩ mp mv lv (layS 0 1 2 1 (newMS (sizeP 0 1 2 1).toNat)) (some ⟨gp, gv, liveL (2 : Int).toNat (sentP 0).toNat, 0, 0⟩) fp fv [] tv [thZ g0 pv0 sv0 wv0 (1 : Int).toNat] = X at *
  have hm : X.m = m := by rw [← hX]; rfl
  rw [← hm]
  refine ptr_eq ?_
  obtain ⟨R1, T1⟩ := exH_sound 0 10 _ _ r1
  refine cl (H.alone (i := 0) (by decide) (by decide) (by omega) (RdK.nil_ w1 .u64) (by decide) R1) ?_
  rintro _ w2 ⟨rfl, X1, H1, m1⟩
  rw [← m1]
  refine cl (mem_mm H1.new.ok) ?_
  rintro _ w2 ⟨rfl, rfl⟩
  refine cl (plan_mm H1.new.ok) ?_
  rintro _ w3 ⟨rfl, hu3⟩
  have hc1 : X1.c = Q1.c := congrArg PS.c H1.a
  rw [hc1]
  refine cl (haz_c (by decide +kernel) 0 1 w3) ?_
  rintro _ w4 ⟨rfl, hu4⟩
  have H1' := (H1.upd0 hu3).upd0 hu4
  have hk1 : 0 ≤ X1.s.k ∧ X1.s.k ≤ 1000000 := by
    have : X1.s.k = Q1.k := congrArg PS.k H1.a
    rw [this]; decide +kernel
  refine cl (poke_p H1'.new.ok H1.calm hk1 _ 1) ?_
  rintro _ w5 hev
  obtain ⟨X2, H2, m2⟩ := H1'.to hev.ev
  rw [H1.a, show Q1.c.haz 0 1 = 9 by decide +kernel] at H2
  have H2 : Hz w w5 X2 Q2 := H2
  rw [← m2]
  refine bs #[.int .u64 1] (fun _ => by kernel_rfl) fun w6 hb6 hu6 hs6 => ?_
  have H2' := H2.upd0 hu6
  obtain ⟨R3, T3⟩ := exH_sound 0 20 _ _ r3
  refine cl (H2'.alone (i := 0) (by decide +kernel) (by decide +kernel) (by omega) (one_rd hb6) (by decide) R3) ?_
  rintro _ w7 ⟨rfl, X3, H3, m3⟩
  rw [← m3]
  obtain ⟨gp3, gv3, hg3, hG3⟩ := H3.ghost g3.1
  refine cl (ghost_mm H3.new.ok) ?_
  rintro _ w7 ⟨rfl, rfl⟩
  rw [hg3]
  refine cl (tag_c hG3 (by decide) 1) ?_
  rintro _ w7 ⟨rfl, rfl⟩
  obtain ⟨t3, ht3, ha3⟩ : ∃ t3, X3.ths[0]? = some t3 ∧ t3.R = [1] := by
    have h1 := g3.2
    cases h2 : Q3.ths[0]? with
    | none => rw [h2] at h1; cases h1
    | some t =>
      rw [h2] at h1
      obtain ⟨t', h3, h4⟩ := H3.th h2
      refine ⟨t', h3, ?_⟩
      have h5 : t.R = [1] := Option.some.inj h1
      rw [← h5, ← h4]; rfl
  refine cl (thread_mm (i := 0) H3.new.ok ht3 H3.tl) ?_
  rintro _ w7 ⟨rfl, rfl⟩
  refine fa ?_
  obtain ⟨ra, rc, hrv, -⟩ := (H3.new.ok.rv_ ht3).form
  have hcell : w7.cell? ⟨t3.g, 8, none⟩ = some (.slice ra t3.R.length rc) := by
    have := (H3.new.ok.core ht3).blk.cell 8
    rw [this, ← hrv]; rfl
  rw [ha3] at hcell
  refine cl (len_p hcell) ?_
  rintro _ w7 ⟨rfl, rfl⟩
  obtain ⟨R4, T4⟩ := exH_sound 0 20 _ _ r4
  refine cl (H3.alone (i := 0) (by decide +kernel) T3 (by omega) (RdK.nil_ w7 .u64) (by decide) R4) ?_
  rintro _ w8 ⟨rfl, X4, H4, m4⟩
  rw [← m4]
  obtain ⟨R5, T5⟩ := exH_sound 0 20 _ _ r5
  refine cl (H4.alone (i := 0) (by decide +kernel) T4 (by omega) (RdK.nil_ w8 .u64) (by decide) R5) ?_
  rintro _ w9 ⟨rfl, X5, H5, m5⟩
  rw [← m5]
  obtain ⟨gp5, gv5, hg5, hG5⟩ := H5.ghost g5.1
  refine cl (ghost_mm H5.new.ok) ?_
  rintro _ w9 ⟨rfl, rfl⟩
  rw [hg5]
  refine cl (tag_c hG5 (by decide) 1) ?_
  rintro _ w9 ⟨rfl, rfl⟩
  have hflt := fault_mm H5.new.ok
  have hb5 : X5.bad = false := by
    have := congrArg PS.bad H5.a
    exact this.trans g5.2
  have hf5 : faultG X5.gs = false := by
    have h1 : X5.gs.map absG = some ([0, 0], 0, 0) := by rw [← g5.1, ← H5.a]; rfl
    cases hz : X5.gs with
    | none => rfl
    | some g =>
      rw [hz] at h1
      have h3 : absG g = _ := Option.some.inj h1
      have h4 : g.k = 0 := congrArg (fun x => x.2.1) h3
      have h5 : g.n = 0 := congrArg (fun x => x.2.2) h3
      show decide (¬ (g.k = 0 ∧ g.n = 0)) = false
      exact decide_eq_false (fun h => h ⟨h4, h5⟩)
  rw [hb5, hf5] at hflt
  refine cl hflt ?_
  rintro _ w10 ⟨rfl, hu10⟩
  exact ⟨rfl, H5.new.up.trans hu10⟩
end Go.Proofs.Ytklbeipdigancaa

/- The law HazardProtects. -/
namespace Go.Proofs.Ytklbeipdigancaa
open Go.RowKit
attribute [local irreducible] Instr.loadAt Instr.storeAt Instr.fieldAt Instr.indexAt Instr.sliceAt Instr.buildSlice Instr.box Instr.alloc Builtin.append_ Builtin.len_ Builtin.min_ Builtin.max_ Calls Instr.build Instr.makeSlice binSem convert Instr.index Instr.range Instr.next
theorem haz_at {c : Cf} (hr : rightC c) {i k : Int} (hi : 0 ≤ i ∧ i < c.T) (hk : 0 ≤ k ∧ k < c.slots) : (c.where_ (c.haz i k)).1 ≠ 3 ∧ 8 ≤ c.haz i k ∧ c.haz i k < sizeP c.A c.T c.N c.L ∧ c.haz i k = 8 + i * c.slots + k := by
  obtain ⟨A, T, N, L, B, P, S⟩ := c
  obtain ⟨b1, b2, b3, b4, b5, b6, b7, b8, b9, b10, b11, b12⟩ := plan_bd hr
  have hi : 0 ≤ i ∧ i < T := hi
  have hk : 0 ≤ k ∧ k < slotsP A L := hk
  have e : Cf.haz ⟨A, T, N, L, B, P, S⟩ i k = 8 + i * slotsP A L + k := by
    show (if (0 ≤ i ∧ i ≤ T - 1) ∧ 0 ≤ k ∧ k ≤ slotsP A L - 1 then 8 + i * slotsP A L + k else -1) = _
    rw [if_pos (by omega)]
  have h1 : i * slotsP A L + slotsP A L ≤ T * slotsP A L := by
    have := Int.mul_le_mul_of_nonneg_right (show i + 1 ≤ T by omega) (show 0 ≤ slotsP A L by omega)
    rw [Int.add_mul] at this; omega
  have h0 : 0 ≤ i * slotsP A L := Int.mul_nonneg hi.1 (by omega)
  have hlk : linksP A T L = 8 + T * slotsP A L := rfl
  rw [e]
  refine ⟨?_, by omega, (by omega : 8 + i * slotsP A L + k < sizeP A T N L), rfl⟩
  unfold Cf.where_ whereP
  simp only
  rw [if_neg (by omega), if_neg (by omega), if_pos (by omega)]
  show (1 : Int) ≠ 3
  decide
theorem where_g {c : Cf} (hr : rightC c) {a : Int} (ha : 0 ≤ a ∧ a < 8) : (c.where_ a).1 ≠ 3 := by
  have hz := size_bd hr
  unfold Cf.where_ whereP
  rw [if_neg (by omega), if_pos (by omega)]
  show (0 : Int) ≠ 3
  decide
structure PrIn (p : PS) (t : PT) (slot place v : Int) : Prop where
  ok : p.Ok 800000
  th : p.ths[0]? = some t
  fs : t.fs = []
  R : t.R = []
  O : t.O = []
  sl : 0 ≤ slot ∧ slot < p.c.slots
  pl : 0 ≤ place ∧ place < 8
  v : p.W.getD place.toNat 0 = v
  g : ∃ tg, p.gh = some (tg, 0, 0) ∧ tg.length ≤ 64
theorem M_ok' {p : PS} {a : Bool} {k : Int} {W : List Int} {t : PT} {b b' : Int} (h : p.Ok b) (hk : 0 ≤ k ∧ k ≤ b') (hW : ∀ x ∈ W, u64R x) (hl : W.length = p.W.length) (hg : ∃ tg, p.gh = some (tg, 0, 0) ∧ tg.length ≤ 64) : (M p a k W p.gh t).Ok b' := by
  obtain ⟨tg, h1, h2⟩ := hg
  rw [h1]
  exact M_ok h hk hW hl h2 0 0
theorem prot_spec {p : PS} {t : PT} {slot place v : Int} (I : PrIn p t slot place v) (hT : 1 ≤ p.c.T) :
    (ptrW v = 0 → RunH 0 1 (pushH p 0 3 [slot, place]) (M p true (p.k + 1) p.W p.gh { t with fs := [], r := (v, 0, 0) })) ∧
    (ptrW v ≠ 0 → RunH 0 3 (pushH p 0 3 [slot, place]) (M p true (p.k + 3) (p.W.set (p.c.haz 0 slot).toNat (ptrW v)) p.gh { t with fs := [], r := (v, 0, 0) })) := by
  have hr := I.ok.r
  have hz := size_bd hr
  have hWl := I.ok.l
  have hk0 := I.ok.k0
  have hk1 := I.ok.k1
  obtain ⟨p1, p2⟩ := I.pl
  obtain ⟨s1, s2⟩ := I.sl
  obtain ⟨h1, h2, h3, h4⟩ := haz_at hr (i := 0) (k := slot) ⟨by omega, by omega⟩ ⟨s1, s2⟩
  have hsl : p.c.slots ≤ 14 := by
    generalize p.c = c at *
    obtain ⟨A, T, N, L, B, P, S⟩ := c
    exact (plan_bd hr).1.2
  have hwg := where_g hr (a := place) ⟨p1, p2⟩
  have hpl : 0 ≤ place ∧ place < p.W.length := by omega
  have hhz : 0 ≤ p.c.haz 0 slot ∧ p.c.haz 0 slot < p.W.length := by omega
  have hIs : toI slot = slot := toI_small (by omega)
  have hIp : toI place = place := toI_small (by omega)
  have hvu : u64R v := by rw [← I.v]; exact u64_getD I.ok.w _
  have e0 : pushH p 0 3 [slot, place] = M p p.acted p.k p.W p.gh { t with fs := [⟨3, 0, [slot, place]⟩] } := by
    unfold pushH
    rw [I.th]
    show p.put 0 { t with fs := t.fs ++ [⟨3, 0, [slot, place]⟩] } = _
    rw [I.fs]; rfl
  have hreg : ∀ j, u64R (([slot, place] : List Int).getD j 0)
    | 0 => (⟨by omega, by omega⟩ : u64R slot)
    | 1 => (⟨by omega, by omega⟩ : u64R place)
    | _ + 2 => (⟨by decide, by decide⟩ : u64R 0)
  have hRl : t.R.length ≤ 90000 := by rw [I.R]; decide
  have hOl : t.O.length ≤ 90000 := by rw [I.O]; decide
  rw [e0]
  -- the first step
  have d1 : ∀ a, hzDo (M p a p.k p.W p.gh { t with fs := [⟨3, 0, [slot, place]⟩] }) 0 { t with fs := [⟨3, 0, [slot, place]⟩] } [] ⟨3, 0, [slot, place]⟩ =
      if ptrW v = 0 then M p true (p.k + 1) p.W p.gh { t with fs := [], r := (v, 0, 0) } else M p true (p.k + 1) p.W p.gh { t with fs := [⟨3, 1, regI [slot, place] 2 v⟩] } := fun a => by
    unfold hzDo hzProtect
    rw [if_pos rfl, if_pos rfl]
    show (if ptrW ((M p a p.k p.W p.gh _).ldv (toI place)) = 0 then ((M p a p.k p.W p.gh _).load (toI place)).put 0 (popped _ [] ((M p a p.k p.W p.gh _).ldv (toI place))) else ((M p a p.k p.W p.gh _).load (toI place)).put 0 (topped _ [] ⟨3, 1, regI [slot, place] 2 ((M p a p.k p.W p.gh _).ldv (toI place))⟩)) = _
    rw [hIp, M_ldv hpl, M_load hpl hwg, M_put, M_put, I.v]; rfl
  refine ⟨fun hv0 => ?_, fun hv0 => ?_⟩
  · refine ⟨1, _, ⟨rfl, _, [], _, M_th I.th, rfl, by decide, hreg, (show (0 : Int) ≤ 0 ∧ (0 : Int) ≤ 100000 by decide), hRl, hOl, (show PS.Ok (M p false p.k p.W p.gh _) 900000 from M_ok' I.ok ⟨by omega, by omega⟩ I.ok.w rfl I.g), ?_⟩, .inl ⟨?_, rfl⟩⟩
    · rw [M_calm, d1, if_pos hv0]
      refine ⟨rfl, .inl rfl, ?_⟩
      rw [topL_at (M_th I.th)]; simp
    · rw [topL_at (M_th I.th)]; rfl
  · refine ⟨1, M p true (p.k + 1) p.W p.gh { t with fs := [⟨3, 1, regI [slot, place] 2 v⟩] }, ⟨rfl, _, [], _, M_th I.th, rfl, by decide, hreg, (show (0 : Int) ≤ 0 ∧ (0 : Int) ≤ 100000 by decide), hRl, hOl, (show PS.Ok (M p false p.k p.W p.gh _) 900000 from M_ok' I.ok ⟨by omega, by omega⟩ I.ok.w rfl I.g), ?_⟩, .inr ⟨?_, ?_⟩⟩
    · rw [M_calm, d1, if_neg hv0]
      refine ⟨rfl, .inl rfl, ?_⟩
      rw [topL_at (M_th I.th)]; simp
    · rw [topL_at (M_th I.th)]; simp
    have hreg2 := regs_I (k := 2) hreg hvu
    have g0 : (regI [slot, place] 2 v).getD 0 0 = slot := by rw [regI_at _ _ _ _ (by omega)]; rfl
    have g1 : (regI [slot, place] 2 v).getD 1 0 = place := by rw [regI_at _ _ _ _ (by omega)]; rfl
    have g2 : (regI [slot, place] 2 v).getD 2 0 = v := by rw [regI_at _ _ _ _ (by omega)]; rfl
    generalize regI [slot, place] 2 v = rg at *
    have hpb := ptrW_bd (x := v)
    have d2 : ∀ a, hzDo (M p a (p.k + 1) p.W p.gh { t with fs := [⟨3, 1, rg⟩] }) 0 { t with fs := [⟨3, 1, rg⟩] } [] ⟨3, 1, rg⟩ = M p true (p.k + 1 + 1) (p.W.set (p.c.haz 0 slot).toNat (ptrW v)) p.gh { t with fs := [⟨3, 2, rg⟩] } := fun a => by
      unfold hzDo hzProtect
      rw [if_pos rfl, if_neg (by show ¬ (1 : Int) = 0; decide), if_pos rfl]
      show ((M p a (p.k + 1) p.W p.gh _).store (p.c.haz 0 (toI (rg.getD 0 0))) (ptrW (rg.getD 2 0))).put 0 (topped _ [] ⟨3, 2, rg⟩) = _
      rw [g0, g2, hIs, M_store hhz h1, M_put]; rfl
    have hW2 : ∀ x ∈ p.W.set (p.c.haz 0 slot).toNat (ptrW v), u64R x := mem_set_ I.ok.w ⟨by omega, by omega⟩
    have hW2l : (p.W.set (p.c.haz 0 slot).toNat (ptrW v)).length = p.W.length := by simp
    have hW2v : (p.W.set (p.c.haz 0 slot).toNat (ptrW v)).getD place.toNat 0 = v := by rw [getD_set (by omega)]; exact I.v
    refine ⟨1, M p true (p.k + 1 + 1) (p.W.set (p.c.haz 0 slot).toNat (ptrW v)) p.gh { t with fs := [⟨3, 2, rg⟩] }, ⟨rfl, _, [], _, M_th I.th, rfl, by decide, hreg2, (show (0 : Int) ≤ 1 ∧ (1 : Int) ≤ 100000 by decide), hRl, hOl, (show PS.Ok (M p false (p.k + 1) p.W p.gh _) 900000 from M_ok' I.ok ⟨by omega, by omega⟩ I.ok.w rfl I.g), ?_⟩, .inr ⟨?_, ?_⟩⟩
    · rw [M_calm, d2]
      refine ⟨rfl, .inl rfl, ?_⟩
      rw [topL_at (M_th I.th)]; simp
    · rw [topL_at (M_th I.th)]; simp
    generalize p.W.set (p.c.haz 0 slot).toNat (ptrW v) = W2 at *
    have d3 : ∀ a, hzDo (M p a (p.k + 1 + 1) W2 p.gh { t with fs := [⟨3, 2, rg⟩] }) 0 { t with fs := [⟨3, 2, rg⟩] } [] ⟨3, 2, rg⟩ = M p true (p.k + 3) W2 p.gh { t with fs := [], r := (v, 0, 0) } := fun a => by
      unfold hzDo hzProtect
      rw [if_pos rfl, if_neg (by show ¬ (2 : Int) = 0; decide), if_neg (by show ¬ (2 : Int) = 1; decide)]
      show (if (M p a (p.k + 1 + 1) W2 p.gh _).ldv (toI (rg.getD 1 0)) = rg.getD 2 0 ∨ _ then ((M p a (p.k + 1 + 1) W2 p.gh _).load (toI (rg.getD 1 0))).put 0 (popped _ [] ((M p a (p.k + 1 + 1) W2 p.gh _).ldv (toI (rg.getD 1 0)))) else _) = _
      rw [g1, g2, hIp, M_ldv (by omega), hW2v, if_pos (.inl rfl), M_load (by omega) hwg, M_put]
      show M p true (p.k + 1 + 1 + 1) _ _ _ = M p true (p.k + 3) _ _ _
      rw [show p.k + 1 + 1 + 1 = p.k + 3 by omega]; rfl
    refine ⟨1, _, ⟨rfl, _, [], _, M_th I.th, rfl, by decide, hreg2, (show (0 : Int) ≤ 2 ∧ (2 : Int) ≤ 100000 by decide), hRl, hOl, (show PS.Ok (M p false (p.k + 1 + 1) W2 p.gh _) 900000 from M_ok' I.ok ⟨by omega, by omega⟩ hW2 hW2l I.g), ?_⟩, .inl ⟨?_, rfl⟩⟩
    · rw [M_calm, d3]
      refine ⟨rfl, .inl rfl, ?_⟩
      rw [topL_at (M_th I.th)]; simp
    · rw [topL_at (M_th I.th)]; rfl
end Go.Proofs.Ytklbeipdigancaa

/- The law HazardProtects: its walk. -/
namespace Go.Proofs.Ytklbeipdigancaa
open Go.RowKit
attribute [local irreducible] Instr.loadAt Instr.storeAt Instr.fieldAt Instr.indexAt Instr.sliceAt Instr.buildSlice Instr.box Instr.alloc Builtin.append_ Builtin.len_ Builtin.min_ Builtin.max_ Calls Instr.build Instr.makeSlice binSem convert Instr.index Instr.range Instr.next
theorem Ar.hz {w w' : World} {X : Mc} {l tg : List Int} {b : Int} (h : Ar w w' X l tg b) : Hz w w' X X.abs := ⟨h.new, rfl, h.calm, h.tl⟩
theorem Hz.k_ {w w' : World} {X : Mc} {p : PS} (h : Hz w w' X p) : X.s.k = p.k := congrArg PS.k h.a
theorem Hz.c_ {w w' : World} {X : Mc} {p : PS} (h : Hz w w' X p) : X.c = p.c := congrArg PS.c h.a
theorem Hz.blk {w w' w0 : World} {X : Mc} {p : PS} {g T : Nat} {cs : Array Value} (_h : Hz w w' X p) (hb : Blk w g T cs) (hu : Upd [] w w0) : Blk w0 g T cs := hb.upd hu (by simp)
theorem Hz.to2 {w w' w'' : World} {X : Mc} {p q : PS} (h : Hz w w' X p) (e : Ev w' X w'' q) : ∃ Y, Hz w w'' Y q ∧ Y.m = X.m := h.to e
theorem ar_new2 {A T N L B P S : Int} (hr : rightC ⟨A, T, N, L, B, P, S⟩) (w : World) : Fn Try.prog 7 #[.agg (cf7 ⟨A, T, N, L, B, P, S⟩), .slice none 0 0, .bool true] w fun r w' =>
    ∃ X, r = .tuple #[ptrV X.m, .int .i64 0] ∧ Ar w w' X (freeF N.toNat (N.toNat - (sentP A).toNat)) (liveL N.toNat (sentP A).toNat) 200 ∧ X.abs.c = ⟨A, T, N, L, B, P, S⟩ ∧ (X.ths.length : Int) = T ∧ (∀ t ∈ X.ths, t.fs = [] ∧ t.R = [] ∧ t.O = []) := by
  refine (core_new2 (draws := []) true (RdK.nil_ w .u8) (by decide)).mono ?_
  rintro e w1 ⟨r, he, -, hy⟩
  obtain ⟨m, mp, mv, lv, fp, fv, gs, tv, ths, hrt, I, hT, hths, -, hgs⟩ := hy hr
  obtain ⟨gp, gv, rfl⟩ := hgs rfl
  obtain ⟨b1, b2, b3, b4, b5, b6, -⟩ := plan_bd hr
  have hall : ∀ t ∈ ths, t.fs = [] ∧ t.R = [] ∧ t.O = [] := fun t ht => by
    obtain ⟨g, pv, sv, wv, rfl⟩ := hths t ht
    exact ⟨rfl, rfl, rfl⟩
  have h0 : ths[0]? = some (ths[0]'(by omega)) := List.getElem?_eq_getElem _
  have hq := layS_q hr
  refine ⟨r, he, _, hrt, ⟨I, rep0 hr h0 (hall _ (List.getElem_mem _)).1, ⟨hq.on, hq.L⟩, ?_⟩, rfl, hT, hall⟩
  show ths.length ≤ 100
  omega
end Go.Proofs.Ytklbeipdigancaa

/- HazardClears: what Clear does alone. -/
namespace Go.Proofs.Ytklbeipdigancaa
open Go.RowKit
attribute [local irreducible] Instr.loadAt Instr.storeAt Instr.fieldAt Instr.indexAt Instr.sliceAt Instr.buildSlice Instr.box Instr.alloc Builtin.append_ Builtin.len_ Builtin.min_ Builtin.max_ Calls Instr.build Instr.makeSlice binSem convert Instr.index Instr.range Instr.next
def wW (c : Cf) (W : List Int) : Nat → List Int
  | 0 => W
  | j + 1 => (wW c W j).set (c.haz 0 (j : Int)).toNat 0
theorem wW_len (c : Cf) (W : List Int) : ∀ j, (wW c W j).length = W.length
  | 0 => rfl
  | j + 1 => by show ((wW c W j).set _ _).length = _; rw [List.length_set, wW_len c W j]
theorem wW_u (c : Cf) (W : List Int) (h : ∀ x ∈ W, u64R x) : ∀ j, ∀ x ∈ wW c W j, u64R x
  | 0 => h
  | j + 1 => mem_set_ (wW_u c W h j) (by decide)
structure WpIn (p : PS) (t : PT) : Prop where
  ok : p.Ok 800000
  th : p.ths[0]? = some t
  fs : t.fs = []
  R : t.R = []
  O : t.O = []
  g : ∃ tg, p.gh = some (tg, 0, 0) ∧ tg.length ≤ 64
  T : 1 ≤ p.c.T
theorem wipe_run {p : PS} {t : PT} (I : WpIn p t) (s : Nat) (hs : (s : Int) = p.c.slots) : ∀ (d j : Nat) (a : Bool), j + d = s →
    RunH 0 (d + 1) (M p a (p.k + j) (wW p.c p.W j) p.gh { t with fs := [⟨4, (j : Int), []⟩] }) (M p false (p.k + s) (wW p.c p.W s) p.gh { t with fs := [], r := (0, 0, 0) })
  | 0, j, a, hj => by
    obtain rfl : j = s := by omega
    have hsl : p.c.slots ≤ 14 := by
      have hr := I.ok.r
      generalize p.c = c at *
      obtain ⟨A, T, N, L, B, P, S⟩ := c
      exact (plan_bd hr).1.2
    have hk0 := I.ok.k0
    have hk1 := I.ok.k1
    refine ⟨1, _, ⟨rfl, _, [], _, M_th I.th, rfl, by decide, (fun j => (⟨by decide, by decide⟩ : u64R 0)), (show (0 : Int) ≤ (j : Int) ∧ (j : Int) ≤ 100000 by omega), by rw [show ({ t with fs := [⟨4, (j : Int), []⟩] } : PT).R = [] from I.R]; decide, by rw [show ({ t with fs := [⟨4, (j : Int), []⟩] } : PT).O = [] from I.O]; decide, (show PS.Ok (M p false (p.k + j) (wW p.c p.W j) p.gh _) 900000 from M_ok' I.ok ⟨by omega, by omega⟩ (wW_u _ _ I.ok.w j) (wW_len _ _ j) I.g), ?_⟩, .inl ⟨?_, rfl⟩⟩
    · have e : hzDo (M p false (p.k + j) (wW p.c p.W j) p.gh { t with fs := [⟨4, (j : Int), []⟩] }) 0 { t with fs := [⟨4, (j : Int), []⟩] } [] ⟨4, (j : Int), []⟩ = M p false (p.k + j) (wW p.c p.W j) p.gh { t with fs := [], r := (0, 0, 0) } := by
        unfold hzDo hzWipe
        rw [if_neg (by show ¬ (4 : Int) = 3; decide), if_pos rfl]
        refine (if_pos (show (j : Int) ≥ p.c.slots by omega)).trans ?_
        rw [M_put]
      rw [M_calm, e]
      refine ⟨rfl, .inr ?_, ?_⟩
      · rw [topL_at (M_th I.th)]; rfl
      · rw [topL_at (M_th I.th)]; simp
    · rw [topL_at (M_th I.th)]; rfl
  | d + 1, j, a, hj => by
    have hr := I.ok.r
    have hsl : p.c.slots ≤ 14 := by
      generalize p.c = c at *
      obtain ⟨A, T, N, L, B, P, S⟩ := c
      exact (plan_bd hr).1.2
    have hk0 := I.ok.k0
    have hk1 := I.ok.k1
    have hT := I.T
    obtain ⟨h1, h2, h3, h4⟩ := haz_at hr (i := 0) (k := (j : Int)) ⟨by omega, by omega⟩ ⟨by omega, by omega⟩
    have hWl := I.ok.l
    have hhz : 0 ≤ p.c.haz 0 (j : Int) ∧ p.c.haz 0 (j : Int) < (wW p.c p.W j).length := by rw [wW_len]; omega
    refine ⟨1, M p true (p.k + (j + 1 : Nat)) (wW p.c p.W (j + 1)) p.gh { t with fs := [⟨4, ((j + 1 : Nat) : Int), []⟩] }, ⟨rfl, _, [], _, M_th I.th, rfl, by decide, (fun j => (⟨by decide, by decide⟩ : u64R 0)), (show (0 : Int) ≤ (j : Int) ∧ (j : Int) ≤ 100000 by omega), by rw [show ({ t with fs := [⟨4, (j : Int), []⟩] } : PT).R = [] from I.R]; decide, by rw [show ({ t with fs := [⟨4, (j : Int), []⟩] } : PT).O = [] from I.O]; decide, (show PS.Ok (M p false (p.k + j) (wW p.c p.W j) p.gh _) 900000 from M_ok' I.ok ⟨by omega, by omega⟩ (wW_u _ _ I.ok.w j) (wW_len _ _ j) I.g), ?_⟩, .inr ⟨?_, wipe_run I s hs d (j + 1) true (by omega)⟩⟩
    · have e : hzDo (M p false (p.k + j) (wW p.c p.W j) p.gh { t with fs := [⟨4, (j : Int), []⟩] }) 0 { t with fs := [⟨4, (j : Int), []⟩] } [] ⟨4, (j : Int), []⟩ = M p true (p.k + (j + 1 : Nat)) (wW p.c p.W (j + 1)) p.gh { t with fs := [⟨4, ((j + 1 : Nat) : Int), []⟩] } := by
        unfold hzDo hzWipe
        rw [if_neg (by show ¬ (4 : Int) = 3; decide), if_pos rfl]
        refine (if_neg (show ¬ (j : Int) ≥ p.c.slots by omega)).trans ?_
        show ((M p false (p.k + j) (wW p.c p.W j) p.gh _).store (p.c.haz 0 (j : Int)) 0).put 0 (topped _ [] ⟨4, (j : Int) + 1, []⟩) = _
        rw [M_store hhz h1, M_put, show p.k + ((j + 1 : Nat) : Int) = p.k + j + 1 by omega]; rfl
      rw [M_calm, e]
      refine ⟨rfl, .inl rfl, ?_⟩
      rw [topL_at (M_th I.th)]; simp
    · rw [topL_at (M_th I.th)]; simp
theorem wipe_spec {p : PS} {t : PT} (I : WpIn p t) : RunH 0 (p.c.slots.toNat + 1) (pushH p 0 4 []) (M p false (p.k + p.c.slots) (wW p.c p.W p.c.slots.toNat) p.gh { t with fs := [], r := (0, 0, 0) }) := by
  have hsl : 2 ≤ p.c.slots := by
    have hr := I.ok.r
    generalize p.c = c at *
    obtain ⟨A, T, N, L, B, P, S⟩ := c
    exact (plan_bd hr).1.1
  have e0 : pushH p 0 4 [] = M p p.acted (p.k + (0 : Nat)) (wW p.c p.W 0) p.gh { t with fs := [⟨4, ((0 : Nat) : Int), []⟩] } := by
    unfold pushH
    rw [I.th]
    show p.put 0 { t with fs := t.fs ++ [⟨4, 0, []⟩] } = _
    rw [I.fs]
    show _ = M p p.acted (p.k + 0) p.W p.gh _
    rw [Int.add_zero]; rfl
  rw [e0]
  have := wipe_run I p.c.slots.toNat (by omega) p.c.slots.toNat 0 p.acted (by omega)
  rw [show (p.c.slots.toNat : Int) = p.c.slots by omega] at this
  exact this
end Go.Proofs.Ytklbeipdigancaa

/- The law HazardClears: its walk. -/
namespace Go.Proofs.Ytklbeipdigancaa
open Go.RowKit
attribute [local irreducible] Instr.loadAt Instr.storeAt Instr.fieldAt Instr.indexAt Instr.sliceAt Instr.buildSlice Instr.box Instr.alloc Builtin.append_ Builtin.len_ Builtin.min_ Builtin.max_ Calls Instr.build Instr.makeSlice binSem convert Instr.index Instr.range Instr.next
def fillW (W vs : List Int) : Nat → List Int
  | 0 => W
  | i + 1 => (fillW W vs i).set (8 + i) (vs.getD i 0)
theorem fillW_len (W vs : List Int) : ∀ i, (fillW W vs i).length = W.length
  | 0 => rfl
  | i + 1 => by show ((fillW W vs i).set _ _).length = _; rw [List.length_set, fillW_len W vs i]
theorem fillW_u (W vs : List Int) (h : ∀ x ∈ W, u64R x) (hv : ∀ i, u64R (vs.getD i 0)) : ∀ i, ∀ x ∈ fillW W vs i, u64R x
  | 0 => h
  | i + 1 => mem_set_ (fillW_u W vs h hv i) (hv i)
theorem fillW_at (W vs : List Int) (j : Nat) : ∀ i, 8 + i ≤ W.length → (fillW W vs i).getD (8 + j) 0 = if j < i then vs.getD j 0 else W.getD (8 + j) 0
  | 0, _ => by rw [if_neg (by omega)]; rfl
  | i + 1, h => by
    show ((fillW W vs i).set (8 + i) (vs.getD i 0)).getD (8 + j) 0 = _
    by_cases hj : i = j
    · subst hj
      rw [setD_self (by rw [fillW_len]; omega), if_pos (by omega)]
    · rw [getD_set (by omega), fillW_at W vs j i (by omega)]
      by_cases h1 : j < i
      · rw [if_pos h1, if_pos (by omega)]
      · rw [if_neg h1, if_neg (by omega)]
theorem wW_at {c : Cf} (hr : rightC c) (hT : 1 ≤ c.T) (W : List Int) (hW : W.length = (sizeP c.A c.T c.N c.L).toNat) (j : Nat) : ∀ s : Nat, (s : Int) ≤ c.slots → (wW c W s).getD (8 + j) 0 = if j < s then 0 else W.getD (8 + j) 0
  | 0, _ => by rw [if_neg (by omega)]; rfl
  | s + 1, h => by
    obtain ⟨h1, h2, h3, h4⟩ := haz_at hr (i := 0) (k := (s : Int)) ⟨by omega, by omega⟩ ⟨by omega, by omega⟩
    rw [Int.zero_mul] at h4
    have e : (c.haz 0 (s : Int)).toNat = 8 + s := by omega
    show ((wW c W s).set (c.haz 0 (s : Int)).toNat 0).getD (8 + j) 0 = _
    rw [e]
    by_cases hj : s = j
    · subst hj
      rw [setD_self (by rw [wW_len]; omega), if_pos (by omega)]
    · rw [getD_set (by omega), wW_at hr hT W hW j s (by omega)]
      by_cases h1 : j < s
      · rw [if_pos h1, if_pos (by omega)]
      · rw [if_neg h1, if_neg (by omega)]
theorem haz_lin {c : Cf} (hr : rightC c) {i : Int} (hi : 0 ≤ i ∧ i < c.slots * c.T) : c.haz (i.tdiv c.slots) (i.tmod c.slots) = 8 + i := by
  have hs : 2 ≤ c.slots := by
    generalize c = d at *
    obtain ⟨A, T, N, L, B, P, S⟩ := d
    exact (plan_bd hr).1.1
  have h1 : i.tdiv c.slots = i / c.slots := Int.tdiv_eq_ediv_of_nonneg hi.1
  have h2 : i.tmod c.slots = i % c.slots := Int.tmod_eq_emod_of_nonneg hi.1
  have h3 : 0 ≤ i / c.slots := Int.ediv_nonneg hi.1 (by omega)
  have h4 : i / c.slots < c.T := Int.ediv_lt_of_lt_mul (by omega) (by rw [Int.mul_comm]; exact hi.2)
  have h5 : 0 ≤ i % c.slots := Int.emod_nonneg _ (by omega)
  have h6 : i % c.slots < c.slots := Int.emod_lt_of_pos _ (by omega)
  obtain ⟨-, -, -, h7⟩ := haz_at hr (i := i / c.slots) (k := i % c.slots) ⟨h3, h4⟩ ⟨h5, h6⟩
  rw [h1, h2, h7]
  have := Int.emod_add_mul_ediv i c.slots
  rw [Int.mul_comm] at this
  omega
end Go.Proofs.Ytklbeipdigancaa

/- The law HazardClears: its walk. -/
namespace Go.Proofs.Ytklbeipdigancaa
open Go.RowKit
attribute [local irreducible] Instr.loadAt Instr.storeAt Instr.fieldAt Instr.indexAt Instr.sliceAt Instr.buildSlice Instr.box Instr.alloc Builtin.append_ Builtin.len_ Builtin.min_ Builtin.max_ Calls Instr.build Instr.makeSlice binSem convert Instr.index Instr.range Instr.next
structure Cl (w0 w : World) (X0 X : Mc) (W : List Int) (k : Int) (g6 : Nat) (c : Cf) : Prop where
  h : Hz w0 w X { X0.abs with W := W, k := k }
  a : Aside w X g6 TPn (planC c)
  m : X.m = X0.m
theorem Cl.upd0 {w0 w w' : World} {X0 X : Mc} {W : List Int} {k : Int} {g6 : Nat} {c : Cf} (h : Cl w0 w X0 X W k g6 c) (hu : Upd [] w w') : Cl w0 w' X0 X W k g6 c := ⟨h.h.upd0 hu, h.a.upd0 hu, h.m⟩
theorem ar_new3 {A T N L B P S : Int} (hr : rightC ⟨A, T, N, L, B, P, S⟩) (w : World) : Fn Try.prog 7 #[.agg (cf7 ⟨A, T, N, L, B, P, S⟩), .slice none 0 0, .bool true] w fun r w' =>
    ∃ X, r = .tuple #[ptrV X.m, .int .i64 0] ∧ Ar w w' X (freeF N.toNat (N.toNat - (sentP A).toNat)) (liveL N.toNat (sentP A).toNat) 200 ∧ X.abs.c = ⟨A, T, N, L, B, P, S⟩ ∧ (X.ths.length : Int) = T ∧ (∀ t ∈ X.ths, t.fs = [] ∧ t.R = [] ∧ t.O = []) ∧ X.abs.W = (layS A T N L (newMS (sizeP A T N L).toNat)).W := by
  refine (core_new2 (draws := []) true (RdK.nil_ w .u8) (by decide)).mono ?_
  rintro e w1 ⟨r, he, -, hy⟩
  obtain ⟨m, mp, mv, lv, fp, fv, gs, tv, ths, hrt, I, hT, hths, -, hgs⟩ := hy hr
  obtain ⟨gp, gv, rfl⟩ := hgs rfl
  obtain ⟨b1, b2, b3, b4, b5, b6, -⟩ := plan_bd hr
  have hall : ∀ t ∈ ths, t.fs = [] ∧ t.R = [] ∧ t.O = [] := fun t ht => by
    obtain ⟨g, pv, sv, wv, rfl⟩ := hths t ht
    exact ⟨rfl, rfl, rfl⟩
  have h0 : ths[0]? = some (ths[0]'(by omega)) := List.getElem?_eq_getElem _
  have hq := layS_q hr
  refine ⟨r, he, _, hrt, ⟨I, rep0 hr h0 (hall _ (List.getElem_mem _)).1, ⟨hq.on, hq.L⟩, ?_⟩, rfl, hT, hall, rfl⟩
  show ths.length ≤ 100
  omega
theorem haz0 {A T N L B P S : Int} (hr : rightC ⟨A, T, N, L, B, P, S⟩) (j : Nat) (hj : (j : Int) < slotsP A L * T) : (layS A T N L (newMS (sizeP A T N L).toNat)).W.getD (8 + j) 0 = 0 := by
  obtain ⟨t, n, l, sl, wd, nt, se, U⟩ := nums hr
  have h1 := U.sl_; have h2 := U.eT
  have h3 : j < t * sl := by
    rw [h1, h2] at hj
    have : (j : Int) < ((t * sl : Nat) : Int) := by rw [Int.natCast_mul, Int.mul_comm]; exact hj
    omega
  rw [W_at hr U (8 + j) (by omega)]
  unfold spAt
  rw [if_neg (by omega), if_pos (by omega), fw1]
end Go.Proofs.Ytklbeipdigancaa

/- HazardScans: the arena's routines under hazard.Do. -/
namespace Go.Proofs.Ytklbeipdigancaa
open Go.RowKit
attribute [local irreducible] Instr.loadAt Instr.storeAt Instr.fieldAt Instr.indexAt Instr.sliceAt Instr.buildSlice Instr.box Instr.alloc Builtin.append_ Builtin.len_ Builtin.min_ Builtin.max_ Calls Instr.build Instr.makeSlice binSem convert Instr.index Instr.range Instr.next
theorem arDo_th2 {p : PS} {i : Nat} {t0 : PT} (h : p.ths[i]? = some t0) (fs : List Fr) (f : Fr) : ∃ t', (arDo p i t0 fs f).ths[i]? = some t' ∧ (t'.fs = fs ∨ ∃ f', t'.fs = fs ++ [f'] ∧ 0 ≤ f'.pc ∧ f'.pc ≤ 2) ∧ t'.R = t0.R ∧ t'.O = t0.O := by
  unfold arDo
  split
  · unfold arAlloc
    split
    · split
      · exact ⟨_, put_th h, .inl rfl, rfl, rfl⟩
      · exact ⟨_, put_th h, .inr ⟨_, rfl, by simp, by simp⟩, rfl, rfl⟩
    · split
      · exact ⟨_, put_th h, .inr ⟨_, rfl, by simp, by simp⟩, rfl, rfl⟩
      · split
        · exact ⟨_, put_th h, .inl rfl, rfl, rfl⟩
        · exact ⟨_, put_th h, .inr ⟨_, rfl, by simp, by simp⟩, rfl, rfl⟩
  · split
    · unfold arRelease
      split
      · exact ⟨_, put_th h, .inr ⟨_, rfl, by simp, by simp⟩, rfl, rfl⟩
      · split
        · exact ⟨_, put_th h, .inr ⟨_, rfl, by simp, by simp⟩, rfl, rfl⟩
        · split
          · exact ⟨_, put_th h, .inl rfl, rfl, rfl⟩
          · exact ⟨_, put_th h, .inr ⟨_, rfl, by simp, by simp⟩, rfl, rfl⟩
    · exact ⟨_, put_th h, .inl rfl, rfl, rfl⟩
theorem hzDo_ar {p : PS} {i : Nat} {t : PT} {fs : List Fr} {f : Fr} (hf : f.fn = 1 ∨ f.fn = 2) : hzDo p i t fs f = arDo p i t fs f := by
  unfold hzDo
  rw [if_neg (by omega), if_neg (by omega), if_neg (by omega), if_neg (by omega)]
/-- what was said of the arena's Do holds of hazard's -/
theorem Runs.runH : ∀ {n : Nat} {p q : PS} {t : PT}, Runs (n + 1) p q → p.ths[0]? = some t → t.R.length ≤ 90000 → t.O.length ≤ 90000 → (∀ f ∈ t.fs, 0 ≤ f.pc ∧ f.pc ≤ 100000) → RunH 0 (n + 1) p q
  | n, p, q, t, ⟨t', f, h1, h2, h3, h4, h5, hr⟩, ht, hR, hO, hpc => by
    rw [ht] at h1
    obtain rfl := Option.some.inj h1
    have hth : (calm0 p).ths[0]? = some t := ht
    obtain ⟨t2, e1, e2, e3, e4⟩ := arDo_th2 hth [] f
    have hac := arDo_acted (calm0 p) 0 t [] h4
    have htop : topL (arDo (calm0 p) 0 t [] f) 0 ≤ 90000 := by
      rw [topL_at e1]
      rcases e2 with e | ⟨f', e, -⟩
      · rw [e]; decide
      · rw [e]; simp
    have hrd : Rnd 0 1 (calm0 p) (arDo (calm0 p) 0 t [] f) := ⟨rfl, t, [], f, hth, h2, by decide, h3, hpc f (by rw [h2]; simp), hR, hO, h5.calm, by rw [hzDo_ar h4]; exact ⟨rfl, .inl hac, htop⟩⟩
    refine ⟨1, _, hrd, ?_⟩
    cases n with
    | zero => exact .inl ⟨by rw [hr.1]; exact hr.2, hr.1⟩
    | succ n =>
      refine .inr ⟨by have := hr.top; rw [if_neg (by omega)] at this; omega, Runs.runH hr e1 (by rw [e3]; exact hR) (by rw [e4]; exact hO) (fun f' hf' => ?_)⟩
      rcases e2 with e | ⟨f2, e, e5, e6⟩
      · rw [e] at hf'; cases hf'
      · rw [e] at hf'
        have : f' = f2 := by simpa using hf'
        rw [this]; omega
end Go.Proofs.Ytklbeipdigancaa

/- HazardScans: a scan, done alone (plain). -/
namespace Go.Proofs.Ytklbeipdigancaa
open Go.RowKit
attribute [local irreducible] Instr.loadAt Instr.storeAt Instr.fieldAt Instr.indexAt Instr.sliceAt Instr.buildSlice Instr.box Instr.alloc Builtin.append_ Builtin.len_ Builtin.min_ Builtin.max_ Calls Instr.build Instr.makeSlice binSem convert Instr.index Instr.range Instr.next
theorem RunH.step {n m : Nat} {p p1 q : PS} (h : Rnd 0 m (calm0 p) p1) (ht : 0 < topL p1 0) (hr : RunH 0 n p1 q) : RunH 0 (n + 1) p q := ⟨m, p1, h, .inr ⟨ht, hr⟩⟩
theorem RunH.last {m : Nat} {p q : PS} (h : Rnd 0 m (calm0 p) q) (ht : topL q 0 = 0) : RunH 0 1 p q := ⟨m, q, h, .inl ⟨ht, rfl⟩⟩
theorem RunH.again {n : Nat} {p p2 q : PS} (h : RunH 0 (n + 1) p q) (e : calm0 p2 = calm0 p) : RunH 0 (n + 1) p2 q := by
  obtain ⟨m, p', h1, h2⟩ := h
  exact ⟨m, p', by rw [e]; exact h1, h2⟩
/-- memory, free list and tags, beside a machine as at first -/
structure Rw (p : PS) (W free tg : List Int) : Prop where
  u : ∀ x ∈ W, u64R x
  l : W.length = p.W.length
  lk : Lk p.c W (ptrW (W.getD 0 0)) free
  nd : free.Nodup
  tag : ∀ x ∈ free, tg.getD (x - 1).toNat 0 = 0
  tl : (tg.length : Int) = p.c.N
/-- a machine that stands by -/
structure Bse (p : PS) : Prop where
  ok : p.Ok 1000
  th : ∃ t, p.ths[0]? = some t
  T : 1 ≤ p.c.T
  bad : p.bad = false
section
variable {p : PS} {W W' free tg tg' : List Int} {k k' : Int} {t t' : PT} {a a' : Bool}
theorem Rw.ok (I : Rw p W free tg) (B : Bse p) (hk : 0 ≤ k ∧ k ≤ 900000) : (M p a k W (some (tg, 0, 0)) t).Ok 900000 :=
  M_ok B.ok hk I.u I.l (by have := I.tl; have := N_bd B.ok.r; omega) 0 0
/-- one round -/
theorem rndM (B : Bse p) (I : Rw p W free tg) (hk : 0 ≤ k ∧ k ≤ 900000) {fs : List Fr} {f : Fr} (hfs : t.fs = fs ++ [f]) (hl : fs.length ≤ 1000) (hR : ∀ j, u64R (f.R.getD j 0)) (hpc : 0 ≤ f.pc ∧ f.pc ≤ 100000) (hRl : t.R.length ≤ 1000) (hOl : t.O.length ≤ 1000) {m : Nat} {q : PS} (h : Rnd 0 m (hzDo (M p false k W (some (tg, 0, 0)) t) 0 t fs f) q) :
    Rnd 0 (m + 1) (calm0 (M p a k W (some (tg, 0, 0)) t)) q := by
  obtain ⟨t0, ht0⟩ := B.th
  exact ⟨rfl, t, fs, f, M_th ht0, hfs, by omega, hR, hpc, by omega, by omega, I.ok B hk, h⟩
theorem rnd0 (B : Bse p) {gh : Option (List Int × Int × Int)} (ha : a = true ∨ t.fs = []) (hl : t.fs.length ≤ 1000) : Rnd 0 0 (M p a k W gh t) (M p a k W gh t) := by
  obtain ⟨t0, ht0⟩ := B.th
  refine ⟨rfl, ?_, by rw [topL_at (M_th ht0)]; omega⟩
  rcases ha with h | h
  · exact .inl h
  · right; rw [topL_at (M_th ht0), h]; rfl
theorem topM (B : Bse p) {gh : Option (List Int × Int × Int)} : topL (M p a k W gh t) 0 = t.fs.length := by
  obtain ⟨t0, ht0⟩ := B.th
  rw [topL_at (M_th ht0)]
theorem regs_0 : ∀ j, u64R (([] : List Int).getD j 0) := fun j => by
  have : ([] : List Int).getD j 0 = 0 := by simp [List.getD]
  rw [this]; exact ⟨by decide, by decide⟩
theorem hz2 {p : PS} {i : Nat} {t : PT} {fs : List Fr} {f : Fr} (hf : f.fn = 2) : hzDo p i t fs f = arRelease p i t fs f := by
  rw [hzDo_ar (.inr hf)]
  unfold arDo
  rw [if_neg (by omega), if_pos hf]
theorem link_hi {c : Cf} (hr : rightC c) {x : Int} (hx : 1 ≤ x ∧ x ≤ c.N) : linksP c.A c.T c.L ≤ c.link x := by
  unfold Cf.link linkA
  rw [if_pos hx]; omega
set_option maxHeartbeats 1000000 in
/-- a node is released, under frames -/
theorem rel3 (B : Bse p) (I : Rw p W free tg) (hk : 0 ≤ k ∧ k ≤ 800000) {x : Int} (hx : 1 ≤ x ∧ x ≤ p.c.N) (htx : tg.getD (x - 1).toNat 0 = 2) (fs : List Fr) (hf0 : fs ≠ []) (hfl : fs.length ≤ 100) (hRl : t.R.length ≤ 1000) (hOl : t.O.length ≤ 1000) :
    ∃ W' r1, hzDo (M p false k W (some (tg, 0, 0)) { t with fs := fs ++ [⟨2, 0, [x]⟩] }) 0 { t with fs := fs ++ [⟨2, 0, [x]⟩] } fs ⟨2, 0, [x]⟩ = M p true (k + 1) W (some (tg, 0, 0)) { t with fs := fs ++ [⟨2, 1, r1⟩] } ∧
      (∀ n q, RunH 0 n (M p true (k + 3) W' (some (tg.set (x - 1).toNat 0, 0, 0)) { t with fs := fs, r := (x, 0, 0) }) q → RunH 0 (n + 2) (M p true (k + 1) W (some (tg, 0, 0)) { t with fs := fs ++ [⟨2, 1, r1⟩] }) q) ∧
      Rw p W' (x :: free) (tg.set (x - 1).toNat 0) ∧ ∀ j : Nat, 8 ≤ j → (j : Int) < linksP p.c.A p.c.T p.c.L → W'.getD j 0 = W.getD j 0 := by
  have hr := B.ok.r
  have hz := size_bd hr
  have hW := B.ok.l
  have hWl := I.l
  have hlk := I.lk
  obtain ⟨w1, w2, w3⟩ := where_link hr hx
  have hlh := link_hi hr hx
  have hNb := N_bd hr
  have w0 := where_0 hr
  have h0l : 0 ≤ (0 : Int) ∧ (0 : Int) < W.length := by omega
  have hl1 : 0 ≤ p.c.link x ∧ p.c.link x < W.length := by omega
  have htl := I.tl
  have hu0 := u64_getD I.u 0
  have hsm := hlk.small hr
  have h0' : W.getD (0 : Int).toNat 0 = W.getD 0 0 := rfl
  have hxI : toI x = x := toI_small (by omega)
  have hnm : x ∉ free := fun h => by rw [I.tag x h] at htx; exact absurd htx (by decide)
  have hpu : u64R (ptrW (W.getD 0 0)) := ⟨by omega, by omega⟩
  have hW2 : ∀ z ∈ W.set (p.c.link x).toNat (ptrW (W.getD 0 0)), u64R z := mem_set_ I.u hpu
  have hx1 : u64R x := ⟨by omega, by omega⟩
  have hr1 := regs_I (k := 1) (regs_1 hx1) hu0
  have g0 : (regI [x] 1 (W.getD 0 0)).getD 0 0 = x := by rw [regI_at _ _ _ _ (by omega)]; rfl
  have g1 : (regI [x] 1 (W.getD 0 0)).getD 1 0 = W.getD 0 0 := by rw [regI_at _ _ _ _ (by omega)]; rfl
  refine ⟨(W.set (p.c.link x).toNat (ptrW (W.getD 0 0))).set 0 (nextW (W.getD 0 0) x), regI [x] 1 (W.getD 0 0), ?_, ?_, ?_, ?_⟩
  · rw [hz2 rfl]
    unfold arRelease
    rw [if_pos rfl, M_ldv h0l, h0', M_load h0l w0, M_put]; rfl
  · intro n q hrun
    generalize regI [x] 1 (W.getD 0 0) = rg at *
    have hl2 : (W.set (p.c.link x).toNat (ptrW (W.getD 0 0))).length = W.length := by simp
    have h02 : (W.set (p.c.link x).toNat (ptrW (W.getD 0 0))).getD 0 0 = W.getD 0 0 := getD_set (by omega)
    have h02' : (W.set (p.c.link x).toNat (ptrW (W.getD 0 0))).getD (0 : Int).toNat 0 = W.getD 0 0 := h02
    have I2 : Rw p (W.set (p.c.link x).toNat (ptrW (W.getD 0 0))) free tg := ⟨hW2, hl2.trans hWl, by
      rw [h02]
      exact hlk.set fun z hz e => by
        have h1 := (where_link hr (hlk.mem z hz)).2
        have := link_inj (hlk.mem z hz) hx (by omega)
        exact hnm (by rw [← this]; exact hz), I.nd, I.tag, I.tl⟩
    have s2 : hzDo (M p false (k + 1) W (some (tg, 0, 0)) { t with fs := fs ++ [⟨2, 1, rg⟩] }) 0 { t with fs := fs ++ [⟨2, 1, rg⟩] } fs ⟨2, 1, rg⟩ = M p true (k + 1 + 1) (W.set (p.c.link x).toNat (ptrW (W.getD 0 0))) (some (tg, 0, 0)) { t with fs := fs ++ [⟨2, 2, rg⟩] } := by
      rw [hz2 rfl]
      unfold arRelease
      rw [if_neg (by show ¬ (1 : Int) = 0; decide), if_pos rfl]
      show ((M p false (k + 1) W (some (tg, 0, 0)) _).store (p.c.link (toI (rg.getD 0 0))) (ptrW (rg.getD 1 0))).put 0 (topped _ fs ⟨2, 2, rg⟩) = _
      rw [g0, g1, hxI, M_store hl1 w1, M_put]; rfl
    have S2 := rndM (a := true) (m := 0) B I (k := k + 1) (t := { t with fs := fs ++ [⟨2, 1, rg⟩] }) (by omega) (fs := fs) (f := ⟨2, 1, rg⟩) rfl (by omega) hr1 (by show 0 ≤ (1 : Int) ∧ (1 : Int) ≤ 100000; decide) hRl hOl (by rw [s2]; exact rnd0 B (.inl rfl) (by show (fs ++ [_]).length ≤ 1000; simp; omega))
    refine RunH.step (n := n + 1) S2 (by rw [topM B]; simp) ?_
    generalize hW2e : W.set (p.c.link x).toNat (ptrW (W.getD 0 0)) = W2 at *
    have hcv : ∀ t', (M p false (k + 1 + 1) W2 (some (tg, 0, 0)) t').casv 0 (W.getD 0 0) = true := fun t' => by rw [← h02']; exact M_casv (by omega)
    have hcs : ∀ t', (M p false (k + 1 + 1) W2 (some (tg, 0, 0)) t').cas 0 (W.getD 0 0) (nextW (W.getD 0 0) x) = M p true (k + 1 + 1 + 1) (W2.set 0 (nextW (W.getD 0 0) x)) (some (tg, 0, 0)) t' := fun t' => by
      have := M_cas (p := p) (a := false) (k := k + 1 + 1) (W := W2) (gh := some (tg, 0, 0)) (t := t') (x := 0) (y := nextW (W.getD 0 0) x) (by omega) w0
      rw [h02'] at this
      exact this
    have hxw : IntKind.u64.wrap x = x := by rw [IntKind.wrap_u64]; omega
    have s3 : hzDo (M p false (k + 1 + 1) W2 (some (tg, 0, 0)) { t with fs := fs ++ [⟨2, 2, rg⟩] }) 0 { t with fs := fs ++ [⟨2, 2, rg⟩] } fs ⟨2, 2, rg⟩ = M p true (k + 3) (W2.set 0 (nextW (W.getD 0 0) x)) (some (tg.set (x - 1).toNat 0, 0, 0)) { t with fs := fs, r := (x, 0, 0) } := by
      rw [hz2 rfl]
      unfold arRelease
      rw [if_neg (by show ¬ (2 : Int) = 0; decide), if_neg (by show ¬ (2 : Int) = 1; decide)]
      show (if (M p false (k + 1 + 1) W2 (some (tg, 0, 0)) _).casv 0 (rg.getD 1 0) = true then (((M p false (k + 1 + 1) W2 (some (tg, 0, 0)) _).cas 0 (rg.getD 1 0) (nextW (rg.getD 1 0) (toI (rg.getD 0 0)))).deed (toI (rg.getD 0 0)) 2 0 3).put 0 (popped _ fs (IntKind.u64.wrap (toI (rg.getD 0 0)))) else _) = _
      rw [g0, g1, hxI, if_pos (hcv _), hcs, M_deed (by omega) htx, M_put, hxw]
      show M p true (k + 1 + 1 + 1) _ _ _ = M p true (k + 3) _ _ _
      rw [show k + 1 + 1 + 1 = k + 3 by omega]; rfl
    have S3 := rndM (a := true) (m := 0) B I2 (k := k + 1 + 1) (t := { t with fs := fs ++ [⟨2, 2, rg⟩] }) (by omega) (fs := fs) (f := ⟨2, 2, rg⟩) rfl (by omega) hr1 (by show 0 ≤ (2 : Int) ∧ (2 : Int) ≤ 100000; decide) hRl hOl (by rw [s3]; exact rnd0 B (.inl rfl) (by show fs.length ≤ 1000; omega))
    exact RunH.step S3 (by rw [topM B]; exact List.length_pos_iff.2 hf0) hrun
  · refine ⟨mem_set_ hW2 nextW_bd, by simp; exact hWl, ?_, List.nodup_cons.2 ⟨hnm, I.nd⟩, fun z hz => ?_, by simp; exact htl⟩
    · rw [setD_self (by simp; omega), ptr_next (by omega)]
      refine ⟨rfl, hx, ?_⟩
      rw [getD_set (by omega), setD_self (by omega), toI_small hsm]
      refine (hlk.set fun z hz => ?_).set fun z hz => ?_
      · intro e
        have h1 := (where_link hr (hlk.mem z hz)).2
        have := link_inj (hlk.mem z hz) hx (by omega)
        exact hnm (by rw [← this]; exact hz)
      · have := (where_link hr (hlk.mem z hz)).2
        omega
    · rcases List.mem_cons.1 hz with e | e
      · rw [e, setD_self (by omega)]
      · have h1 := hlk.mem z e
        have h2 : x ≠ z := fun h => hnm (by rw [h]; exact e)
        rw [getD_set (by omega)]
        exact I.tag z e
  · intro j h1 h2
    rw [getD_set (by omega), getD_set (by omega)]
/-- tags of nodes that become free -/
def clr (tg : List Int) : List Int → List Int
  | [] => tg
  | x :: l => clr (tg.set (x - 1).toNat 0) l
theorem clr_len (l : List Int) : ∀ tg : List Int, (clr tg l).length = tg.length := by
  induction l with
  | nil => intro tg; rfl
  | cons x l ih => intro tg; show (clr (tg.set _ _) l).length = _; rw [ih, List.length_set]
theorem hz6 {p : PS} {i : Nat} {t : PT} {fs : List Fr} {f : Fr} (hf : f.fn = 6) : hzDo p i t fs f = hzScan p i t fs f := by
  unfold hzDo
  rw [if_neg (by omega), if_neg (by omega), if_neg (by omega), if_pos hf]
/-- nodes are released, one by one -/
theorem rel_loop (B : Bse p) {pcE : Int} (hpcE : pcE = p.c.slots * p.c.T + 1 ∧ 0 ≤ pcE ∧ pcE ≤ 1000) : ∀ (out : List Int) {W free tg : List Int} {k : Int} {a : Bool} {t1 t2 : PT} {f1 : Fr}, Rw p W free tg → 0 ≤ k → k + 3 * out.length ≤ 700000 → (∀ x ∈ out, (1 ≤ x ∧ x ≤ p.c.N) ∧ tg.getD (x - 1).toNat 0 = 2) → out.Nodup → t1.fs = [f1] →
    (∀ j, u64R (f1.R.getD j 0)) → (0 ≤ f1.pc ∧ f1.pc ≤ 100000) → t1.R.length ≤ 1000 → t1.O.length ≤ 1000 → t2.R.length ≤ 1000 → out.length ≤ 1000 →
    hzDo (M p false k W (some (tg, 0, 0)) t1) 0 t1 [] f1 = scEnd (M p false k W (some (tg, 0, 0)) t1) 0 t2 [] ⟨6, pcE, []⟩ out →
    ∃ W', RunH 0 (3 * out.length + 1) (M p a k W (some (tg, 0, 0)) t1) (M p false (k + 3 * out.length) W' (some (clr tg out, 0, 0)) { t2 with fs := [], r := (0, 0, 0), O := [] }) ∧ Rw p W' (out.reverse ++ free) (clr tg out) ∧ ∀ j : Nat, 8 ≤ j → (j : Int) < linksP p.c.A p.c.T p.c.L → W'.getD j 0 = W.getD j 0
  | [], W, free, tg, k, a, t1, t2, f1, I, hk0, hk1, _, _, hf, hR, hpc, hRl, hOl, _, _, e => by
    refine ⟨W, ?_, I, fun j _ _ => rfl⟩
    have e2 : scEnd (M p false k W (some (tg, 0, 0)) t1) 0 t2 [] ⟨6, pcE, []⟩ [] = M p false k W (some (tg, 0, 0)) { t2 with fs := [], r := (0, 0, 0), O := [] } := by
      unfold scEnd; rw [M_put]
    rw [e2] at e
    have hk1' : k ≤ 700000 := by have : k + 3 * (([] : List Int).length : Int) = k := by simp
                                 omega
    have S := rndM (a := a) (m := 0) B I (k := k) (t := t1) (by omega) (fs := []) (f := f1) hf (by decide) hR hpc hRl hOl (by rw [e]; exact rnd0 B (.inr rfl) (by simp))
    have := RunH.last S (by rw [topM B]; rfl)
    show RunH 0 1 _ (M p false (k + 3 * ((0 : Nat) : Int)) W _ _)
    rw [show k + 3 * ((0 : Nat) : Int) = k by omega]
    exact this
  | x :: O, W, free, tg, k, a, t1, t2, f1, I, hk0, hk1, hall, hnd, hf, hR, hpc, hRl, hOl, hRl2, hlen, e => by
    have hlen1 : ((x :: O).length : Int) = (O.length : Int) + 1 := by simp
    obtain ⟨hx, htx⟩ := hall x List.mem_cons_self
    have hxw : IntKind.u64.wrap x = x := by have := N_bd B.ok.r; rw [IntKind.wrap_u64]; omega
    have e2 : scEnd (M p false k W (some (tg, 0, 0)) t1) 0 t2 [] ⟨6, pcE, []⟩ (x :: O) = M p false k W (some (tg, 0, 0)) { { t2 with O := O } with fs := [⟨6, pcE, []⟩] ++ [⟨2, 0, [x]⟩] } := by
      show (M p false k W (some (tg, 0, 0)) t1).put 0 { t2 with fs := [] ++ [⟨6, pcE, []⟩] ++ [⟨2, 0, [IntKind.u64.wrap x]⟩], O := O } = _
      rw [M_put, hxw]; rfl
    rw [e2] at e
    have hOl2 : O.length ≤ 1000 := by simp at hlen; omega
    obtain ⟨W1, r1, c1, c2, c3, c4⟩ := rel3 B I (k := k) ⟨hk0, by omega⟩ hx htx (t := { t2 with O := O }) [⟨6, pcE, []⟩] (by simp) (by simp) hRl2 hOl2
    obtain ⟨hnx, hnd2⟩ := List.nodup_cons.1 hnd
    obtain ⟨W', d1, d2, d3⟩ := rel_loop B hpcE O (W := W1) (free := x :: free) (tg := tg.set (x - 1).toNat 0) (k := k + 3) (a := true) (t1 := { t2 with O := O, fs := [⟨6, pcE, []⟩], r := (x, 0, 0) }) (t2 := { t2 with O := O, fs := [⟨6, pcE, []⟩], r := (x, 0, 0) }) (f1 := ⟨6, pcE, []⟩) c3 (by omega) (by omega) (fun y hy => by
      obtain ⟨h1, h2⟩ := hall y (List.mem_cons_of_mem _ hy)
      refine ⟨h1, ?_⟩
      have hne : x ≠ y := fun h => hnx (by rw [h]; exact hy)
      rw [getD_set (by omega)]; exact h2) hnd2 rfl regs_0 (by show 0 ≤ pcE ∧ pcE ≤ 100000; omega) hRl2 hOl2 hRl2 hOl2 (by
      rw [hz6 rfl]
      unfold hzScan
      show (if pcE < p.c.slots * p.c.T then _ else if pcE = p.c.slots * p.c.T then _ else _) = _
      rw [if_neg (by omega), if_neg (by omega)])
    refine ⟨W', ?_, ?_, fun j h1 h2 => by rw [d3 j h1 h2, c4 j h1 h2]⟩
    · have S : Rnd 0 2 (calm0 (M p a k W (some (tg, 0, 0)) t1)) (M p true (k + 1) W (some (tg, 0, 0)) { { t2 with O := O } with fs := [⟨6, pcE, []⟩] ++ [⟨2, 1, r1⟩] }) := by
        refine rndM (a := a) (m := 1) B I (k := k) (t := t1) (by omega) (fs := []) (f := f1) hf (by decide) hR hpc hRl hOl ?_
        rw [e]
        refine rndM (a := false) (m := 0) B I (k := k) (t := { { t2 with O := O } with fs := [⟨6, pcE, []⟩] ++ [⟨2, 0, [x]⟩] }) (by omega) (fs := [⟨6, pcE, []⟩]) (f := ⟨2, 0, [x]⟩) rfl (by simp) (regs_1 ⟨by omega, by have := N_bd B.ok.r; omega⟩) (by show 0 ≤ (0 : Int) ∧ (0 : Int) ≤ 100000; decide) hRl2 hOl2 ?_
        rw [c1]
        exact rnd0 B (.inl rfl) (by simp)
      have hc := c2 (3 * O.length + 1) _ d1
      have hs := RunH.step S (by rw [topM B]; simp) hc
      rw [show 3 * (x :: O).length + 1 = 3 * O.length + 1 + 2 + 1 by simp; omega, hlen1, show k + 3 * ((O.length : Int) + 1) = k + 3 + 3 * (O.length : Int) by omega]
      exact hs
    · rw [List.reverse_cons, List.append_assoc]; exact d2
end
end Go.Proofs.Ytklbeipdigancaa

/- HazardScans: a scan and a retiring, done alone (plain). -/
namespace Go.Proofs.Ytklbeipdigancaa
open Go.RowKit
attribute [local irreducible] Instr.loadAt Instr.storeAt Instr.fieldAt Instr.indexAt Instr.sliceAt Instr.buildSlice Instr.box Instr.alloc Builtin.append_ Builtin.len_ Builtin.min_ Builtin.max_ Calls Instr.build Instr.makeSlice binSem convert Instr.index Instr.range Instr.next
/-- what a slot names -/
def slG (W : List Int) (j : Nat) : Int := toI (W.getD (8 + j) 0)
def slL (W : List Int) (n : Nat) : List Int := (List.range n).map (slG W)
theorem slL_s (W : List Int) (n : Nat) : slL W (n + 1) = slL W n ++ [slG W n] := by unfold slL; rw [List.range_succ, List.map_append]; rfl
theorem slL_len (W : List Int) (n : Nat) : (slL W n).length = n := by unfold slL; simp
def oL (t : PT) (W : List Int) (j : Nat) : List Int := if j = 0 then t.O else slL W j
section
variable {p : PS} {W free tg : List Int} {k : Int} {t : PT} {a : Bool}
theorem Bse.all (B : Bse p) {all : Nat} (h : (all : Int) = p.c.slots * p.c.T) : 1 ≤ all ∧ all ≤ 84 ∧ 8 + (all : Int) = linksP p.c.A p.c.T p.c.L := by
  have hr := B.ok.r
  have hT := B.T
  generalize p.c = c at *
  obtain ⟨A, T, N, L, B, P, S⟩ := c
  obtain ⟨b1, -, -, b4, -⟩ := plan_bd hr
  have e : (all : Int) = slotsP A L * T := h
  have hml := mul_bd (a := slotsP A L) (b := T) (x := 14) (y := 6) (by omega) (by omega)
  have h2 : 2 * 1 ≤ slotsP A L * T := Int.mul_le_mul b1.1 hT (by omega) (by omega)
  have hlk : linksP A T L = 8 + T * slotsP A L := rfl
  have hcm : T * slotsP A L = slotsP A L * T := Int.mul_comm _ _
  refine ⟨by omega, by omega, ?_⟩
  show 8 + (all : Int) = linksP A T L
  omega
theorem hzScan_M {t : PT} {gh : Option (List Int × Int × Int)} {pc : Int} (h : pc < p.c.slots * p.c.T) {x : Int} (ha : p.c.haz (pc.tdiv p.c.slots) (pc.tmod p.c.slots) = x) (hx : 0 ≤ x ∧ x < W.length) (hw : (p.c.where_ x).1 ≠ 3) :
    hzScan (M p false k W gh t) 0 t [] ⟨6, pc, []⟩ = M p true (k + 1) W gh { t with fs := [⟨6, pc + 1, []⟩], O := (if pc = 0 then [] else t.O) ++ [toI (W.getD x.toNat 0)] } := by
  unfold hzScan
  have h1 : PS.slotV (M p false k W gh t) pc = x := ha
  rw [if_pos (show (⟨6, pc, []⟩ : Fr).pc < (M p false k W gh t).c.slots * (M p false k W gh t).c.T from h)]
  show ((M p false k W gh t).load (PS.slotV (M p false k W gh t) pc)).put 0 { t with fs := [] ++ [⟨6, pc + 1, []⟩], O := (if pc = 0 then [] else t.O) ++ [toI (PS.ldv (M p false k W gh t) (PS.slotV (M p false k W gh t) pc))] } = _
  rw [h1, M_load hx hw, M_put, M_ldv hx]; rfl
/-- the slots are read, one by one -/
theorem scan_ld (B : Bse p) (I : Rw p W free tg) {all : Nat} (hall : (all : Int) = p.c.slots * p.c.T) (hk : 0 ≤ k ∧ k ≤ 700000) (hRl : t.R.length ≤ 1000) (hOl : t.O.length ≤ 1000) {n : Nat} {q : PS}
    (hend : RunH 0 (n + 1) (M p true (k + all) W (some (tg, 0, 0)) { t with fs := [⟨6, (all : Int), []⟩], O := slL W all }) q) : ∀ (d j : Nat) (a : Bool), j + d = all → RunH 0 (n + 1 + d) (M p a (k + j) W (some (tg, 0, 0)) { t with fs := [⟨6, (j : Int), []⟩], O := oL t W j }) q
  | 0, j, a, hj => by
    obtain rfl : j = all := by omega
    have ha := (B.all hall).1
    unfold oL
    rw [if_neg (by omega)]
    exact hend.again rfl
  | d + 1, j, a, hj => by
    have hr := B.ok.r
    have hT := B.T
    obtain ⟨ha1, ha2, ha3⟩ := B.all hall
    have hz := size_bd hr
    have hWl := I.l
    have hW := B.ok.l
    have hjT : (j : Int) < p.c.slots * p.c.T := by omega
    have hlin := haz_lin hr (i := (j : Int)) ⟨by omega, hjT⟩
    have hs : 2 ≤ p.c.slots := by
      generalize p.c = c at *
      obtain ⟨A, T, N, L, B, P, S⟩ := c
      exact (plan_bd hr).1.1
    have hwh : (p.c.where_ (8 + (j : Int))).1 ≠ 3 ∧ 8 + (j : Int) < sizeP p.c.A p.c.T p.c.N p.c.L := by
      have h1 : (j : Int).tdiv p.c.slots = j / p.c.slots := Int.tdiv_eq_ediv_of_nonneg (by omega)
      have h2 : (j : Int).tmod p.c.slots = j % p.c.slots := Int.tmod_eq_emod_of_nonneg (by omega)
      have h3 : 0 ≤ (j : Int) / p.c.slots := Int.ediv_nonneg (by omega) (by omega)
      have h4 : (j : Int) / p.c.slots < p.c.T := Int.ediv_lt_of_lt_mul (by omega) (by rw [Int.mul_comm]; exact hjT)
      have h5 : 0 ≤ (j : Int) % p.c.slots := Int.emod_nonneg _ (by omega)
      have h6 : (j : Int) % p.c.slots < p.c.slots := Int.emod_lt_of_pos _ (by omega)
      obtain ⟨q1, -, q2, -⟩ := haz_at hr (i := (j : Int) / p.c.slots) (k := (j : Int) % p.c.slots) ⟨h3, h4⟩ ⟨h5, h6⟩
      rw [← h1, ← h2, hlin] at q1 q2
      exact ⟨q1, q2⟩
    have hx : 0 ≤ 8 + (j : Int) ∧ 8 + (j : Int) < W.length := by omega
    have hOl2 : (oL t W j).length ≤ 1000 := by unfold oL; split; exact hOl; rw [slL_len]; omega
    have e : hzDo (M p false (k + j) W (some (tg, 0, 0)) { t with fs := [⟨6, (j : Int), []⟩], O := oL t W j }) 0 { t with fs := [⟨6, (j : Int), []⟩], O := oL t W j } [] ⟨6, (j : Int), []⟩ = M p true (k + (j + 1 : Nat)) W (some (tg, 0, 0)) { t with fs := [⟨6, ((j + 1 : Nat) : Int), []⟩], O := oL t W (j + 1) } := by
      rw [hz6 rfl, hzScan_M (t := { t with fs := [⟨6, (j : Int), []⟩], O := oL t W j }) hjT hlin hx hwh.1]
      have hO : (if (j : Int) = 0 then [] else oL t W j) ++ [toI (W.getD (8 + (j : Int)).toNat 0)] = oL t W (j + 1) := by
        unfold oL
        rw [if_neg (show ¬ j + 1 = 0 by omega), slL_s, show (8 + (j : Int)).toNat = 8 + j by omega]
        by_cases h0 : j = 0
        · subst h0; rfl
        · rw [if_neg (by omega), if_neg h0]; rfl
      show M p true (k + j + 1) W _ { t with fs := [⟨6, (j : Int) + 1, []⟩], O := (if (j : Int) = 0 then [] else oL t W j) ++ [toI (W.getD (8 + (j : Int)).toNat 0)] } = _
      rw [hO, show k + ((j + 1 : Nat) : Int) = k + j + 1 by omega, show ((j + 1 : Nat) : Int) = (j : Int) + 1 by omega]
    have S := rndM (a := a) (m := 0) B I (k := k + j) (t := { t with fs := [⟨6, (j : Int), []⟩], O := oL t W j }) (by omega) (fs := []) (f := ⟨6, (j : Int), []⟩) rfl (by decide) regs_0 (by show 0 ≤ (j : Int) ∧ (j : Int) ≤ 100000; omega) hRl hOl2 (by rw [e]; exact rnd0 B (.inl rfl) (by simp))
    exact RunH.step S (by rw [topM B]; simp) (scan_ld B I hall hk hRl hOl hend d (j + 1) true (by omega))
/-- a scan, to its end -/
theorem scan_run (B : Bse p) (I : Rw p W free tg) {all : Nat} (hall : (all : Int) = p.c.slots * p.c.T) (hk : 0 ≤ k ∧ k ≤ 600000) (hRl : t.R.length ≤ 1000) (hOl : t.O.length ≤ 1000) (hR : ∀ x ∈ t.R, (1 ≤ x ∧ x ≤ p.c.N) ∧ tg.getD (x - 1).toNat 0 = 2) (hnd : t.R.Nodup) :
    ∃ W', RunH 0 (3 * (t.R.filter fun y => !hasI (slL W all) y).length + 1 + all) (M p a k W (some (tg, 0, 0)) { t with fs := [⟨6, 0, []⟩] }) (M p false (k + all + 3 * (t.R.filter fun y => !hasI (slL W all) y).length) W' (some (clr tg (t.R.filter fun y => !hasI (slL W all) y), 0, 0)) { t with fs := [], r := (0, 0, 0), R := t.R.filter (hasI (slL W all)), O := [] }) ∧
      Rw p W' ((t.R.filter fun y => !hasI (slL W all) y).reverse ++ free) (clr tg (t.R.filter fun y => !hasI (slL W all) y)) ∧ ∀ j : Nat, 8 ≤ j → (j : Int) < linksP p.c.A p.c.T p.c.L → W'.getD j 0 = W.getD j 0 := by
  obtain ⟨ha1, ha2, ha3⟩ := B.all hall
  generalize hout : (t.R.filter fun y => !hasI (slL W all) y) = out
  have hol : out.length ≤ t.R.length := by rw [← hout]; exact List.length_filter_le _ _
  have hsl : (t.R.filter (hasI (slL W all))).length ≤ t.R.length := List.length_filter_le _ _
  obtain ⟨W', d1, d2, d3⟩ := rel_loop B (pcE := (all : Int) + 1) ⟨by omega, by omega, by omega⟩ out (a := true) (k := k + all) (t1 := { t with fs := [⟨6, (all : Int), []⟩], O := slL W all }) (t2 := { t with fs := [⟨6, (all : Int), []⟩], O := slL W all, R := t.R.filter (hasI (slL W all)) }) (f1 := ⟨6, (all : Int), []⟩) I (by omega) (by omega) (fun x hx => hR x (by rw [← hout] at hx; exact (List.mem_filter.1 hx).1)) (by rw [← hout]; exact hnd.filter _) rfl regs_0 (by show 0 ≤ (all : Int) ∧ (all : Int) ≤ 100000; omega) hRl (by show (slL W all).length ≤ 1000; rw [slL_len]; omega) (by show (t.R.filter _).length ≤ 1000; omega) (by omega) (by
    rw [hz6 rfl]
    unfold hzScan
    show (if (all : Int) < p.c.slots * p.c.T then _ else if (all : Int) = p.c.slots * p.c.T then _ else _) = _
    rw [if_neg (by omega), if_pos hall]
    show scEnd _ 0 _ [] _ (t.R.filter fun y => !hasI (slL W all) y) = _
    rw [hout])
  refine ⟨W', ?_, d2, d3⟩
  have := scan_ld B I hall (k := k) (t := t) ⟨hk.1, by omega⟩ hRl hOl (n := 3 * out.length) d1 all 0 a (by omega)
  have e0 : (M p a (k + ((0 : Nat) : Int)) W (some (tg, 0, 0)) { t with fs := [⟨6, ((0 : Nat) : Int), []⟩], O := oL t W 0 }) = M p a k W (some (tg, 0, 0)) { t with fs := [⟨6, 0, []⟩] } := by
    rw [show k + ((0 : Nat) : Int) = k by omega]; rfl
  rw [e0] at this
  exact this
theorem hz5 {p : PS} {i : Nat} {t : PT} {fs : List Fr} {f : Fr} (hf : f.fn = 5) : hzDo p i t fs f = hzRetire p i t fs f := by
  unfold hzDo
  rw [if_neg (by omega), if_neg (by omega), if_pos hf]
theorem Rw.tags {x : Int} (I : Rw p W free tg) (hx : 1 ≤ x ∧ x ≤ p.c.N) (htx : tg.getD (x - 1).toNat 0 = 1) : Rw p W free (tg.set (x - 1).toNat 2) :=
  ⟨I.u, I.l, I.lk, I.nd, fun z hz => by
    have h1 := I.lk.mem z hz
    have h2 := I.tag z hz
    by_cases hzx : z = x
    · rw [hzx] at h2; rw [h2] at htx; exact absurd htx (by decide)
    · rw [getD_set (by omega)]; exact h2, by simp; exact I.tl⟩
/-- retiring a node -/
theorem ret_do (B : Bse p) (I : Rw p W free tg) {x : Int} (hx : 1 ≤ x ∧ x ≤ p.c.N) (htx : tg.getD (x - 1).toNat 0 = 1) :
    hzDo (M p false k W (some (tg, 0, 0)) { t with fs := [⟨5, 0, [x]⟩] }) 0 { t with fs := [⟨5, 0, [x]⟩] } [] ⟨5, 0, [x]⟩ =
      M p false k W (some (tg.set (x - 1).toNat 2, 0, 0)) { t with fs := if (t.R.length : Int) + 1 ≥ p.c.S then [⟨6, 0, []⟩] else [], r := (0, 0, 0), R := t.R ++ [x] } := by
  have hNb := N_bd B.ok.r
  have htl := I.tl
  have hxI : toI x = x := toI_small (by omega)
  rw [hz5 rfl]
  unfold hzRetire
  show (if (t.R.length : Int) + 1 ≥ p.c.S then ((M p false k W (some (tg, 0, 0)) _).deed (toI x) 1 2 2).put 0 { t with fs := [] ++ [⟨6, 0, []⟩], r := (0, 0, 0), R := t.R ++ [toI x] } else ((M p false k W (some (tg, 0, 0)) _).deed (toI x) 1 2 2).put 0 { t with fs := [], r := (0, 0, 0), R := t.R ++ [toI x] }) = _
  rw [hxI, M_deed (by omega) htx, M_put, M_put]
  split
  · rfl
  · rfl
theorem ret_run (B : Bse p) (I : Rw p W free tg) (hk : 0 ≤ k ∧ k ≤ 600000) (hRl : t.R.length ≤ 900) (hOl : t.O.length ≤ 1000) {x : Int} (hx : 1 ≤ x ∧ x ≤ p.c.N) (htx : tg.getD (x - 1).toNat 0 = 1) (hs : ¬ (t.R.length : Int) + 1 ≥ p.c.S) :
    RunH 0 1 (M p a k W (some (tg, 0, 0)) { t with fs := [⟨5, 0, [x]⟩] }) (M p false k W (some (tg.set (x - 1).toNat 2, 0, 0)) { t with fs := [], r := (0, 0, 0), R := t.R ++ [x] }) := by
  have e := ret_do (k := k) (t := t) B I hx htx
  rw [if_neg hs] at e
  have hNb := N_bd B.ok.r
  have S := rndM (a := a) (m := 0) B I (k := k) (t := { t with fs := [⟨5, 0, [x]⟩] }) (by omega) (fs := []) (f := ⟨5, 0, [x]⟩) rfl (by decide) (regs_1 ⟨by omega, by omega⟩) (by show 0 ≤ (0 : Int) ∧ (0 : Int) ≤ 100000; decide) (by show t.R.length ≤ 1000; omega) hOl (by rw [e]; exact rnd0 B (.inr rfl) (by simp))
  exact RunH.last S (by rw [topM B]; rfl)
theorem ret_scan (B : Bse p) (I : Rw p W free tg) (hk : 0 ≤ k ∧ k ≤ 600000) (hRl : t.R.length ≤ 900) (hOl : t.O.length ≤ 1000) {x : Int} (hx : 1 ≤ x ∧ x ≤ p.c.N) (htx : tg.getD (x - 1).toNat 0 = 1) (hs : (t.R.length : Int) + 1 ≥ p.c.S) {n : Nat} {q : PS} {R' : List Int} (hR' : t.R ++ [x] = R')
    (h : RunH 0 (n + 1) (M p false k W (some (tg.set (x - 1).toNat 2, 0, 0)) { t with fs := [⟨6, 0, []⟩], r := (0, 0, 0), R := R' }) q) : RunH 0 (n + 1) (M p a k W (some (tg, 0, 0)) { t with fs := [⟨5, 0, [x]⟩] }) q := by
  have e := ret_do (k := k) (t := t) B I hx htx
  rw [if_pos hs] at e
  subst hR'
  have hNb := N_bd B.ok.r
  obtain ⟨m, p', h1, h2⟩ := h
  have S := rndM (a := a) (m := m) B I (k := k) (t := { t with fs := [⟨5, 0, [x]⟩] }) (by omega) (fs := []) (f := ⟨5, 0, [x]⟩) rfl (by decide) (regs_1 ⟨by omega, by omega⟩) (by show 0 ≤ (0 : Int) ∧ (0 : Int) ≤ 100000; decide) (by show t.R.length ≤ 1000; omega) hOl (q := p') (by rw [e]; exact h1)
  exact ⟨m + 1, p', S, h2⟩
theorem pushH_M (B : Bse p) (fn : Int) (l : List Int) (ht : t.fs = []) : pushH (M p a k W (some (tg, 0, 0)) t) 0 fn l = M p a k W (some (tg, 0, 0)) { t with fs := [⟨fn, 0, l⟩] } := by
  obtain ⟨t0, ht0⟩ := B.th
  unfold pushH
  rw [M_th ht0]
  show (M p a k W (some (tg, 0, 0)) t).put 0 { t with fs := t.fs ++ [⟨fn, 0, l⟩] } = _
  rw [M_put, ht]; rfl
end
end Go.Proofs.Ytklbeipdigancaa

/- HazardScans: the law's state (plain), and contracts that its walk needs. -/
namespace Go.Proofs.Ytklbeipdigancaa
open Go.RowKit
attribute [local irreducible] Instr.loadAt Instr.storeAt Instr.fieldAt Instr.indexAt Instr.sliceAt Instr.buildSlice Instr.box Instr.alloc Builtin.append_ Builtin.len_ Builtin.min_ Builtin.max_ Calls Instr.build Instr.makeSlice binSem convert Instr.index Instr.range Instr.next
theorem clr_at : ∀ (out tg : List Int) {y : Int}, 1 ≤ y → y ≤ tg.length → (∀ x ∈ out, 1 ≤ x) → (clr tg out).getD (y - 1).toNat 0 = if y ∈ out then 0 else tg.getD (y - 1).toNat 0
  | [], tg, y, _, _, _ => by rw [if_neg (by simp)]; rfl
  | x :: out, tg, y, h1, h2, h3 => by
    have hx := h3 x List.mem_cons_self
    show (clr (tg.set (x - 1).toNat 0) out).getD _ 0 = _
    rw [clr_at out _ h1 (by rw [List.length_set]; exact h2) (fun z hz => h3 z (List.mem_cons_of_mem _ hz))]
    by_cases ho : y ∈ out
    · rw [if_pos ho, if_pos (List.mem_cons_of_mem _ ho)]
    · rw [if_neg ho]
      by_cases hxy : y = x
      · subst hxy
        rw [if_pos List.mem_cons_self, setD_self (by omega)]
      · rw [if_neg (fun h => by rcases List.mem_cons.1 h with h | h; exact hxy h; exact ho h), getD_set (by omega)]
theorem clr_many : ∀ (out tg : List Int), out.Nodup → (∀ x ∈ out, (1 ≤ x ∧ x ≤ tg.length) ∧ tg.getD (x - 1).toNat 0 = 2) → manyL (clr tg out) 2 + out.length = manyL tg 2
  | [], tg, _, _ => rfl
  | x :: out, tg, hn, h => by
    obtain ⟨hx, ht⟩ := h x List.mem_cons_self
    obtain ⟨h1, h2⟩ := List.nodup_cons.1 hn
    have ih := clr_many out (tg.set (x - 1).toNat 0) h2 (fun z hz => by
      obtain ⟨a1, a2⟩ := h z (List.mem_cons_of_mem _ hz)
      have hne : x ≠ z := fun e => h1 (by rw [e]; exact hz)
      exact ⟨by rw [List.length_set]; exact a1, by rw [getD_set (by omega)]; exact a2⟩)
    have hm := many_set tg (x - 1).toNat 0 2 (by omega)
    rw [ht, if_pos rfl, if_neg (by decide)] at hm
    show manyL (clr (tg.set (x - 1).toNat 0) out) 2 + (out.length + 1) = _
    omega
/-- the law's state: i nodes have been retired -/
structure SRt (p : PS) (Wz : List Int) (G : Int → Bool) (s : Int) (W free tg wait : List Int) (i : Nat) : Prop where
  rw_ : Rw p W free tg
  nd : wait.Nodup
  wt : ∀ x ∈ wait, (s < x ∧ x ≤ s + i) ∧ tg.getD (x - 1).toNat 0 = 2
  un : ∀ x, s + i < x → x ≤ p.c.N → tg.getD (x - 1).toNat 0 = 1
  fr : ∀ x, s < x → x ≤ s + i → x ∉ wait → tg.getD (x - 1).toNat 0 = 0
  gd : ∀ x, s < x → x ≤ s + i → G x = true → x ∈ wait
  mn : manyL tg 2 = wait.length
  ln : free.length + wait.length = i
  hz : ∀ j : Nat, 8 ≤ j → (j : Int) < linksP p.c.A p.c.T p.c.L → W.getD j 0 = Wz.getD j 0
section
variable {p : PS} {Wz W W' free tg wait : List Int} {G : Int → Bool} {s : Int} {i : Nat}
theorem SRt.retire (h : SRt p Wz G s W free tg wait i) (hs : 0 ≤ s) (hi : s + i + 1 ≤ p.c.N) : SRt p Wz G s W free (tg.set (s + i + 1 - 1).toNat 2) (wait ++ [s + i + 1]) (i + 1) := by
  have htl := h.rw_.tl
  have htx := h.un (s + i + 1) (by omega) hi
  have hnew : s + i + 1 ∉ wait := fun hm => by have := (h.wt _ hm).1; omega
  refine ⟨h.rw_.tags ⟨by omega, hi⟩ htx, ?_, fun x hx => ?_, fun x h1 h2 => ?_, fun x h1 h2 h3 => ?_, fun x h1 h2 h3 => ?_, ?_, ?_, h.hz⟩
  · rw [List.nodup_append]
    exact ⟨h.nd, by simp, fun a ha b hb => by rw [List.mem_singleton.1 hb]; exact fun e => hnew (by rw [← e]; exact ha)⟩
  · rcases List.mem_append.1 hx with hx | hx
    · obtain ⟨a1, a2⟩ := h.wt x hx
      refine ⟨by omega, ?_⟩
      rw [getD_set (by omega)]; exact a2
    · rw [List.mem_singleton.1 hx]
      exact ⟨by omega, setD_self (by omega)⟩
  · rw [getD_set (by omega)]; exact h.un x (by omega) h2
  · have hne : x ≠ s + i + 1 := fun e => h3 (by rw [e]; simp)
    rw [getD_set (by omega)]
    exact h.fr x h1 (by omega) (fun hm => h3 (List.mem_append_left _ hm))
  · by_cases hne : x = s + i + 1
    · rw [hne]; simp
    · exact List.mem_append_left _ (h.gd x h1 (by omega) h3)
  · have hm := many_set tg (s + i + 1 - 1).toNat 2 2 (by omega)
    rw [htx, if_neg (by decide), if_pos rfl] at hm
    have := h.mn
    rw [List.length_append]
    show _ = wait.length + 1
    omega
  · have := h.ln
    rw [List.length_append]
    show free.length + (wait.length + 1) = i + 1
    omega
theorem SRt.scan (h : SRt p Wz G s W free tg wait i) (hs : 0 ≤ s) (hi : s + i ≤ p.c.N) (hr : Rw p W' ((wait.filter fun y => !G y).reverse ++ free) (clr tg (wait.filter fun y => !G y))) (hz : ∀ j : Nat, 8 ≤ j → (j : Int) < linksP p.c.A p.c.T p.c.L → W'.getD j 0 = W.getD j 0) :
    SRt p Wz G s W' ((wait.filter fun y => !G y).reverse ++ free) (clr tg (wait.filter fun y => !G y)) (wait.filter G) i := by
  have htl := h.rw_.tl
  have hob : ∀ x ∈ wait.filter fun y => !G y, 1 ≤ x := fun x hx => by have := (h.wt x (List.mem_filter.1 hx).1).1; omega
  have hat := fun (y : Int) (h1 : 1 ≤ y) (h2 : y ≤ p.c.N) => clr_at (wait.filter fun y => !G y) tg h1 (by omega) hob
  have hmn := clr_many (wait.filter fun y => !G y) tg (h.nd.filter _) (fun x hx => by
    obtain ⟨a1, a2⟩ := h.wt x (List.mem_filter.1 hx).1
    exact ⟨by omega, a2⟩)
  have hlen : (wait.filter G).length + (wait.filter fun y => !G y).length = wait.length := by
    clear hat hob hmn hr h
    induction wait with
    | nil => rfl
    | cons a l ih =>
      cases hg : G a with
      | true => rw [List.filter_cons_of_pos hg, List.filter_cons_of_neg (by rw [hg]; decide)]; show _ + 1 + _ = l.length + 1; omega
      | false => rw [List.filter_cons_of_neg (by rw [hg]; decide), List.filter_cons_of_pos (by rw [hg]; rfl)]; show _ + (_ + 1) = l.length + 1; omega
  have hml := h.mn
  have hll := h.ln
  refine ⟨hr, h.nd.filter _, fun x hx => ?_, fun x h1 h2 => ?_, fun x h1 h2 h3 => ?_, fun x h1 h2 h3 => ?_, by omega, ?_, fun j h1 h2 => by rw [hz j h1 h2]; exact h.hz j h1 h2⟩
  · obtain ⟨hx1, hx2⟩ := List.mem_filter.1 hx
    obtain ⟨a1, a2⟩ := h.wt x hx1
    refine ⟨a1, ?_⟩
    rw [hat x (by omega) (by omega), if_neg (fun hm => by
      have := (List.mem_filter.1 hm).2
      rw [hx2] at this; cases this)]
    exact a2
  · rw [hat x (by omega) h2, if_neg (fun hm => by have := (h.wt x (List.mem_filter.1 hm).1).1; omega)]
    exact h.un x h1 h2
  · rw [hat x (by omega) (by omega)]
    by_cases hx : x ∈ wait
    · have hg : G x = false := by
        cases hg : G x with
        | false => rfl
        | true => exact absurd (List.mem_filter.2 ⟨hx, hg⟩) h3
      rw [if_pos (List.mem_filter.2 ⟨hx, by rw [hg]; rfl⟩)]
    · split
      · rfl
      · exact h.fr x h1 h2 hx
  · exact List.mem_filter.2 ⟨h.gd x h1 h2 h3, h3⟩
  · rw [List.length_append, List.length_reverse]; omega
end
/-- a list of the call's own, apart from the machine -/
structure FarZ (w0 w : World) (X : Mc) (e n : Nat) (v : Value) (len : Nat) (xs : List Value) : Prop where
  sl : Sl w e n v len xs
  n : ∀ g, v.ownBlock = some g → g ∉ X.feet
  fr : ∀ g, v.ownBlock = some g → w0.heap.size ≤ g
theorem FarZ.upd0 {w0 w w' : World} {X : Mc} {e n : Nat} {v : Value} {len : Nat} {xs : List Value} (h : FarZ w0 w X e n v len xs) (hu : Upd [] w w') : FarZ w0 w' X e n v len xs := ⟨h.sl.upd hu (by simp), h.n, h.fr⟩
theorem FarZ.post {w0 w w' : World} {X Y : Mc} {e n : Nat} {v : Value} {len : Nat} {xs : List Value} (h : FarZ w0 w X e n v len xs) (p : Post w X w' Y) : FarZ w0 w' Y e n v len xs := ⟨h.sl.upd p.to.up h.n, fun g hg hm => by
  have hlt := h.sl.lt g hg
  rcases p.to.sub g hm with h1 | h1
  · exact h.n g hg h1
  · omega, h.fr⟩
theorem FarZ.nil_ (w0 w : World) (X : Mc) (e n : Nat) : FarZ w0 w X e n (.slice none 0 0) 0 [] := ⟨Sl.nil_ _ _ _, fun g hg => (by cases hg), fun g hg => (by cases hg)⟩
section
variable {w w' w'' : World} {X : Mc} {p q : PS}
theorem Hz.ev (h : Hz w w' X p) (e : Ev w' X w'' q) : ∃ Y, Hz w w'' Y q ∧ Y.m = X.m ∧ Post w' X w'' Y := by
  obtain ⟨Y, pp, k, a⟩ := e
  exact ⟨Y, ⟨h.new.post pp, a, k.calm h.calm, by rw [k.len]; exact h.tl⟩, k.m, pp⟩
/-- something of the call's own, apart from the machine, is changed -/
theorem Hz.own (h : Hz w w' X p) {S : List Nat} (hu : Upd S w' w'') (hn : ∀ g ∈ S, g ∉ X.feet) (hf : ∀ g ∈ S, w.heap.size ≤ g) : Hz w w'' X p :=
  ⟨⟨Sep.upd h.new.ok hu (fun k hk hm => hn k hm hk), h.new.up.step hu (fun x hx => .inr (hf x hx)), h.new.fr⟩, h.a, h.calm, h.tl⟩
/-- behind an append to a list of the call's own -/
theorem FarZ.grow (h : Hz w w' X p) {e n : Nat} {v v' : Value} {len len' : Nat} {xs xs' : List Value} (hF : FarZ w w' X e n v len xs) (hs : Sl w'' e n v' len' xs') (hG : Grow w' w'' v v') : FarZ w w'' X e n v' len' xs' ∧ Hz w w'' X p := by
  refine ⟨⟨hs, fun g hg => ?_, fun g hg => ?_⟩, h.own hG.up (fun g hg => hF.n g (by simpa using hg)) (fun g hg => hF.fr g (by simpa using hg))⟩
  · rcases hG.own g hg with h1 | h1
    · exact hF.n g h1
    · intro hm; have := h.new.ok.lt g hm; omega
  · rcases hG.own g hg with h1 | h1
    · exact hF.fr g h1
    · have := h.new.up.size; omega
theorem Hz.alone2 (h : Hz w w' X p) (hi : 0 < p.ths.length) (h0 : topL p 0 = 0) {n : Nat} (hn : n ≤ 2900) {fn : Int} {v : Value} {l : List Int} (hv : RdK w' .u64 v l) (hl : l.length ≤ 100000) (hr : RunH 0 n (pushH p 0 fn l) q) :
    Fn Try.prog 23 #[ptrV X.m, .int .i64 0, .int .i64 fn, v] w' fun r w'' => r = .bool true ∧ ∃ Y, Hz w w'' Y q ∧ Y.m = X.m ∧ Post w' X w'' Y := by
  obtain ⟨t, ht, hf⟩ := h.th0 hi h0
  rw [← h.a] at hr
  refine (alone18_c (i := 0) h.new.ok h.calm h.tl ht hf n hn fn hv hl hr).mono ?_
  rintro e w2 ⟨r, he, hr, hev⟩
  exact ⟨r, he, hr, h.ev hev⟩
/-- a thread's retired ones, in memory -/
theorem Mach.rvs_ {w : World} {X : Mc} {i : Nat} {t : Th} (h : Mach w X) (hi : X.ths[i]? = some t) : Sl w 3 1 t.rv t.R.length (t.R.map (.int .i64)) := Sep.at_ (i := 4) (x := obI t.rv t.R) (h.thr hi) rfl
theorem Mach.rcell {w : World} {X : Mc} {i : Nat} {t : Th} (h : Mach w X) (hi : X.ths[i]? = some t) : ∃ a c, t.rv = .slice a t.R.length c ∧ w.cell? ⟨t.g, 8, none⟩ = some (.slice a t.R.length c) := by
  obtain ⟨a, c, he, -⟩ := (h.rvs_ hi).form
  refine ⟨a, c, he, ?_⟩
  have hb := (h.core hi).blk
  have := hb.cell 8
  rw [this, ← he]; rfl
end
end Go.Proofs.Ytklbeipdigancaa

/- HazardScans: the nodes are taken; the slots are named (plain). -/
namespace Go.Proofs.Ytklbeipdigancaa
open Go.RowKit
attribute [local irreducible] Instr.loadAt Instr.storeAt Instr.fieldAt Instr.indexAt Instr.sliceAt Instr.buildSlice Instr.box Instr.alloc Builtin.append_ Builtin.len_ Builtin.min_ Builtin.max_ Calls Instr.build Instr.makeSlice binSem convert Instr.index Instr.range Instr.next
theorem Lk.congr {c : Cf} (hr : rightC c) {W W' : List Int} (h : ∀ x, 1 ≤ x ∧ x ≤ c.N → W'.getD (c.link x).toNat 0 = W.getD (c.link x).toNat 0) : ∀ {l : List Int} {n : Int}, Lk c W n l → Lk c W' n l
  | [], _, hl => hl
  | x :: l, n, hl => ⟨hl.1, hl.2.1, by rw [h x hl.2.1]; exact Lk.congr hr h hl.2.2⟩
/-- a node is taken: three steps, whatever the frame's registers hold -/
theorem al_gen {p : PS} {x : Int} {l tg : List Int} {b : Int} (R : Rep p (x :: l) tg b) (hb : b + 3 ≤ 900000) {t : PT} (ht : p.ths[0]? = some t) (hf : t.fs = []) (hO : t.O.length ≤ 90000) (hRl : t.R.length ≤ 90000) :
    ∃ q, RunH 0 3 (pushH p 0 1 []) q ∧ Rep q l (tg.set (x - 1).toNat 1) (b + 3) ∧ q.c = p.c ∧ q.ths = p.ths.set 0 { t with fs := [], r := (x, 0, 0) } ∧ ∀ j : Nat, 1 ≤ j → q.W.getD j 0 = p.W.getD j 0 := by
  have hr := R.ok.r
  have hz := size_bd hr
  have hW := R.ok.l
  obtain ⟨e0, hx, hlk⟩ := R.lk
  obtain ⟨w1, w2, w3⟩ := where_link hr hx
  have hNb := N_bd hr
  have w0 := where_0 hr
  have hk0 := R.ok.k0
  have hk1 := R.ok.k1
  have h0l : 0 ≤ (0 : Int) ∧ (0 : Int) < p.W.length := by omega
  have hl1 : 0 ≤ p.c.link x ∧ p.c.link x < p.W.length := by omega
  have htl := R.tl
  have hu0 := u64_getD R.ok.w 0
  have hu1 := u64_getD R.ok.w (p.c.link x).toNat
  have hsm := hlk.small hr
  have h0' : p.W.getD (0 : Int).toNat 0 = p.W.getD 0 0 := rfl
  have epush : pushH p 0 1 [] = M p p.acted p.k p.W p.gh { t with fs := [⟨1, 0, []⟩] } := by
    unfold pushH
    rw [ht]
    show p.put 0 { t with fs := t.fs ++ [⟨1, 0, []⟩] } = _
    rw [hf]; rfl
  rw [epush, R.gh]
  refine ⟨M p true (p.k + 3) (p.W.set 0 (nextW (p.W.getD 0 0) (toI (p.W.getD (p.c.link x).toNat 0)))) (some (tg.set (x - 1).toNat 1, 0, 0)) { t with fs := [], r := (x, 0, 0) }, ?_, ?_, rfl, rfl, fun j hj => getD_set (by omega)⟩
  · refine Runs.runH (n := 2) (t := { t with fs := [⟨1, 0, []⟩] }) ?_ (M_th ht) hRl hO (fun f hf => by rw [List.mem_singleton.1 hf]; show 0 ≤ (0 : Int) ∧ (0 : Int) ≤ 100000; decide)
    refine ⟨_, _, M_th ht, rfl, regs_0, .inl rfl, M_ok R.ok ⟨by omega, by omega⟩ R.ok.w rfl (by omega) 0 0, ?_⟩
    have s1 : arDo (calm0 (M p p.acted p.k p.W (some (tg, 0, 0)) { t with fs := [⟨1, 0, []⟩] })) 0 { t with fs := [⟨1, 0, []⟩] } [] ⟨1, 0, []⟩ = M p true (p.k + 1) p.W (some (tg, 0, 0)) { t with fs := [⟨1, 1, regI [] 0 (p.W.getD 0 0)⟩] } := by
      rw [M_calm]
      unfold arDo arAlloc
      rw [if_pos rfl, if_pos rfl, M_ldv h0l, h0', if_neg (by omega), M_load h0l w0, M_put]; rfl
    rw [s1]
    have hr1 := regs_I (k := 0) regs_0 hu0
    refine ⟨_, _, M_th ht, rfl, hr1, .inl rfl, M_ok R.ok ⟨by omega, by omega⟩ R.ok.w rfl (by omega) 0 0, ?_⟩
    have g0 : (regI [] 0 (p.W.getD 0 0)).getD 0 0 = p.W.getD 0 0 := by rw [regI_at _ _ _ _ (by omega)]; rfl
    have s2 : arDo (calm0 (M p true (p.k + 1) p.W (some (tg, 0, 0)) { t with fs := [⟨1, 1, regI [] 0 (p.W.getD 0 0)⟩] })) 0 { t with fs := [⟨1, 1, regI [] 0 (p.W.getD 0 0)⟩] } [] ⟨1, 1, regI [] 0 (p.W.getD 0 0)⟩ = M p true (p.k + 1 + 1) p.W (some (tg, 0, 0)) { t with fs := [⟨1, 2, regI (regI [] 0 (p.W.getD 0 0)) 1 (p.W.getD (p.c.link x).toNat 0)⟩] } := by
      rw [M_calm]
      unfold arDo arAlloc
      rw [if_pos rfl, if_neg (by show ¬ (1 : Int) = 0; decide), if_pos rfl]
      show ((M p false (p.k + 1) p.W (some (tg, 0, 0)) _).load (p.c.link (ptrW ((regI [] 0 (p.W.getD 0 0)).getD 0 0)))).put 0 (topped _ [] ⟨1, 2, regI (regI [] 0 (p.W.getD 0 0)) 1 ((M p false (p.k + 1) p.W (some (tg, 0, 0)) _).ldv (p.c.link (ptrW ((regI [] 0 (p.W.getD 0 0)).getD 0 0))))⟩) = _
      rw [g0, e0, M_ldv hl1, M_load hl1 w1, M_put]; rfl
    rw [s2]
    have hr2 := regs_I (k := 1) hr1 hu1
    refine ⟨_, _, M_th ht, rfl, hr2, .inl rfl, M_ok R.ok ⟨by omega, by omega⟩ R.ok.w rfl (by omega) 0 0, ?_⟩
    have g1 : (regI (regI [] 0 (p.W.getD 0 0)) 1 (p.W.getD (p.c.link x).toNat 0)).getD 0 0 = p.W.getD 0 0 := by rw [regI_at _ _ _ _ (by omega), if_neg (by decide)]; exact g0
    have g2 : (regI (regI [] 0 (p.W.getD 0 0)) 1 (p.W.getD (p.c.link x).toNat 0)).getD 1 0 = p.W.getD (p.c.link x).toNat 0 := by rw [regI_at _ _ _ _ (by omega)]; rfl
    generalize regI (regI [] 0 (p.W.getD 0 0)) 1 (p.W.getD (p.c.link x).toNat 0) = rg at *
    refine ⟨?_, ?_⟩
    · rw [M_calm]
      unfold arDo arAlloc
      rw [if_pos rfl, if_neg (by show ¬ (2 : Int) = 0; decide), if_neg (by show ¬ (2 : Int) = 1; decide)]
      show (if (M p false (p.k + 1 + 1) p.W (some (tg, 0, 0)) _).casv 0 (rg.getD 0 0) = true then (((M p false (p.k + 1 + 1) p.W (some (tg, 0, 0)) _).cas 0 (rg.getD 0 0) (nextW (rg.getD 0 0) (toI (rg.getD 1 0)))).deed (ptrW (rg.getD 0 0)) 0 1 1).put 0 (popped _ [] (ptrW (rg.getD 0 0))) else _) = _
      have hcv : (M p false (p.k + 1 + 1) p.W (some (tg, 0, 0)) { t with fs := [⟨1, 2, rg⟩] }).casv 0 (p.W.getD 0 0) = true := M_casv h0l
      have hcs : (M p false (p.k + 1 + 1) p.W (some (tg, 0, 0)) { t with fs := [⟨1, 2, rg⟩] }).cas 0 (p.W.getD 0 0) (nextW (p.W.getD 0 0) (toI (p.W.getD (p.c.link x).toNat 0))) = _ := M_cas h0l w0
      rw [g1, g2, if_pos hcv, hcs, e0, M_deed (by omega) (R.tag x List.mem_cons_self), M_put]
      show M p true (p.k + 1 + 1 + 1) _ _ _ = M p true (p.k + 3) _ _ _
      rw [show p.k + 1 + 1 + 1 = p.k + 3 by omega]; rfl
    · unfold topL; rw [M_th ht]; rfl
  · have hW' : ∀ z ∈ p.W.set 0 (nextW (p.W.getD 0 0) (toI (p.W.getD (p.c.link x).toNat 0))), u64R z := mem_set_ R.ok.w nextW_bd
    refine ⟨M_ok R.ok ⟨by omega, by omega⟩ hW' (by simp) (by simp; omega) 0 0, ⟨_, M_th ht, rfl⟩, ?_, rfl, (List.nodup_cons.1 R.nd).2, fun z hz => ?_, by simp; exact htl, R.bad⟩
    · show Lk p.c (p.W.set 0 _) (ptrW ((p.W.set 0 _).getD 0 0)) l
      rw [setD_self (by omega), ptr_next hsm]
      exact hlk.set fun z hz => by
        have := (where_link hr (hlk.mem z hz)).2
        omega
    · have h1 := hlk.mem z hz
      have h2 : x ≠ z := fun e => (List.nodup_cons.1 R.nd).1 (by rw [e]; exact hz)
      rw [getD_set (by omega)]
      exact R.tag z (List.mem_cons_of_mem _ hz)
/-- what a slot names, of the law -/
def nmF (N x : Int) : Int := (x.tmod (N + 1) + N + 1).tmod (N + 1)
theorem nmF_bd {N : Int} (hN : 0 ≤ N) (x : Int) : 0 ≤ nmF N x ∧ nmF N x ≤ N := by
  unfold nmF
  have h1 := Int.lt_tmod_of_pos x (show (0 : Int) < N + 1 by omega)
  have h2 := Int.tmod_nonneg (N + 1) (show 0 ≤ x.tmod (N + 1) + N + 1 by omega)
  have h3 := Int.tmod_lt_of_pos (x.tmod (N + 1) + N + 1) (show (0 : Int) < N + 1 by omega)
  omega
def nmL (N : Int) (ns : List Int) : List Int := ns.map (nmF N)
theorem nmL_at {N : Int} {ns : List Int} {j : Nat} (h : j < ns.length) : (nmL N ns).getD j 0 = nmF N (ns.getD j 0) := by simp [nmL, List.getD, h]
/-- which nodes are named by the first i slots -/
def gdB (N : Int) (ns : List Int) (i : Nat) (y : Nat) : Bool := (List.range i).any fun j => decide ((nmL N ns).getD j 0 = (y : Int))
def gdL (N : Int) (ns : List Int) (n i : Nat) : List Bool := (List.range n).map (gdB N ns i)
theorem gdL_0 (N : Int) (ns : List Int) (n : Nat) : gdL N ns n 0 = List.replicate n false := by
  unfold gdL
  rw [List.eq_replicate_iff]
  refine ⟨by simp, fun b hb => ?_⟩
  obtain ⟨y, -, rfl⟩ := List.mem_map.1 hb
  rfl
theorem gdL_len (N : Int) (ns : List Int) (n i : Nat) : (gdL N ns n i).length = n := by unfold gdL; simp
theorem gdL_at {N : Int} {ns : List Int} {n i y : Nat} (h : y < n) : (gdL N ns n i).getD y false = gdB N ns i y := by unfold gdL; simp [List.getD, h]
theorem gdL_s (N : Int) (ns : List Int) (n i m : Nat) (hm : (nmL N ns).getD i 0 = (m : Int)) : (gdL N ns n i).set m true = gdL N ns n (i + 1) := by
  apply List.ext_getElem
  · rw [List.length_set, gdL_len, gdL_len]
  · intro y h1 h2
    rw [gdL_len] at h2
    have e1 : (gdL N ns n (i + 1))[y]'(by rw [gdL_len]; exact h2) = gdB N ns (i + 1) y := by unfold gdL; simp
    have e2 : (gdL N ns n i)[y]'(by rw [gdL_len]; exact h2) = gdB N ns i y := by unfold gdL; simp
    have e3 : gdB N ns (i + 1) y = (gdB N ns i y || decide (m = y)) := by
      unfold gdB
      rw [List.range_succ, List.any_append]
      simp only [List.any_cons, List.any_nil, Bool.or_false]
      rw [hm]
      congr 1
      exact decide_eq_decide.2 (by omega)
    rw [List.getElem_set, e1, e3, e2]
    by_cases h : m = y
    · rw [if_pos h, decide_eq_true h, Bool.or_true]
    · rw [if_neg h, decide_eq_false h, Bool.or_false]
/-- the slots say the same -/
theorem gd_slots {N : Int} {ns W Wz : List Int} {i all : Nat} (hN : 0 ≤ N ∧ N ≤ 64) (hz : ∀ j : Nat, j < all → W.getD (8 + j) 0 = 0) (hi : i ≤ all) (hil : i ≤ ns.length) (hl : 8 + all ≤ W.length) (hW : ∀ j : Nat, j < all → Wz.getD (8 + j) 0 = (fillW W (nmL N ns) i).getD (8 + j) 0) {y : Nat} (hy : 1 ≤ y) : hasI (slL Wz all) (y : Int) = gdB N ns i y := by
  have hv : ∀ j : Nat, j < all → slG Wz j = if j < i then (nmL N ns).getD j 0 else 0 := fun j hj => by
    unfold slG
    rw [hW j hj, fillW_at W (nmL N ns) j i (by omega)]
    by_cases h : j < i
    · rw [if_pos h, if_pos h, nmL_at (by omega)]
      have := nmF_bd hN.1 (ns.getD j 0)
      exact toI_small ⟨by omega, by omega⟩
    · rw [if_neg h, if_neg h, hz j hj]; exact toI_small ⟨by decide, by decide⟩
  have key : hasI (slL Wz all) (y : Int) = true ↔ gdB N ns i y = true := by
    unfold hasI slL gdB
    rw [List.any_map, List.any_eq_true, List.any_eq_true]
    constructor
    · rintro ⟨j, hj, h⟩
      have hj := List.mem_range.1 hj
      have h : slG Wz j = (y : Int) := by simpa using h
      rw [hv j hj] at h
      by_cases hji : j < i
      · rw [if_pos hji] at h
        exact ⟨j, List.mem_range.2 hji, decide_eq_true h⟩
      · rw [if_neg hji] at h; omega
    · rintro ⟨j, hj, h⟩
      have hj := List.mem_range.1 hj
      have h := of_decide_eq_true h
      refine ⟨j, List.mem_range.2 (by omega), ?_⟩
      show decide (slG Wz j = (y : Int)) = true
      rw [hv j (by omega), if_pos hj]
      exact decide_eq_true h
  cases h1 : hasI (slL Wz all) (y : Int) <;> cases h2 : gdB N ns i y
  · rfl
  · rw [key.2 h2] at h1; cases h1
  · rw [key.1 h1] at h2; cases h2
  · rfl
theorem slL_congr {W W' : List Int} {n : Nat} (h : ∀ j : Nat, j < n → W'.getD (8 + j) 0 = W.getD (8 + j) 0) : slL W' n = slL W n := by
  unfold slL
  apply List.map_congr_left
  intro j hj
  unfold slG
  rw [h j (List.mem_range.1 hj)]
theorem freeF_s (n k : Nat) : freeF n (k + 1) = ((n - k : Nat) : Int) :: freeF n k := rfl
/-- memory in which slots are named -/
theorem Rep.fill {p : PS} {free tg : List Int} {b : Int} (R : Rep p free tg b) (vs : List Int) (hv : ∀ j, u64R (vs.getD j 0)) (i : Nat) (hi : 8 + (i : Int) ≤ linksP p.c.A p.c.T p.c.L) (hb : b + i ≤ 800000) : Rep { p with W := fillW p.W vs i, k := p.k + i } free tg (b + i) := by
  have hr := R.ok.r
  have hsz := size_bd hr
  have hlo : ∀ (j a : Nat), (a : Int) < 8 ∨ linksP p.c.A p.c.T p.c.L ≤ (a : Int) → 8 + (j : Int) ≤ linksP p.c.A p.c.T p.c.L → (fillW p.W vs j).getD a 0 = p.W.getD a 0 := fun j a ha => by
    induction j with
    | zero => intro _; rfl
    | succ j ih =>
      intro hj
      show ((fillW p.W vs j).set (8 + j) (vs.getD j 0)).getD a 0 = _
      rw [getD_set (by omega)]
      exact ih (by omega)
  refine ⟨⟨hr, R.ok.t, by have := R.ok.k0; show 0 ≤ p.k + i; omega, by have := R.ok.k1; show p.k + i ≤ b + i; omega, fillW_u _ _ R.ok.w hv i, (fillW_len _ _ i).trans R.ok.l⟩, R.th, ?_, R.gh, R.nd, R.tag, R.tl, R.bad⟩
  show Lk p.c (fillW p.W vs i) (ptrW ((fillW p.W vs i).getD 0 0)) free
  rw [hlo i 0 (.inl (by decide)) hi]
  refine R.lk.congr hr fun x hx => ?_
  have h1 := link_hi hr hx
  have h2 := (where_link hr hx).2
  exact hlo i (p.c.link x).toNat (.inr (by omega)) hi
end Go.Proofs.Ytklbeipdigancaa

