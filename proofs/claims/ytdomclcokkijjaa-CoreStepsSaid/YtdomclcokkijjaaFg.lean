/- The law CoreOnce. -/
import Derived.Test.YtdomclcokkijjaaFf
namespace Go.Proofs.Ytdomclcokkijjaa
open Go.RowKit
attribute [local irreducible] Instr.loadAt Instr.storeAt Instr.fieldAt Instr.indexAt Instr.sliceAt Instr.buildSlice Instr.box Instr.alloc Builtin.append_ Builtin.len_ Builtin.min_ Builtin.max_ Calls Instr.build Instr.makeSlice binSem convert Instr.index Instr.range Instr.next
structure OnI (w0 w' : World) (c : Cf) (T m mp g0 g gc : Nat) (Y : Mc) (fs : List Fr) (r0 : Option Int) (k z : Int) : Prop where
  new : New w0 w' Y
  em : Y.m = m
  emp : Y.mp = mp
  ec : Y.c = c
  eT : Y.ths.length = T
  th : ∃ t, Y.ths[0]? = some t ∧ t.g = g0 ∧ t.fs = fs ∧ ∀ n, r0 = some n → t.r.1 = n
  ot : ∀ j t, Y.ths[j]? = some t → j ≠ 0 → t.fs = []
  tg : (gtags Y.gs).length ≤ 64
  k_ : Y.s.k = k
  on : Y.s.on = false
  L : Y.s.L = []
  W : 10 ≤ Y.s.W.length
  ca : Aside w' Y gc 3 #[.int .i64 z]
  bo : Aside w' Y g 42 (cf7 c)
  gf : w0.heap.size ≤ gc
  ne : g ≠ gc
theorem OnI.upd0 {w0 w' w'' : World} {c : Cf} {T m mp g0 g gc : Nat} {Y : Mc} {fs : List Fr} {r0 : Option Int} {k z : Int} (h : OnI w0 w' c T m mp g0 g gc Y fs r0 k z) (hu : Upd [] w' w'') : OnI w0 w'' c T m mp g0 g gc Y fs r0 k z :=
  ⟨h.new.post (.of0 h.new.ok hu), h.em, h.emp, h.ec, h.eT, h.th, h.ot, h.tg, h.k_, h.on, h.L, h.W, h.ca.upd0 hu, h.bo.upd0 hu, h.gf, h.ne⟩
theorem OnI.core {w0 w' w'' : World} {c : Cf} {T m mp g0 g gc : Nat} {Y : Mc} {fs fs' : List Fr} {r0 r0' : Option Int} {k z : Int} (h : OnI w0 w' c T m mp g0 g gc Y fs r0 k z) {t : Th} (ht : Y.ths[0]? = some t) (hg : t.g = g0) {fv : Value} {r : Int × Int × Int}
    (p : Post w' Y w'' { Y with ths := Y.ths.set 0 { t with fv := fv, fs := fs', r := r } }) (hr : ∀ n, r0' = some n → r.1 = n) : OnI w0 w'' c T m mp g0 g gc { Y with ths := Y.ths.set 0 { t with fv := fv, fs := fs', r := r } } fs' r0' k z := by
  refine ⟨h.new.post p, h.em, h.emp, h.ec, by rw [← h.eT]; simp, ⟨{ t with fv := fv, fs := fs', r := r }, by rw [List.getElem?_set]; simp [ths_lt ht], hg, rfl, hr⟩, fun j u hj hne => ?_, h.tg, h.k_, h.on, h.L, h.W, h.ca.post p, h.bo.post p, h.gf, h.ne⟩
  have hj : (Y.ths.set 0 { t with fv := fv, fs := fs', r := r })[j]? = some u := hj
  rw [List.getElem?_set_ne (by omega)] at hj
  exact h.ot j u hj hne
theorem OnI.memS {w0 w' w'' : World} {c : Cf} {T m mp g0 g gc : Nat} {Y : Mc} {fs : List Fr} {r0 : Option Int} {k k' z : Int} {a b : Bool} {gs : Option Gs} {lv : Value} {s : MS} (h : OnI w0 w' c T m mp g0 g gc Y fs r0 k z) (p : Post w' Y w'' { Y with acted := a, gs := gs, lv := lv, s := s, bad := b })
    (h1 : gtags gs = gtags Y.gs) (h2 : s.k = k') (h3 : s.on = false) (h4 : s.L = []) (h5 : s.W.length = Y.s.W.length) : OnI w0 w'' c T m mp g0 g gc { Y with acted := a, gs := gs, lv := lv, s := s, bad := b } fs r0 k' z :=
  ⟨h.new.post p, h.em, h.emp, h.ec, h.eT, h.th, h.ot, by show (gtags gs).length ≤ 64; rw [h1]; exact h.tg, h2, h3, h4, by show 10 ≤ s.W.length; rw [h5]; exact h.W, h.ca.post p, h.bo.post p, h.gf, h.ne⟩
theorem OnI.call {w0 w' w'' : World} {c : Cf} {T m mp g0 g gc : Nat} {Y : Mc} {fs : List Fr} {r0 : Option Int} {k z z' : Int} (h : OnI w0 w' c T m mp g0 g gc Y fs r0 k z) (hb : Blk w'' gc 3 #[.int .i64 z']) (hu : Upd [gc] w' w'') : OnI w0 w'' c T m mp g0 g gc Y fs r0 k z' :=
  ⟨⟨h.new.ok.aside h.ca.n hu, h.new.up.step hu (by simp; exact h.gf), h.new.fr⟩, h.em, h.emp, h.ec, h.eT, h.th, h.ot, h.tg, h.k_, h.on, h.L, h.W, ⟨hb, h.ca.n⟩, ⟨h.bo.b.upd hu (by simp; exact h.ne), h.bo.n⟩, h.gf, h.ne⟩
theorem OnI.act {w0 w' w'' : World} {c : Cf} {T m mp g0 g gc : Nat} {Y : Mc} {fs : List Fr} {r0 : Option Int} {k z : Int} {a : Bool} (h : OnI w0 w' c T m mp g0 g gc Y fs r0 k z) (p : Post w' Y w'' { Y with acted := a }) : OnI w0 w'' c T m mp g0 g gc { Y with acted := a } fs r0 k z :=
  ⟨h.new.post p, h.em, h.emp, h.ec, h.eT, h.th, h.ot, h.tg, h.k_, h.on, h.L, h.W, h.ca.post p, h.bo.post p, h.gf, h.ne⟩
theorem OnI.roomy {w0 w' : World} {c : Cf} {T m mp g0 g gc : Nat} {Y : Mc} {fs : List Fr} {r0 : Option Int} {k z : Int} (h : OnI w0 w' c T m mp g0 g gc Y fs r0 k z) (h0 : 0 ≤ k) (h1 : k ≤ 1000000) : Roomy Y.s := ⟨by rw [h.k_]; exact h0, by rw [h.k_]; omega, by rw [h.L]; decide⟩
/-- what one call of the routine leaves -/
def OnR (w0 w' : World) (c : Cf) (T m mp g0 g gc : Nat) (pc n k z : Int) (a : Bool) : Prop :=
  (n ≤ pc ∧ ∃ Y, OnI w0 w' c T m mp g0 g gc Y [] (some pc) k (z + 1) ∧ Y.acted = a) ∨
  (pc < n ∧ ((∃ Y, OnI w0 w' c T m mp g0 g gc Y [⟨7, pc + 1, [n]⟩] none (k + 1) (z + 1) ∧ Y.acted = true) ∨ ∃ Y, OnI w0 w' c T m mp g0 g gc Y [⟨7, pc + 1, [n]⟩] none k (z + 1) ∧ Y.acted = a))
set_option maxRecDepth 10000 in
theorem once_r {w0 w : World} {c : Cf} {T m mp g0 g gc : Nat} {Y : Mc} {pc n k z : Int} (hc : rightC c) (I : OnI w0 w c T m mp g0 g gc Y [⟨7, pc, [n]⟩] none k z) (h0 : 0 ≤ pc) (h1 : pc ≤ n) (h2 : n ≤ 30) (k0 : 0 ≤ k) (k1 : k ≤ 1000000) (z0 : 0 ≤ z) (z1 : z ≤ 1000000) :
    Fn Try.prog 44 #[ptrV m, ptrV g0, .pointer (some ⟨gc, 0, none⟩)] w fun _ w' => OnR w0 w' c T m mp g0 g gc pc n k z Y.acted := by
  obtain ⟨t, ht, hg, hfs, -⟩ := I.th
  obtain ⟨fb, fo, fc, hfv⟩ := I.new.ok.fr_ ht (by rw [hfs]; simp)
  have hfs' : t.fs = [] ++ [⟨7, pc, [n]⟩] := hfs
  have em := I.em
  subst em
  subst hg
  refine fn_enter Try.func44 rfl rfl ?_
  have htop := top_mm I.new.ok ht hfs' (by simp) hfv
  refine cl htop ?_
  rintro _ _ ⟨rfl, rfl⟩
  replace I := I.upd0 (Upd.refl [] w).drew
  generalize w.drew = w1 at *
  refine ld (v := .int .i64 z) (I.ca.b.cell 0) ?_
  refine ar64 (by omega) ?_
  refine st I.ca.b (by show 0 < 1; omega) rfl fun w2 hb2 hu2 hs2 => ?_
  replace I : OnI w0 w2 c T Y.m mp t.g g gc Y [⟨7, pc, [n]⟩] none k (z + 1) := I.call hb2 hu2
  have htc : ∀ w', Upd [] w2 w' → ∀ j, j < 12 → w'.cell? ⟨fb, fo + 0 * 12 + j, none⟩ = (frC ⟨7, pc, [n]⟩)[j]? := fun w' hu j hj => (I.new.ok.upd0 hu).top ht hfs' hfv j hj
  refine draw_all (fun w' => Upd [] w2 w') (by decide +kernel) (Upd.refl [] w2).drew ?_
  refine q_fa ?_
  refine q_ld (v := .int .i64 pc) (fun w' hw' => htc w' hw' 1 (by omega)) ?_
  refine q_fa ?_
  refine q_ixA 0 rfl (by omega) ?_
  refine q_ld (v := .int .u64 n) (fun w' hw' => htc w' hw' 2 (by omega)) ?_
  refine rq (.int .i64 n) (fun _ _ => cv (ar64 (by omega) ⟨rfl, rfl⟩)) ?_
  intro w3 hw3
  have htc3 : ∀ j, j < 12 → w3.cell? ⟨fb, fo + 0 * 12 + j, none⟩ = (frC ⟨7, pc, [n]⟩)[j]? := htc w3 hw3
  replace I := I.upd0 hw3
  refine cd (fun hge => ?_) (fun hge => ?_)
  · refine fa ?_
    refine ld (v := .int .i64 pc) (htc3 1 (by omega)) ?_
    refine cv ?_
    refine arU (by omega) ?_
    refine bs #[.int .u64 pc] (fun _ => by kernel_rfl) fun w4 hb4 hu4 hs4 => ?_
    have I4 := I.upd0 hu4
    have hpop := pop_mm (l := [pc]) I4.new.ok ht hfs' (by simp) (v := .slice (some ⟨w3.heap.size, 0, none⟩) 1 1) (fun w' hu => RdK.of_sl (e := 27) (n := 1) (Sl.lit (n := 1) (hb4.upd hu (by
      have := (I.new.ok.core ht).blk.lt
      simp; omega)) rfl (by decide)))
    refine cl hpop ?_
    rintro _ w5 ⟨fv', p5⟩
    exact .inl ⟨hge, _, I4.core (r0' := some pc) ht rfl p5 (fun n hn => by injection hn), rfl⟩
  · refine fa ?_
    refine ld (v := .int .i64 pc) (htc3 1 (by omega)) ?_
    refine ar64 (by omega) ?_
    refine fa ?_
    refine st_fr I.new.ok ht hfs' hfv 1 (by omega) rfl rfl (frC_pc ⟨7, pc, [n]⟩ (pc + 1)) fun w4 p4 => ?_
    have I4 : OnI w0 w4 c T Y.m mp t.g g gc _ [⟨7, pc + 1, [n]⟩] none k (z + 1) := I.core ht rfl p4 (fun n hn => by cases hn)
    obtain ⟨t4, ht4, hg4, hfs4, -⟩ := I4.th
    have hfv4 : t4.fv = .slice (some ⟨fb, fo, none⟩) t4.fs.length fc := by
      have h5 : (Y.ths.set 0 { t with fs := [] ++ [{ (⟨7, pc, [n]⟩ : Fr) with pc := pc + 1 }] })[0]? = some t4 := ht4
      rw [List.getElem?_set] at h5
      simp [ths_lt ht] at h5
      subst h5
      rw [hfv, hfs]; rfl
    refine fa ?_
    refine ld (v := .int .i64 (pc + 1)) (I4.new.ok.top ht4 (fs := []) hfs4 hfv4 1 (by omega)) ?_
    refine rm (by decide) ?_
    refine val _ rfl ?_
    refine cd (fun h3 => ?_) (fun h3 => ?_)
    · have hld := load_m I4.new.ok (by rw [I4.ec]; exact hc) I4.tg (I4.roomy k0 k1) 1
      refine cl hld ?_
      rintro _ w5 ⟨rfl, lv, p5⟩
      have hok : okA Y.s 1 := ⟨by omega, by have := I.W; omega⟩
      have e : ldS Y.s 1 = tick Y.s (0, 1, -1, false) := if_pos hok
      refine .inr ⟨by omega, .inl ⟨_, I4.memS p5 (tch_tags _ _ _) ?_ ?_ ?_ ?_, rfl⟩⟩
      · show (ldS Y.s 1).k = k + 1
        rw [e, ← I.k_]; rfl
      · show (ldS Y.s 1).on = false
        rw [e]; exact I.on
      · show (ldS Y.s 1).L = []
        rw [e]
        show (if Y.s.on then _ else Y.s.L) = []
        rw [I.on]; exact I.L
      · show (ldS Y.s 1).W.length = _
        rw [e]; rfl
    · exact .inr ⟨by omega, .inr ⟨_, I4, rfl⟩⟩
/-- between the rounds of a step -/
def OnJ (w0 : World) (c : Cf) (T m mp g0 g gc : Nat) (n k zb pc0 : Int) (Y : Mc) (w' : World) (ms : Nat) : Prop :=
  (∃ pc z, OnI w0 w' c T m mp g0 g gc Y [⟨7, pc, [n]⟩] none k z ∧ Y.acted = false ∧ pc0 ≤ pc ∧ pc ≤ n ∧ 0 ≤ z ∧ z ≤ zb + pc ∧ ms = (n - pc + 1).toNat) ∨
  (∃ pc z, OnI w0 w' c T m mp g0 g gc Y [⟨7, pc, [n]⟩] none (k + 1) z ∧ Y.acted = true ∧ pc0 < pc ∧ pc ≤ n ∧ 0 ≤ z ∧ z ≤ zb + pc ∧ ms = 0) ∨
  (∃ z, OnI w0 w' c T m mp g0 g gc Y [] (some n) k z ∧ 0 ≤ z ∧ z ≤ zb + n + 1 ∧ ms = 0)
theorem OnJ.info {w0 : World} {c : Cf} {T m mp g0 g gc : Nat} {n k zb pc0 : Int} {Y : Mc} {w' : World} {ms : Nat} (h : OnJ w0 c T m mp g0 g gc n k zb pc0 Y w' ms) : Mach w' Y ∧ Y.m = m ∧ ∃ t, Y.ths[0]? = some t ∧ t.g = g0 ∧ t.fs.length ≤ 100000 := by
  rcases h with ⟨pc, z, I, -⟩ | ⟨pc, z, I, -⟩ | ⟨z, I, -⟩
  all_goals
    obtain ⟨t, h1, h2, h3, -⟩ := I.th
    exact ⟨I.new.ok, I.em, t, h1, h2, by rw [h3]; simp⟩
instance : HasBody Try.prog 44 := inferInstance
theorem once_step {w0 w : World} {c : Cf} {T m mp g0 g gc : Nat} {Y : Mc} {pc n k z zb : Int} (hc : rightC c) (hT : T ≤ 100) (I : OnI w0 w c T m mp g0 g gc Y [⟨7, pc, [n]⟩] none k z) (h0 : 0 ≤ pc) (h1 : pc ≤ n) (h2 : n ≤ 30) (k0 : 0 ≤ k) (k1 : k ≤ 1000000) (z0 : 0 ≤ z) (z1 : z ≤ zb + pc) (hzb : zb ≤ 900000) :
    Fn Try.prog 47 #[ptrV m, .int .i64 0, .func (.func 44) #[] #[.pointer (some ⟨gc, 0, none⟩)]] w fun r w' =>
      (∃ Y pc' z', OnI w0 w' c T m mp g0 g gc Y [⟨7, pc', [n]⟩] none (k + 1) z' ∧ pc < pc' ∧ pc' ≤ n ∧ 0 ≤ z' ∧ z' ≤ zb + pc' ∧ r = .bool true) ∨
      (∃ Y z', OnI w0 w' c T m mp g0 g gc Y [] (some n) k z' ∧ 0 ≤ z' ∧ z' ≤ zb + n + 1 ∧ r = .bool false) := by
  obtain ⟨t, ht, hg, hfs, -⟩ := I.th
  have hst := step_mm (i := 0) (f := 44) (ys := #[.pointer (some ⟨gc, 0, none⟩)]) (OnJ w0 c T m mp g0 g gc n k zb pc) (n - pc + 1).toNat I.new.ok ht hg (by rw [I.eT]; exact hT)
    (fun w' p => .inl ⟨pc, z, I.act p, rfl, by omega, h1, z0, z1, rfl⟩) (fun Y' w' n' hJ => by rw [I.em]; exact hJ.info) (fun Y' w' n' t' hJ ht' ha hne => by
      rw [I.em]
      rcases hJ with ⟨pc1, z1, I1, ha1, q1, q2, q3, q4, rfl⟩ | ⟨pc1, z1, I1, ha1, -⟩ | ⟨z1, I1, -⟩
      · refine (once_r hc I1 (by omega) q2 h2 k0 k1 q3 (by omega)).mono fun e w'' ⟨u, he, hR⟩ => ⟨u, he, ?_⟩
        rcases hR with ⟨r1, Y2, I2, -⟩ | ⟨r1, ⟨Y2, I2, a2⟩ | ⟨Y2, I2, a2⟩⟩
        · have : pc1 = n := by omega
          rw [this] at I2
          exact ⟨Y2, 0, .inr (.inr ⟨_, I2, by omega, by omega, rfl⟩), by omega⟩
        · exact ⟨Y2, 0, .inr (.inl ⟨_, _, I2, a2, by omega, by omega, by omega, by omega, rfl⟩), by omega⟩
        · exact ⟨Y2, (n - (pc1 + 1) + 1).toNat, .inl ⟨_, _, I2, by rw [a2]; exact ha1, by omega, by omega, by omega, by omega, rfl⟩, by omega⟩
      · rw [ha1] at ha; cases ha
      · obtain ⟨t2, g1, -, g3, -⟩ := I1.th
        rw [g1] at ht'
        cases ht'
        exact absurd g3 hne)
  rw [I.em] at hst
  refine hst.mono fun e w' ⟨u, he, Y', n', t', hJ, ht', hor, hr⟩ => ⟨u, he, ?_⟩
  rcases hJ with ⟨pc1, z1, I1, ha1, q1, q2, q3, q4, rfl⟩ | ⟨pc1, z1, I1, ha1, q1, q2, q3, q4, rfl⟩ | ⟨z1, I1, q3, q4, rfl⟩
  · obtain ⟨t2, g1, -, g3, -⟩ := I1.th
    rw [g1] at ht'
    cases ht'
    rcases hor with h | h
    · rw [ha1] at h; cases h
    · rw [g3] at h; cases h
  · obtain ⟨t2, g1, -, g3, -⟩ := I1.th
    rw [g1] at ht'
    cases ht'
    exact .inl ⟨Y', pc1, z1, I1, q1, q2, q3, q4, by rw [hr, g3]; rfl⟩
  · obtain ⟨t2, g1, -, g3, -⟩ := I1.th
    rw [g1] at ht'
    cases ht'
    exact .inr ⟨Y', z1, I1, q3, q4, by rw [hr, g3]; rfl⟩
end Go.Proofs.Ytdomclcokkijjaa
