/- Joined: Hc Hd He V21 Hf Ia Ib Ic Id Ie If. -/
import Derived.Test.YtklbeipdigancaaJ2
import Derived.Test.YtklbeipdigancaaJ1
/- The arena alone: what a routine does to the list. -/
namespace Go.Proofs.Ytklbeipdigancaa
open Go.RowKit
attribute [local irreducible] Instr.loadAt Instr.storeAt Instr.fieldAt Instr.indexAt Instr.sliceAt Instr.buildSlice Instr.box Instr.alloc Builtin.append_ Builtin.len_ Builtin.min_ Builtin.max_ Calls Instr.build Instr.makeSlice binSem convert Instr.index Instr.range Instr.next
/-- a machine with other memory, ghosts, and first thread -/
def M (p : PS) (a : Bool) (k : Int) (W : List Int) (gh : Option (List Int × Int × Int)) (t : PT) : PS := ⟨p.c, W, k, gh, a, p.bad, p.ths.set 0 t⟩
section
variable {p : PS} {a : Bool} {k : Int} {W : List Int} {gh : Option (List Int × Int × Int)} {t : PT}
theorem M_put (t' : PT) : (M p a k W gh t).put 0 t' = M p a k W gh t' := by unfold M PS.put; simp
theorem M_calm : calm0 (M p a k W gh t) = M p false k W gh t := rfl
theorem M_th {t0 : PT} (h : p.ths[0]? = some t0) : (M p a k W gh t).ths[0]? = some t := by
  show (p.ths.set 0 t)[0]? = _
  rw [List.getElem?_set, if_pos rfl, if_pos (List.getElem?_eq_some_iff.1 h).1]
theorem M_tchd {x : Int} (hw : (p.c.where_ x).1 ≠ 3) : (M p a k W gh t).tchd [x] = gh := by
  cases gh with
  | none => rfl
  | some g =>
    show some (if (p.c.where_ x).1 = 3 then (g.1, gto g.1 g.2.1 g.2.2 (p.c.where_ x).2.1) else g) = some g
    rw [if_neg hw]
theorem M_load {x : Int} (hx : 0 ≤ x ∧ x < W.length) (hw : (p.c.where_ x).1 ≠ 3) : (M p a k W gh t).load x = M p true (k + 1) W gh t := by
  have ho : (M p a k W gh t).okP x := hx
  unfold PS.load
  rw [M_tchd hw, if_pos ho, decide_eq_true ho]
  show (⟨p.c, W, k + 1, gh, true, p.bad || !true, p.ths.set 0 t⟩ : PS) = _
  simp [M]
theorem M_ldv {x : Int} (hx : 0 ≤ x ∧ x < W.length) : (M p a k W gh t).ldv x = W.getD x.toNat 0 := by
  have ho : (M p a k W gh t).okP x := hx
  unfold PS.ldv
  rw [if_pos ho]; rfl
theorem M_store {x y : Int} (hx : 0 ≤ x ∧ x < W.length) (hw : (p.c.where_ x).1 ≠ 3) : (M p a k W gh t).store x y = M p true (k + 1) (W.set x.toNat y) gh t := by
  have ho : (M p a k W gh t).okP x := hx
  unfold PS.store
  rw [M_tchd hw, if_pos ho, if_pos ho, decide_eq_true ho]
  show (⟨p.c, W.set x.toNat y, k + 1, gh, true, p.bad || !true, p.ths.set 0 t⟩ : PS) = _
  simp [M]
theorem M_cas {x y : Int} (hx : 0 ≤ x ∧ x < W.length) (hw : (p.c.where_ x).1 ≠ 3) : (M p a k W gh t).cas x (W.getD x.toNat 0) y = M p true (k + 1) (W.set x.toNat y) gh t := by
  have ho : (M p a k W gh t).okP x := hx
  unfold PS.cas
  rw [M_tchd hw, if_pos ho, decide_eq_true ho]
  have hc : (M p a k W gh t).okP x ∧ (M p a k W gh t).rd x = W.getD x.toNat 0 := ⟨ho, rfl⟩
  rw [if_pos hc]
  show (⟨p.c, W.set x.toNat y, k + 1, gh, true, p.bad || !true, p.ths.set 0 t⟩ : PS) = _
  simp [M]
theorem M_casv {x : Int} (hx : 0 ≤ x ∧ x < W.length) : (M p a k W gh t).casv x (W.getD x.toNat 0) = true := decide_eq_true ⟨hx, rfl⟩
theorem M_deed {tg : List Int} {i frm to kind : Int} (hi : 1 ≤ i ∧ i ≤ tg.length) (hf : tg.getD (i - 1).toNat 0 = frm) : (M p a k W (some (tg, 0, 0)) t).deed i frm to kind = M p a k W (some (tg.set (i - 1).toNat to, 0, 0)) t := by
  show (⟨p.c, W, k, some (gt tg 0 0 i frm to kind).2, a, p.bad, p.ths.set 0 t⟩ : PS) = _
  unfold gt
  rw [if_neg (by omega), if_pos hf]; rfl
theorem M_ok {b b' : Int} {tg : List Int} (h : p.Ok b) (hk : 0 ≤ k ∧ k ≤ b') (hW : ∀ x ∈ W, u64R x) (hl : W.length = p.W.length) (hg : tg.length ≤ 64) (n1 n2 : Int) : (M p a k W (some (tg, n1, n2)) t).Ok b' := ⟨h.r, hg, hk.1, hk.2, hW, hl.trans h.l⟩
end
theorem where_0 {c : Cf} (hr : rightC c) : (c.where_ 0).1 ≠ 3 := by
  have hz := size_bd hr
  unfold Cf.where_ whereP
  rw [if_neg (by omega), if_pos (by decide)]; decide
theorem where_link {c : Cf} (hr : rightC c) {x : Int} (hx : 1 ≤ x ∧ x ≤ c.N) : (c.where_ (c.link x)).1 ≠ 3 ∧ 10 ≤ c.link x ∧ c.link x < sizeP c.A c.T c.N c.L := by
  obtain ⟨A, T, N, L, B, P, S⟩ := c
  obtain ⟨b1, b2, b3, b4, b5, b6, b7, b8, b9, b10, b11, b12⟩ := plan_bd hr
  have hx : 1 ≤ x ∧ x ≤ N := hx
  have e : Cf.link ⟨A, T, N, L, B, P, S⟩ x = linksP A T L + x - 1 := by unfold Cf.link linkA; rw [if_pos hx]
  rw [e]
  refine ⟨?_, by omega, (by omega : linksP A T L + x - 1 < sizeP A T N L)⟩
  unfold Cf.where_ whereP
  simp only
  rw [if_neg (by omega), if_neg (by omega), if_neg (by omega), if_pos (by omega)]
  show (2 : Int) ≠ 3
  decide
theorem link_inj {c : Cf} {x y : Int} (hx : 1 ≤ x ∧ x ≤ c.N) (hy : 1 ≤ y ∧ y ≤ c.N) (h : c.link x = c.link y) : x = y := by
  unfold Cf.link linkA at h
  rw [if_pos hx, if_pos hy] at h
  omega
def Lk (c : Cf) (W : List Int) : Int → List Int → Prop
  | n, [] => n = 0
  | n, x :: l => n = x ∧ (1 ≤ x ∧ x ≤ c.N) ∧ Lk c W (toI (W.getD (c.link x).toNat 0)) l
theorem Lk.mem {c : Cf} {W : List Int} : ∀ {l : List Int} {n : Int}, Lk c W n l → ∀ x ∈ l, 1 ≤ x ∧ x ≤ c.N
  | [], _, _, x, hx => by cases hx
  | y :: l, n, h, x, hx => by
    rcases List.mem_cons.1 hx with e | e
    · rw [e]; exact h.2.1
    · exact Lk.mem h.2.2 x e
theorem getD_set {l : List Int} {i j : Nat} {v : Int} (h : i ≠ j) : (l.set i v).getD j 0 = l.getD j 0 := by
  simp [List.getD, List.getElem?_set, h]
theorem setD_self {l : List Int} {i : Nat} {v : Int} (h : i < l.length) : (l.set i v).getD i 0 = v := by
  simp [List.getD, h]
theorem Lk.set {c : Cf} {W : List Int} {i : Nat} {v : Int} : ∀ {l : List Int} {n : Int}, Lk c W n l → (∀ x ∈ l, (c.link x).toNat ≠ i) → Lk c (W.set i v) n l
  | [], _, h, _ => h
  | y :: l, n, h, hi => ⟨h.1, h.2.1, by
    rw [getD_set (Ne.symm (hi y List.mem_cons_self))]
    exact Lk.set h.2.2 (fun x hx => hi x (List.mem_cons_of_mem _ hx))⟩
structure Rep (p : PS) (free tg : List Int) (b : Int) : Prop where
  ok : p.Ok b
  th : ∃ t, p.ths[0]? = some t ∧ t.fs = []
  lk : Lk p.c p.W (ptrW (p.W.getD 0 0)) free
  gh : p.gh = some (tg, 0, 0)
  nd : free.Nodup
  tag : ∀ x ∈ free, tg.getD (x - 1).toNat 0 = 0
  tl : (tg.length : Int) = p.c.N
  bad : p.bad = false
theorem Rep.up {p : PS} {l tg : List Int} {b c : Int} (R : Rep p l tg b) (h : b ≤ c) : Rep p l tg c := ⟨R.ok.up h, R.th, R.lk, R.gh, R.nd, R.tag, R.tl, R.bad⟩
theorem toI_small {x : Int} (h : 0 ≤ x ∧ x < 65536) : toI x = x := IntWalk.i64_in x (by omega)
theorem ptr_next {x n : Int} (h : 0 ≤ n ∧ n < 65536) : ptrW (nextW x n) = n := by
  unfold ptrW nextW
  have e : n % 18446744073709551616 % 65536 = n := by rw [Int.emod_eq_of_lt (by omega) (by omega), Int.emod_eq_of_lt (by omega) (by omega)]
  rw [e]; omega
theorem Lk.small {c : Cf} (hr : rightC c) {W : List Int} {l : List Int} {n : Int} (h : Lk c W n l) : 0 ≤ n ∧ n < 65536 := by
  have hN := N_bd hr
  cases l with
  | nil => have : n = 0 := h; omega
  | cons x l => have := h.1; have := h.2.1; omega
theorem pushed_M {p : PS} {t : PT} (h : p.ths[0]? = some t) (hf : t.fs = []) (fn x : Int) : pushed p fn x = M p p.acted p.k p.W p.gh { t with fs := [⟨fn, 0, [x]⟩] } := by
  unfold pushed
  rw [h]
  show p.put 0 { t with fs := t.fs ++ [⟨fn, 0, [x]⟩] } = _
  rw [hf]; rfl
theorem regs_1 {x : Int} (h : u64R x) : ∀ j, u64R (([x] : List Int).getD j 0)
  | 0 => h
  | _ + 1 => (⟨by decide, by decide⟩ : u64R 0)
theorem regs_I {l : List Int} {k : Nat} {x : Int} (h : ∀ j, u64R (l.getD j 0)) (hx : u64R x) (j : Nat) : u64R ((regI l k x).getD j 0) := by
  rcases Nat.lt_or_ge j 10 with hj | hj
  · rw [regI_at _ _ _ _ hj]
    split
    · exact hx
    · exact h j
  · have : (regI l k x).getD j 0 = 0 := by simp [List.getD, regI, List.getElem?_eq_none, hj]
    rw [this]; exact ⟨by decide, by decide⟩
theorem al_spec {p : PS} {x : Int} {l tg : List Int} {b : Int} (R : Rep p (x :: l) tg b) (hb : b + 3 ≤ 900000) {y : Int} (hy : u64R y) : ∃ q, Runs 3 (pushed p 1 y) q ∧ Rep q l (tg.set (x - 1).toNat 1) (b + 3) ∧ q.k = p.k + 3 ∧ ret0 q = x ∧ q.c = p.c := by
  obtain ⟨t, ht, hf⟩ := R.th
  have hr := R.ok.r
  have hz := size_bd hr
  have hW := R.ok.l
  obtain ⟨e0, hx, hlk⟩ := R.lk
  obtain ⟨w1, w2, w3⟩ := where_link hr hx
  have hNb := N_bd hr
  have w0 := where_0 hr
  have hk0 := R.ok.k0
  have hk1 := R.ok.k1
  have h0l : 0 ≤ (0 : Int) ∧ (0 : Int) < p.W.length := by omega
  have hl1 : 0 ≤ p.c.link x ∧ p.c.link x < p.W.length := by omega
  have htl := R.tl
  have hu0 := u64_getD R.ok.w 0
  have hu1 := u64_getD R.ok.w (p.c.link x).toNat
  have hsm := hlk.small hr
  have h0' : p.W.getD (0 : Int).toNat 0 = p.W.getD 0 0 := rfl
  rw [pushed_M ht hf, R.gh]
  refine ⟨M p true (p.k + 3) (p.W.set 0 (nextW (p.W.getD 0 0) (toI (p.W.getD (p.c.link x).toNat 0)))) (some (tg.set (x - 1).toNat 1, 0, 0)) { t with fs := [], r := (x, 0, 0) }, ?_, ?_, rfl, ?_, rfl⟩
  · refine ⟨_, _, M_th ht, rfl, regs_1 hy, .inl rfl, M_ok R.ok ⟨by omega, by omega⟩ R.ok.w rfl (by omega) 0 0, ?_⟩
    have s1 : arDo (calm0 (M p p.acted p.k p.W (some (tg, 0, 0)) { t with fs := [⟨1, 0, [y]⟩] })) 0 { t with fs := [⟨1, 0, [y]⟩] } [] ⟨1, 0, [y]⟩ = M p true (p.k + 1) p.W (some (tg, 0, 0)) { t with fs := [⟨1, 1, regI [y] 0 (p.W.getD 0 0)⟩] } := by
      rw [M_calm]
      unfold arDo arAlloc
      rw [if_pos rfl, if_pos rfl, M_ldv h0l, h0', if_neg (by omega), M_load h0l w0, M_put]; rfl
    rw [s1]
    have hr1 := regs_I (k := 0) (regs_1 hy) hu0
    refine ⟨_, _, M_th ht, rfl, hr1, .inl rfl, M_ok R.ok ⟨by omega, by omega⟩ R.ok.w rfl (by omega) 0 0, ?_⟩
    have g0 : (regI [y] 0 (p.W.getD 0 0)).getD 0 0 = p.W.getD 0 0 := by rw [regI_at _ _ _ _ (by omega)]; rfl
    have s2 : arDo (calm0 (M p true (p.k + 1) p.W (some (tg, 0, 0)) { t with fs := [⟨1, 1, regI [y] 0 (p.W.getD 0 0)⟩] })) 0 { t with fs := [⟨1, 1, regI [y] 0 (p.W.getD 0 0)⟩] } [] ⟨1, 1, regI [y] 0 (p.W.getD 0 0)⟩ = M p true (p.k + 1 + 1) p.W (some (tg, 0, 0)) { t with fs := [⟨1, 2, regI (regI [y] 0 (p.W.getD 0 0)) 1 (p.W.getD (p.c.link x).toNat 0)⟩] } := by
      rw [M_calm]
      unfold arDo arAlloc
      rw [if_pos rfl, if_neg (by show ¬ (1 : Int) = 0; decide), if_pos rfl]
      show ((M p false (p.k + 1) p.W (some (tg, 0, 0)) _).load (p.c.link (ptrW ((regI [y] 0 (p.W.getD 0 0)).getD 0 0)))).put 0 (topped _ [] ⟨1, 2, regI (regI [y] 0 (p.W.getD 0 0)) 1 ((M p false (p.k + 1) p.W (some (tg, 0, 0)) _).ldv (p.c.link (ptrW ((regI [y] 0 (p.W.getD 0 0)).getD 0 0))))⟩) = _
      rw [g0, e0, M_ldv hl1, M_load hl1 w1, M_put]; rfl
    rw [s2]
    have hr2 := regs_I (k := 1) hr1 hu1
    refine ⟨_, _, M_th ht, rfl, hr2, .inl rfl, M_ok R.ok ⟨by omega, by omega⟩ R.ok.w rfl (by omega) 0 0, ?_⟩
    have g1 : (regI (regI [y] 0 (p.W.getD 0 0)) 1 (p.W.getD (p.c.link x).toNat 0)).getD 0 0 = p.W.getD 0 0 := by rw [regI_at _ _ _ _ (by omega), if_neg (by decide)]; exact g0
    have g2 : (regI (regI [y] 0 (p.W.getD 0 0)) 1 (p.W.getD (p.c.link x).toNat 0)).getD 1 0 = p.W.getD (p.c.link x).toNat 0 := by rw [regI_at _ _ _ _ (by omega)]; rfl
    generalize regI (regI [y] 0 (p.W.getD 0 0)) 1 (p.W.getD (p.c.link x).toNat 0) = rg at *
    refine ⟨?_, ?_⟩
    · rw [M_calm]
      unfold arDo arAlloc
      rw [if_pos rfl, if_neg (by show ¬ (2 : Int) = 0; decide), if_neg (by show ¬ (2 : Int) = 1; decide)]
      show (if (M p false (p.k + 1 + 1) p.W (some (tg, 0, 0)) _).casv 0 (rg.getD 0 0) = true then (((M p false (p.k + 1 + 1) p.W (some (tg, 0, 0)) _).cas 0 (rg.getD 0 0) (nextW (rg.getD 0 0) (toI (rg.getD 1 0)))).deed (ptrW (rg.getD 0 0)) 0 1 1).put 0 (popped _ [] (ptrW (rg.getD 0 0))) else _) = _
      have hcv : (M p false (p.k + 1 + 1) p.W (some (tg, 0, 0)) { t with fs := [⟨1, 2, rg⟩] }).casv 0 (p.W.getD 0 0) = true := M_casv h0l
      have hcs : (M p false (p.k + 1 + 1) p.W (some (tg, 0, 0)) { t with fs := [⟨1, 2, rg⟩] }).cas 0 (p.W.getD 0 0) (nextW (p.W.getD 0 0) (toI (p.W.getD (p.c.link x).toNat 0))) = _ := M_cas h0l w0
      rw [g1, g2, if_pos hcv, hcs, e0, M_deed (by omega) (R.tag x List.mem_cons_self), M_put]
      show M p true (p.k + 1 + 1 + 1) _ _ _ = M p true (p.k + 3) _ _ _
      rw [show p.k + 1 + 1 + 1 = p.k + 3 by omega]; rfl
    · unfold topL; rw [M_th ht]; rfl
  · have hW' : ∀ z ∈ p.W.set 0 (nextW (p.W.getD 0 0) (toI (p.W.getD (p.c.link x).toNat 0))), u64R z := mem_set_ R.ok.w nextW_bd
    refine ⟨M_ok R.ok ⟨by omega, by omega⟩ hW' (by simp) (by simp; omega) 0 0, ⟨_, M_th ht, rfl⟩, ?_, rfl, (List.nodup_cons.1 R.nd).2, fun z hz => ?_, by simp; exact htl, R.bad⟩
    · show Lk p.c (p.W.set 0 _) (ptrW ((p.W.set 0 _).getD 0 0)) l
      rw [setD_self (by omega), ptr_next hsm]
      exact hlk.set fun z hz => by
        have := (where_link hr (hlk.mem z hz)).2
        omega
    · have h1 := hlk.mem z hz
      have h2 : x ≠ z := fun e => (List.nodup_cons.1 R.nd).1 (by rw [e]; exact hz)
      rw [getD_set (by omega)]
      exact R.tag z (List.mem_cons_of_mem _ hz)
  · unfold ret0; rw [M_th ht]
theorem al_none {p : PS} {tg : List Int} {b : Int} (R : Rep p [] tg b) (hb : b + 3 ≤ 900000) {y : Int} (hy : u64R y) : ∃ q, Runs 1 (pushed p 1 y) q ∧ Rep q [] tg (b + 1) ∧ q.k = p.k + 1 ∧ ret0 q = 0 ∧ q.c = p.c := by
  obtain ⟨t, ht, hf⟩ := R.th
  have hr := R.ok.r
  have hz := size_bd hr
  have hW := R.ok.l
  have e0 : ptrW (p.W.getD 0 0) = 0 := R.lk
  have hNb := N_bd hr
  have w0 := where_0 hr
  have hk0 := R.ok.k0
  have hk1 := R.ok.k1
  have h0l : 0 ≤ (0 : Int) ∧ (0 : Int) < p.W.length := by omega
  have htl := R.tl
  have h0' : p.W.getD (0 : Int).toNat 0 = p.W.getD 0 0 := rfl
  rw [pushed_M ht hf, R.gh]
  refine ⟨M p true (p.k + 1) p.W (some (tg, 0, 0)) { t with fs := [], r := (0, 0, 0) }, ?_, ?_, rfl, ?_, rfl⟩
  · refine ⟨_, _, M_th ht, rfl, regs_1 hy, .inl rfl, M_ok R.ok ⟨by omega, by omega⟩ R.ok.w rfl (by omega) 0 0, ?_, ?_⟩
    · rw [M_calm]
      unfold arDo arAlloc
      rw [if_pos rfl, if_pos rfl, M_ldv h0l, h0', if_pos e0, M_load h0l w0, M_put]; rfl
    · unfold topL; rw [M_th ht]; rfl
  · exact ⟨M_ok R.ok ⟨by omega, by omega⟩ R.ok.w rfl (by omega) 0 0, ⟨_, M_th ht, rfl⟩, R.lk, rfl, R.nd, R.tag, htl, R.bad⟩
  · unfold ret0; rw [M_th ht]
theorem rel_spec {p : PS} {x : Int} {l tg : List Int} {b : Int} (R : Rep p l tg b) (hb : b + 3 ≤ 900000) (hx : 1 ≤ x ∧ x ≤ p.c.N) (htx : tg.getD (x - 1).toNat 0 = 2) : ∃ q, Runs 3 (pushed p 2 x) q ∧ Rep q (x :: l) (tg.set (x - 1).toNat 0) (b + 3) ∧ q.k = p.k + 3 ∧ ret0 q = x ∧ q.c = p.c := by
  obtain ⟨t, ht, hf⟩ := R.th
  have hr := R.ok.r
  have hz := size_bd hr
  have hW := R.ok.l
  have hlk := R.lk
  obtain ⟨w1, w2, w3⟩ := where_link hr hx
  have hNb := N_bd hr
  have w0 := where_0 hr
  have hk0 := R.ok.k0
  have hk1 := R.ok.k1
  have h0l : 0 ≤ (0 : Int) ∧ (0 : Int) < p.W.length := by omega
  have hl1 : 0 ≤ p.c.link x ∧ p.c.link x < p.W.length := by omega
  have htl := R.tl
  have hu0 := u64_getD R.ok.w 0
  have hsm := hlk.small hr
  have h0' : p.W.getD (0 : Int).toNat 0 = p.W.getD 0 0 := rfl
  have hy : u64R x := ⟨by omega, by omega⟩
  have hxI : toI x = x := toI_small (by omega)
  have hnm : x ∉ l := fun h => by rw [R.tag x h] at htx; exact absurd htx (by decide)
  rw [pushed_M ht hf, R.gh]
  refine ⟨M p true (p.k + 3) ((p.W.set (p.c.link x).toNat (ptrW (p.W.getD 0 0))).set 0 (nextW (p.W.getD 0 0) x)) (some (tg.set (x - 1).toNat 0, 0, 0)) { t with fs := [], r := (x, 0, 0) }, ?_, ?_, rfl, ?_, rfl⟩
  · refine ⟨_, _, M_th ht, rfl, regs_1 hy, .inr rfl, M_ok R.ok ⟨by omega, by omega⟩ R.ok.w rfl (by omega) 0 0, ?_⟩
    have s1 : arDo (calm0 (M p p.acted p.k p.W (some (tg, 0, 0)) { t with fs := [⟨2, 0, [x]⟩] })) 0 { t with fs := [⟨2, 0, [x]⟩] } [] ⟨2, 0, [x]⟩ = M p true (p.k + 1) p.W (some (tg, 0, 0)) { t with fs := [⟨2, 1, regI [x] 1 (p.W.getD 0 0)⟩] } := by
      rw [M_calm]
      unfold arDo arRelease
      rw [if_neg (by show ¬ (2 : Int) = 1; decide), if_pos rfl, if_pos rfl, M_ldv h0l, h0', M_load h0l w0, M_put]; rfl
    rw [s1]
    have hr1 := regs_I (k := 1) (regs_1 hy) hu0
    have g0 : (regI [x] 1 (p.W.getD 0 0)).getD 0 0 = x := by rw [regI_at _ _ _ _ (by omega)]; rfl
    have g1 : (regI [x] 1 (p.W.getD 0 0)).getD 1 0 = p.W.getD 0 0 := by rw [regI_at _ _ _ _ (by omega)]; rfl
    generalize regI [x] 1 (p.W.getD 0 0) = rg at *
    refine ⟨_, _, M_th ht, rfl, hr1, .inr rfl, M_ok R.ok ⟨by omega, by omega⟩ R.ok.w rfl (by omega) 0 0, ?_⟩
    have hpu : u64R (ptrW (p.W.getD 0 0)) := ⟨by omega, by omega⟩
    have s2 : arDo (calm0 (M p true (p.k + 1) p.W (some (tg, 0, 0)) { t with fs := [⟨2, 1, rg⟩] })) 0 { t with fs := [⟨2, 1, rg⟩] } [] ⟨2, 1, rg⟩ = M p true (p.k + 1 + 1) (p.W.set (p.c.link x).toNat (ptrW (p.W.getD 0 0))) (some (tg, 0, 0)) { t with fs := [⟨2, 2, rg⟩] } := by
      rw [M_calm]
      unfold arDo arRelease
      rw [if_neg (by show ¬ (2 : Int) = 1; decide), if_pos rfl, if_neg (by show ¬ (1 : Int) = 0; decide), if_pos rfl]
      show ((M p false (p.k + 1) p.W (some (tg, 0, 0)) _).store (p.c.link (toI (rg.getD 0 0))) (ptrW (rg.getD 1 0))).put 0 (topped _ [] ⟨2, 2, rg⟩) = _
      rw [g0, g1, hxI, M_store hl1 w1, M_put]; rfl
    rw [s2]
    have hW2 : ∀ z ∈ p.W.set (p.c.link x).toNat (ptrW (p.W.getD 0 0)), u64R z := mem_set_ R.ok.w hpu
    have hl2 : (p.W.set (p.c.link x).toNat (ptrW (p.W.getD 0 0))).length = p.W.length := by simp
    have h02 : (p.W.set (p.c.link x).toNat (ptrW (p.W.getD 0 0))).getD 0 0 = p.W.getD 0 0 := getD_set (by omega)
    have h02' : (p.W.set (p.c.link x).toNat (ptrW (p.W.getD 0 0))).getD (0 : Int).toNat 0 = p.W.getD 0 0 := h02
    generalize hW2e : p.W.set (p.c.link x).toNat (ptrW (p.W.getD 0 0)) = W2 at *
    refine ⟨_, _, M_th ht, rfl, hr1, .inr rfl, M_ok R.ok ⟨by omega, by omega⟩ hW2 hl2 (by omega) 0 0, ?_⟩
    refine ⟨?_, ?_⟩
    · rw [M_calm]
      unfold arDo arRelease
      rw [if_neg (by show ¬ (2 : Int) = 1; decide), if_pos rfl, if_neg (by show ¬ (2 : Int) = 0; decide), if_neg (by show ¬ (2 : Int) = 1; decide)]
      show (if (M p false (p.k + 1 + 1) W2 (some (tg, 0, 0)) _).casv 0 (rg.getD 1 0) = true then (((M p false (p.k + 1 + 1) W2 (some (tg, 0, 0)) _).cas 0 (rg.getD 1 0) (nextW (rg.getD 1 0) (toI (rg.getD 0 0)))).deed (toI (rg.getD 0 0)) 2 0 3).put 0 (popped _ [] (IntKind.u64.wrap (toI (rg.getD 0 0)))) else _) = _
      have hcv : (M p false (p.k + 1 + 1) W2 (some (tg, 0, 0)) { t with fs := [⟨2, 2, rg⟩] }).casv 0 (p.W.getD 0 0) = true := by rw [← h02']; exact M_casv (by omega)
      have hcs : (M p false (p.k + 1 + 1) W2 (some (tg, 0, 0)) { t with fs := [⟨2, 2, rg⟩] }).cas 0 (p.W.getD 0 0) (nextW (p.W.getD 0 0) x) = M p true (p.k + 1 + 1 + 1) (W2.set 0 (nextW (p.W.getD 0 0) x)) (some (tg, 0, 0)) { t with fs := [⟨2, 2, rg⟩] } := by
        have := M_cas (p := p) (a := false) (k := p.k + 1 + 1) (W := W2) (gh := some (tg, 0, 0)) (t := { t with fs := [⟨2, 2, rg⟩] }) (x := 0) (y := nextW (p.W.getD 0 0) x) (by omega) w0
        rw [h02'] at this
        exact this
      have hxw : IntKind.u64.wrap x = x := by rw [IntKind.wrap_u64]; omega
      rw [g0, g1, hxI, if_pos hcv, hcs, M_deed (by omega) htx, M_put, hxw]
      show M p true (p.k + 1 + 1 + 1) _ _ _ = M p true (p.k + 3) _ _ _
      rw [show p.k + 1 + 1 + 1 = p.k + 3 by omega]; rfl
    · unfold topL; rw [M_th ht]; rfl
  · have hpu : u64R (ptrW (p.W.getD 0 0)) := ⟨by omega, by omega⟩
    have hW' : ∀ z ∈ (p.W.set (p.c.link x).toNat (ptrW (p.W.getD 0 0))).set 0 (nextW (p.W.getD 0 0) x), u64R z := mem_set_ (mem_set_ R.ok.w hpu) nextW_bd
    refine ⟨M_ok R.ok ⟨by omega, by omega⟩ hW' (by simp) (by simp; omega) 0 0, ⟨_, M_th ht, rfl⟩, ?_, rfl, List.nodup_cons.2 ⟨hnm, R.nd⟩, fun z hz => ?_, by simp; exact htl, R.bad⟩
    · show Lk p.c ((p.W.set (p.c.link x).toNat _).set 0 _) (ptrW (((p.W.set (p.c.link x).toNat _).set 0 _).getD 0 0)) (x :: l)
      rw [setD_self (by simp; omega), ptr_next (by omega)]
      refine ⟨rfl, hx, ?_⟩
      rw [getD_set (by omega), setD_self (by omega), toI_small hsm]
      refine (hlk.set fun z hz => ?_).set fun z hz => ?_
      · intro e
        have h1 := (where_link hr (hlk.mem z hz)).2
        have := link_inj (hlk.mem z hz) hx (by omega)
        exact hnm (by rw [← this]; exact hz)
      · have := (where_link hr (hlk.mem z hz)).2
        omega
    · rcases List.mem_cons.1 hz with e | e
      · rw [e, setD_self (by omega)]
      · have h1 := hlk.mem z e
        have h2 : x ≠ z := fun h => hnm (by rw [h]; exact e)
        rw [getD_set (by omega)]
        exact R.tag z e
  · unfold ret0; rw [M_th ht]
theorem Lk.chn {c : Cf} (hr : rightC c) {W : List Int} : ∀ {l : List Int} {n : Int} (m : Nat), l.length ≤ m → Lk c W n l → chn c W m n = l
  | [], n, m, _, h => by
    have h : n = 0 := h
    cases m with
    | zero => rfl
    | succ m =>
      unfold Go.Proofs.Ytklbeipdigancaa.chn
      rw [if_pos]
      rw [h]
      unfold Cf.link linkA
      rw [if_neg (by omega)]; decide
  | x :: l, n, m, hm, h => by
    obtain ⟨m, rfl⟩ : ∃ k, m = k + 1 := ⟨m - 1, by simp at hm; omega⟩
    obtain ⟨rfl, hx, h2⟩ := h
    unfold Go.Proofs.Ytklbeipdigancaa.chn
    rw [if_neg (by have := (where_link hr hx).2; omega)]
    rw [Lk.chn hr m (by simpa using hm) h2]
theorem nodup_len : ∀ (n : Nat) (l : List Int), l.Nodup → (∀ x ∈ l, 1 ≤ x ∧ x ≤ (n : Int)) → l.length ≤ n
  | 0, l, _, h => by
    cases l with
    | nil => exact Nat.le_refl _
    | cons x l => have := h x List.mem_cons_self; omega
  | n + 1, l, hd, h => by
    have h1 := nodup_len n (l.filter fun x => decide (x ≠ ((n + 1 : Nat) : Int))) (hd.filter _) (fun x hx => by
      have h2 := List.mem_filter.1 hx
      have h3 := h x h2.1
      have h4 : x ≠ ((n + 1 : Nat) : Int) := of_decide_eq_true h2.2
      omega)
    have h5 : l.length ≤ (l.filter fun x => decide (x ≠ ((n + 1 : Nat) : Int))).length + 1 := by
      clear h1 h
      induction l with
      | nil => simp
      | cons y l ih =>
        have hy := List.nodup_cons.1 hd
        by_cases he : y = ((n + 1 : Nat) : Int)
        · rw [List.filter_cons_of_neg (by simp [he])]
          have : l.filter (fun x => decide (x ≠ ((n + 1 : Nat) : Int))) = l := List.filter_eq_self.2 fun x hx => decide_eq_true (fun e => hy.1 (by rw [he, ← e]; exact hx))
          rw [this]; simp
        · rw [List.filter_cons_of_pos (by simpa using he)]
          have := ih hy.2
          simp only [List.length_cons]; omega
    omega
theorem Rep.chain {p : PS} {l tg : List Int} {b : Int} (R : Rep p l tg b) : chain p.c p.W = l := by
  have hN := N_bd R.ok.r
  have := nodup_len p.c.N.toNat l R.nd (fun x hx => by have := R.lk.mem x hx; omega)
  exact Lk.chn R.ok.r _ this R.lk
end Go.Proofs.Ytklbeipdigancaa

/- A machine as at first: its list. -/
namespace Go.Proofs.Ytklbeipdigancaa
open Go.RowKit
attribute [local irreducible] Instr.loadAt Instr.storeAt Instr.fieldAt Instr.indexAt Instr.sliceAt Instr.buildSlice Instr.box Instr.alloc Builtin.append_ Builtin.len_ Builtin.min_ Builtin.max_ Calls Instr.build Instr.makeSlice binSem convert Instr.index Instr.range Instr.next
def freeF (n : Nat) : Nat → List Int
  | 0 => []
  | k + 1 => ((n - k : Nat) : Int) :: freeF n k
theorem freeF_mem (n : Nat) : ∀ (k : Nat), k ≤ n → ∀ x ∈ freeF n k, ((n - k : Nat) : Int) < x ∧ x ≤ n
  | 0, _, x, hx => by cases hx
  | k + 1, hk, x, hx => by
    rcases List.mem_cons.1 hx with e | e
    · rw [e]; omega
    · have := freeF_mem n k (by omega) x e; omega
theorem freeF_nodup (n : Nat) : ∀ (k : Nat), k ≤ n → (freeF n k).Nodup
  | 0, _ => List.nodup_nil
  | k + 1, hk => List.nodup_cons.2 ⟨fun h => by have := freeF_mem n k (by omega) _ h; omega, freeF_nodup n k (by omega)⟩
theorem freeF_len (n : Nat) : ∀ k, (freeF n k).length = k
  | 0 => rfl
  | k + 1 => by show (freeF n k).length + 1 = _; rw [freeF_len n k]
theorem firstW_bd {A T N L B P S : Int} (hr : rightC ⟨A, T, N, L, B, P, S⟩) (y : Sp) : u64R (firstW A N L y) := by
  obtain ⟨b1, b2, b3, b4, b5, b6, -⟩ := plan_bd hr
  unfold firstW u64R
  repeat' split
  all_goals omega
theorem W_at {A T N L B P S : Int} (hr : rightC ⟨A, T, N, L, B, P, S⟩) {t n l sl wd nt se : Nat} (U : Nums A T N L t n l sl wd nt se) (j : Nat) (hj : j < 8 + t * sl + n + n * wd + nt) :
    (layS A T N L (newMS (sizeP A T N L).toNat)).W.getD j 0 = firstW A N L (spAt sl wd (8 + t * sl) (8 + t * sl + n) (8 + t * sl + n + n * wd) j) := by
  rw [first_words hr, U.all_, List.getD_eq_getElem?_getD, List.getElem?_map, cat_at t n sl wd nt j hj]
  rfl
theorem lk0 {A T N L B P S : Int} (hr : rightC ⟨A, T, N, L, B, P, S⟩) {t n l sl wd nt se : Nat} (U : Nums A T N L t n l sl wd nt se) : ∀ k, k ≤ n - se → Lk ⟨A, T, N, L, B, P, S⟩ (layS A T N L (newMS (sizeP A T N L).toNat)).W (if k = 0 then 0 else ((n - k + 1 : Nat) : Int)) (freeF n k)
  | 0, _ => rfl
  | k + 1, hk => by
    have q5 := U.b5; have q3 := U.b3; have qe := U.eN; have qs := U.se_
    rw [if_neg (by omega)]
    have hN : (Cf.N ⟨A, T, N, L, B, P, S⟩) = (n : Int) := qe
    refine ⟨by omega, by rw [hN]; omega, ?_⟩
    have e1 : Cf.link ⟨A, T, N, L, B, P, S⟩ ((n - k : Nat) : Int) = ((8 + t * sl + (n - k) - 1 : Nat) : Int) := linkA_of U (n - k) (by omega) (by omega)
    rw [e1, show ((8 + t * sl + (n - k) - 1 : Nat) : Int).toNat = 8 + t * sl + (n - k) - 1 from rfl, W_at hr U _ (by omega)]
    have e2 : spAt sl wd (8 + t * sl) (8 + t * sl + n) (8 + t * sl + n + n * wd) (8 + t * sl + (n - k) - 1) = (2, ((n - k : Nat) : Int), 0) := by
      unfold spAt
      rw [if_neg (by omega), if_neg (by omega), if_pos (by omega), show 8 + t * sl + (n - k) - 1 - (8 + t * sl) + 1 = n - k by omega]
    rw [e2, fw2]
    have ih := lk0 hr U k (by omega)
    by_cases hk0 : k = 0
    · subst hk0
      rw [if_neg (by omega)]
      exact ih
    · rw [if_neg hk0] at ih
      rw [if_pos (by omega), toI_small (by omega)]
      have : (((n - k : Nat) : Int) + 1) = ((n - k + 1 : Nat) : Int) := by omega
      rw [this]; exact ih
theorem rep0 {m mp fp : Nat} {v lv fv tv : Value} {draws : List Int} {gp : Nat} {gv : Value} {ths : List Th} {A T N L B P S : Int} (hr : rightC ⟨A, T, N, L, B, P, S⟩) {t0 : Th} (ht : ths[0]? = some t0) (hf : t0.fs = []) :
    Rep (mc0 m ⟨A, T, N, L, B, P, S⟩ mp v lv (layS A T N L (newMS (sizeP A T N L).toNat)) (some ⟨gp, gv, liveL N.toNat (sentP A).toNat, 0, 0⟩) fp fv draws tv ths).abs (freeF N.toNat (N.toNat - (sentP A).toNat)) (liveL N.toNat (sentP A).toNat) 200 := by
  obtain ⟨t, n, l, sl, wd, nt, se, U⟩ := nums hr
  have q5 := U.b5; have q3 := U.b3; have qe := U.eN; have qs := U.se_
  have e1 : N.toNat = n := by omega
  have e2 : (sentP A).toNat = se := by omega
  have hq := layS_q hr
  have hlen : (layS A T N L (newMS (sizeP A T N L).toNat)).W.length = (sizeP A T N L).toNat := by rw [layS_len, newMS_len]
  refine ⟨⟨hr, ?_, hq.k0, hq.k1, fun x hx => ?_, hlen⟩, ⟨absT t0, ?_, hf⟩, ?_, rfl, freeF_nodup _ _ (by omega), fun x hx => ?_, ?_, rfl⟩
  · show (liveL N.toNat (sentP A).toNat).length ≤ 64
    rw [liveL_len]; omega
  · have hx : x ∈ (layS A T N L (newMS (sizeP A T N L).toNat)).W := hx
    rw [first_words hr] at hx
    obtain ⟨y, -, rfl⟩ := List.mem_map.1 hx
    exact firstW_bd hr y
  · show (ths.map absT)[0]? = _
    rw [List.getElem?_map, ht]; rfl
  · have h := lk0 hr U (n - se) (Nat.le_refl _)
    rw [if_neg (by omega)] at h
    show Lk ⟨A, T, N, L, B, P, S⟩ (layS A T N L (newMS (sizeP A T N L).toNat)).W (ptrW ((layS A T N L (newMS (sizeP A T N L).toNat)).W.getD 0 0)) _
    rw [e1, e2]
    have e3 : ptrW ((layS A T N L (newMS (sizeP A T N L).toNat)).W.getD 0 0) = ((n - (n - se) + 1 : Nat) : Int) := by
      rw [W_at hr U 0 (by omega)]
      show ptrW (firstW A N L (0, 0, 0)) = _
      rw [fw0, if_pos rfl]
      unfold ptrW
      omega
    rw [e3]; exact h
  · have h := freeF_mem N.toNat (N.toNat - (sentP A).toNat) (by omega) x hx
    rw [liveL_at _ _ _ (by omega), if_neg (by omega)]
  · show ((liveL N.toNat (sentP A).toNat).length : Int) = N
    rw [liveL_len]; omega
/-- a machine that has only one thread at work -/
structure Ar (w w' : World) (X : Mc) (l tg : List Int) (b : Int) : Prop where
  new : New w w' X
  rep : Rep X.abs l tg b
  calm : X.s.on = false ∧ X.s.L = []
  tl : X.ths.length ≤ 100
section
variable {w w' w'' : World} {X : Mc} {l tg : List Int} {b : Int}
theorem Ar.upd0 (h : Ar w w' X l tg b) (hu : Upd [] w' w'') : Ar w w'' X l tg b := ⟨⟨h.new.ok.upd0 hu, h.new.up.trans hu, h.new.fr⟩, h.rep, h.calm, h.tl⟩
theorem Ar.t0 (h : Ar w w' X l tg b) : ∃ t, X.ths[0]? = some t ∧ t.fs = [] := by
  obtain ⟨t, h1, h2⟩ := h.rep.th
  have h1 : (X.ths.map absT)[0]? = some t := h1
  rw [List.getElem?_map] at h1
  cases h3 : X.ths[0]? with
  | none => rw [h3] at h1; cases h1
  | some t' =>
    rw [h3] at h1
    have : absT t' = t := Option.some.inj h1
    exact ⟨t', rfl, by rw [← this] at h2; exact h2⟩
theorem Ar.of {q : PS} {l' tg' : List Int} {b' : Int} (h : Ar w w' X l tg b) (e : Ev w' X w'' q) (hq : Rep q l' tg' b') : ∃ Y, Ar w w'' Y l' tg' b' ∧ Y.m = X.m ∧ Y.mp = X.mp ∧ Y.abs = q := by
  obtain ⟨Y, p, k, a⟩ := e
  exact ⟨Y, ⟨h.new.post p, by rw [a]; exact hq, k.calm h.calm, by rw [k.len]; exact h.tl⟩, k.m, k.mp, a⟩
theorem Ar.gone {x : Int} (h : Ar w w' X l tg b) (hx : 1 ≤ x ∧ x ≤ X.abs.c.N) (htx : tg.getD (x - 1).toNat 0 = 1) : Fn Try.prog 57 #[ptrV X.m, .int .i64 x] w' fun _ w'' => ∃ Y, Ar w w'' Y l (tg.set (x - 1).toNat 2) b ∧ Y.m = X.m ∧ Y.mp = X.mp ∧ Y.abs.k = X.abs.k ∧ Y.abs.c = X.abs.c := by
  have R := h.rep
  have htl := R.tl
  refine (gone_p h.new.ok ⟨R.ok, h.calm⟩ x).mono ?_
  rintro e w2 ⟨u, he, hev⟩
  have e1 : X.abs.deed x 1 2 2 = { X.abs with gh := some (tg.set (x - 1).toNat 2, 0, 0) } := by
    unfold PS.deed
    rw [R.gh]
    show ({ X.abs with gh := some (gt tg 0 0 x 1 2 2).2 } : PS) = _
    unfold gt
    rw [if_neg (by omega), if_pos htx]
  rw [e1] at hev
  obtain ⟨Y, a, c, d, f⟩ := h.of (l' := l) (tg' := tg.set (x - 1).toNat 2) (b' := b) hev.ev ⟨⟨R.ok.r, by show (tg.set _ _).length ≤ 64; have := N_bd R.ok.r; simp; omega, R.ok.k0, R.ok.k1, R.ok.w, R.ok.l⟩, R.th, R.lk, rfl, R.nd, fun z hz => by
    have h1 := R.lk.mem z hz
    have h2 := R.tag z hz
    by_cases hzx : z = x
    · rw [hzx] at h2; rw [h2] at htx; exact absurd htx (by decide)
    · rw [getD_set (by omega)]; exact h2, by simp; exact htl, R.bad⟩
  exact ⟨u, he, Y, a, c, d, by rw [f], by rw [f]⟩
theorem Ar.list (h : Ar w w' X l tg b) : Fn Try.prog 28 #[ptrV X.m] w' fun r w'' => Sl w'' 3 1 r l.length (l.map (.int .i64)) ∧ Upd [] w' w'' := by
  have := chain_c h.new.ok h.rep.ok.r h.rep.ok.l h.rep.ok.w
  have e : chain X.c X.s.W = l := h.rep.chain
  rw [e] at this
  exact this
end
end Go.Proofs.Ytklbeipdigancaa

/- lives of chapter 17; the law ArenaOdd. -/
namespace Go.Proofs.Ytklbeipdigancaa
open Go.RowKit
attribute [local irreducible] Instr.loadAt Instr.storeAt Instr.fieldAt Instr.indexAt Instr.sliceAt Instr.buildSlice Instr.box Instr.alloc Builtin.append_ Builtin.len_ Builtin.min_ Builtin.max_ Calls Instr.build Instr.makeSlice binSem convert Instr.index Instr.range Instr.next
theorem ar_new {A T N L B P S : Int} (hr : rightC ⟨A, T, N, L, B, P, S⟩) (w : World) : Fn Try.prog 7 #[.agg (cf7 ⟨A, T, N, L, B, P, S⟩), .slice none 0 0, .bool true] w fun r w' =>
    ∃ X, r = .tuple #[ptrV X.m, .int .i64 0] ∧ Ar w w' X (freeF N.toNat (N.toNat - (sentP A).toNat)) (liveL N.toNat (sentP A).toNat) 200 ∧ X.abs.c = ⟨A, T, N, L, B, P, S⟩ ∧ (X.ths.length : Int) = T ∧ (∀ t ∈ X.ths, t.fs = [] ∧ t.r = (0, 0, 0)) ∧ X.acted = false ∧ X.bad = false := by
  refine (core_new2 (draws := []) true (RdK.nil_ w .u8) (by decide)).mono ?_
  rintro e w1 ⟨r, he, -, hy⟩
  obtain ⟨m, mp, mv, lv, fp, fv, gs, tv, ths, hrt, I, hT, hths, -, hgs⟩ := hy hr
  obtain ⟨gp, gv, rfl⟩ := hgs rfl
  obtain ⟨b1, b2, b3, b4, b5, b6, -⟩ := plan_bd hr
  have hall : ∀ t ∈ ths, t.fs = [] ∧ t.r = (0, 0, 0) := fun t ht => by
    obtain ⟨g, pv, sv, wv, rfl⟩ := hths t ht
    exact ⟨rfl, rfl⟩
  have h0 : ths[0]? = some (ths[0]'(by omega)) := List.getElem?_eq_getElem _
  have hq := layS_q hr
  refine ⟨r, he, _, hrt, ⟨I, rep0 hr h0 (hall _ (List.getElem_mem _)).1, ⟨hq.on, hq.L⟩, ?_⟩, rfl, hT, hall, rfl, rfl⟩
  show ths.length ≤ 100
  omega
theorem top_00 (w : World) : Fn Try.prog 9 #[.pointer none] w fun r w' => r = .pointer none ∧ w' = w := by
  refine fn_enter Try.func9 rfl rfl ?_
  refine ptr_eq0 ?_
  exact ⟨rfl, rfl⟩
theorem do_0 (m : Value) (w : World) : Fn Try.prog 43 #[m, .pointer none] w fun _ w' => w' = w := by
  refine fn_enter Try.func43 rfl rfl ?_
  refine cl (top_00 w) ?_
  rintro _ w ⟨rfl, rfl⟩
  refine ptr_eq0 ?_
  exact rfl
theorem do_idle {w : World} {X : Mc} {t : Th} (h : Mach w X) {i : Nat} (hi : X.ths[i]? = some t) (hf : t.fs = []) (m : Value) : Fn Try.prog 43 #[m, ptrV t.g] w fun _ w' => w' = w := by
  refine fn_enter Try.func43 rfl rfl ?_
  refine cl (top_no h hi hf) ?_
  rintro _ w ⟨rfl, rfl⟩
  refine ptr_eq0 ?_
  exact rfl
theorem arr_eq {w : World} {x y : Operand} : (binSem .eql 38 x y (.agg #[.int .u64 0, .int .u64 0, .int .u64 0]) (.agg #[.int .u64 0, .int .u64 0, .int .u64 0])).run Try.prog w = .ok (.bool true) w := bin_agg (by decide +kernel) (by kernel_rfl)
end Go.Proofs.Ytklbeipdigancaa

/- Things of the call's own that lie apart. -/
namespace Go.Proofs.Ytklbeipdigancaa
open Go.RowKit
attribute [local irreducible] Instr.loadAt Instr.storeAt Instr.fieldAt Instr.indexAt Instr.sliceAt Instr.buildSlice Instr.box Instr.alloc Builtin.append_ Builtin.len_ Builtin.min_ Builtin.max_ Calls Instr.build Instr.makeSlice binSem convert Instr.index Instr.range Instr.next
theorem Sep.sub {w : World} {l l' : List Ob} (h : Sep w l) (hs : l'.Sublist l) : Sep w l' := ⟨fun x hx => h.ok x (hs.subset hx), h.apart.sublist hs⟩
/-- all of them are new since w -/
structure Held (w w' : World) (L : List Ob) : Prop where
  s : Sep w' L
  up : Upd [] w w'
  fr : ∀ k ∈ feet L, w.heap.size ≤ k
section
variable {w w' w'' : World} {L : List Ob}
theorem Held.upd0 (h : Held w w' L) (hu : Upd [] w' w'') : Held w w'' L := ⟨h.s.upd0 hu, h.up.trans hu, h.fr⟩
theorem Held.set {i : Nat} {x y : Ob} (h : Held w w' L) (hi : L[i]? = some x) (hy : y.ok w'') (ht : To w' x.foot w'' y.foot) : Held w w'' (L.set i y) := by
  have t := To.set hi ht
  obtain ⟨h1, h2⟩ := t.new h.up h.fr
  exact ⟨h.s.set hi hy ht, h1, h2⟩
theorem Held.add {y : Ob} (h : Held w w' L) (hu : Upd [] w' w'') (hy : y.ok w'') (hn : ∀ k ∈ y.foot, w'.heap.size ≤ k) : Held w w'' (L ++ [y]) :=
  ⟨h.s.add hu hy hn, h.up.trans hu, fun k hk => by
    rw [feet_app] at hk
    rcases List.mem_append.1 hk with h1 | h1
    · exact h.fr k h1
    · have := hn k (by simpa [feet] using h1)
      have := h.up.size
      omega⟩
theorem Held.sub {L' : List Ob} (h : Held w w' L) (hs : L'.Sublist L) : Held w w' L' := ⟨h.s.sub hs, h.up, fun k hk => by
  obtain ⟨x, hx, hk⟩ := mem_feet.1 hk
  exact h.fr k (mem_feet.2 ⟨x, hs.subset hx, hk⟩)⟩
theorem Held.at_ {i : Nat} {x : Ob} (h : Held w w' L) (hi : L[i]? = some x) : x.ok w' := h.s.at_ hi
theorem Held.nil (hu : Upd [] w w') : Held w w' [] := ⟨Sep.nil w', hu, by simp [feet]⟩
end
end Go.Proofs.Ytklbeipdigancaa

/- The law ArenaAlone. -/
namespace Go.Proofs.Ytklbeipdigancaa
open Go.RowKit
attribute [local irreducible] Instr.loadAt Instr.storeAt Instr.fieldAt Instr.indexAt Instr.sliceAt Instr.buildSlice Instr.box Instr.alloc Builtin.append_ Builtin.len_ Builtin.min_ Builtin.max_ Calls Instr.build Instr.makeSlice binSem convert Instr.index Instr.range Instr.next
structure Mr (w : World) (X : Mc) (l tg : List Int) (b : Int) : Prop where
  ok : Mach w X
  rep : Rep X.abs l tg b
  calm : X.s.on = false ∧ X.s.L = []
  tl : X.ths.length ≤ 100
/-- what comes of it -/
structure Mn (w : World) (X : Mc) (w' : World) (Y : Mc) (l tg : List Int) (b k : Int) : Prop where
  r : Mr w' Y l tg b
  p : Post w X w' Y
  m : Y.m = X.m
  k : Y.abs.k = X.abs.k + k
  c : Y.abs.c = X.abs.c
section
variable {w w' : World} {X : Mc} {l tg : List Int} {b : Int}
theorem Mr.t0 (h : Mr w X l tg b) : ∃ t, X.ths[0]? = some t ∧ t.fs = [] := by
  obtain ⟨t, h1, h2⟩ := h.rep.th
  have h1 : (X.ths.map absT)[0]? = some t := h1
  rw [List.getElem?_map] at h1
  cases h3 : X.ths[0]? with
  | none => rw [h3] at h1; cases h1
  | some t' =>
    rw [h3] at h1
    have : absT t' = t := Option.some.inj h1
    exact ⟨t', rfl, by rw [← this] at h2; exact h2⟩
theorem Mr.of {q : PS} {l' tg' : List Int} {b' k : Int} (h : Mr w X l tg b) (e : Ev w X w' q) (hq : Rep q l' tg' b') (hk : q.k = X.abs.k + k) (hc : q.c = X.abs.c) : ∃ Y, Mn w X w' Y l' tg' b' k := by
  obtain ⟨Y, p, k, a⟩ := e
  exact ⟨Y, ⟨p.ok, by rw [a]; exact hq, k.calm h.calm, by rw [k.len]; exact h.tl⟩, p, k.m, by rw [a]; exact hk, by rw [a]; exact hc⟩
theorem Mr.gone {x : Int} (h : Mr w X l tg b) (hx : 1 ≤ x ∧ x ≤ X.abs.c.N) (htx : tg.getD (x - 1).toNat 0 = 1) : Fn Try.prog 57 #[ptrV X.m, .int .i64 x] w fun _ w' => ∃ Y, Mn w X w' Y l (tg.set (x - 1).toNat 2) b 0 := by
  have R := h.rep
  have htl := R.tl
  refine (gone_p h.ok ⟨R.ok, h.calm⟩ x).mono ?_
  rintro e w2 ⟨u, he, hev⟩
  have e1 : X.abs.deed x 1 2 2 = { X.abs with gh := some (tg.set (x - 1).toNat 2, 0, 0) } := by
    unfold PS.deed
    rw [R.gh]
    show ({ X.abs with gh := some (gt tg 0 0 x 1 2 2).2 } : PS) = _
    unfold gt
    rw [if_neg (by omega), if_pos htx]
  rw [e1] at hev
  refine ⟨u, he, h.of hev.ev ⟨⟨R.ok.r, by show (tg.set _ _).length ≤ 64; have := N_bd R.ok.r; simp; omega, R.ok.k0, R.ok.k1, R.ok.w, R.ok.l⟩, R.th, R.lk, rfl, R.nd, fun z hz => ?_, by simp; exact htl, R.bad⟩ (by show X.abs.k = X.abs.k + 0; omega) rfl⟩
  have h1 := R.lk.mem z hz
  have h2 := R.tag z hz
  by_cases hzx : z = x
  · rw [hzx] at h2; rw [h2] at htx; exact absurd htx (by decide)
  · rw [getD_set (by omega)]; exact h2
theorem Mr.list (h : Mr w X l tg b) : Fn Try.prog 28 #[ptrV X.m] w fun r w' => Sl w' 3 1 r l.length (l.map (.int .i64)) ∧ Upd [] w w' := by
  have := chain_c h.ok h.rep.ok.r h.rep.ok.l h.rep.ok.w
  have e : chain X.c X.s.W = l := h.rep.chain
  rw [e] at this
  exact this
theorem Mr.steps (h : Mr w X l tg b) : Fn Try.prog 24 #[ptrV X.mp] w fun r w' => r = .int .i64 X.abs.k ∧ w' = w := steps_c h.ok.mem
theorem Mr.fault (h : Mr w X l tg b) : Fn Try.prog 18 #[ptrV X.m] w fun r w' => r = .bool false ∧ Upd [] w w' := by
  have := fault_mm h.ok
  have h1 : X.bad = false := h.rep.bad
  have h2 : faultG X.gs = false := by
    have h1 : X.gs.map absG = _ := h.rep.gh
    cases hz : X.gs with
    | none => rfl
    | some g =>
      rw [hz] at h1
      have h3 : absG g = _ := Option.some.inj h1
      have h4 : g.k = 0 := congrArg (fun x => x.2.1) h3
      have h5 : g.n = 0 := congrArg (fun x => x.2.2) h3
      show decide (¬ (g.k = 0 ∧ g.n = 0)) = false
      exact decide_eq_false (fun h => h ⟨h4, h5⟩)
  rw [h1, h2] at this
  exact this
end
theorem many_set : ∀ (l : List Int) (i : Nat) (v x : Int), i < l.length → manyL (l.set i v) x + (if l.getD i 0 = x then 1 else 0) = manyL l x + (if v = x then 1 else 0)
  | [], _, _, _, h => absurd h (Nat.not_lt_zero _)
  | a :: l, 0, v, x, _ => by
    show (((v :: l).filter fun y => decide (y = x)).length) + (if a = x then 1 else 0) = (((a :: l).filter fun y => decide (y = x)).length) + (if v = x then 1 else 0)
    by_cases h1 : v = x <;> by_cases h2 : a = x <;> simp [h1, h2]
  | a :: l, i + 1, v, x, h => by
    have ih := many_set l i v x (by simpa using h)
    show (((a :: l.set i v).filter fun y => decide (y = x)).length) + (if l.getD i 0 = x then 1 else 0) = (((a :: l).filter fun y => decide (y = x)).length) + (if v = x then 1 else 0)
    have e : ∀ k : List Int, ((a :: k).filter fun y => decide (y = x)).length = (if a = x then 1 else 0) + manyL k x := fun k => by
      unfold manyL
      by_cases h2 : a = x
      · simp [h2]; omega
      · simp [h2]
    rw [e, e]; omega
theorem lo_rd {w : World} {e b o c n j : Nat} {xs : List Value} (h : Sl w e 1 (.slice (some ⟨b, o, none⟩) n c) n xs) (hj : j ≤ n) (hc : n ≤ c) : RdL w 1 (.slice (if c = j then some ⟨b, o, none⟩ else (some ⟨b, o, none⟩ : Option Addr).map (·.add (j * 1))) (n - j) (c - j)) (n - j) (xs.drop j) := by
  have hl : xs.length = n * 1 := h.1
  refine ⟨_, _, rfl, by rw [List.length_drop, hl]; omega, fun h0 => ?_⟩
  rw [if_neg (by omega)]
  refine ⟨b, o + j, by simp [Addr.add_lit], fun k x hx => ?_⟩
  rw [List.getElem?_drop] at hx
  have hk : j + k < n * 1 := by
    rw [← hl]
    rcases Nat.lt_or_ge (j + k) xs.length with h1 | h1
    · exact h1
    · rw [List.getElem?_eq_none h1] at hx; cases hx
  rw [Nat.add_assoc, (h.cells rfl (j + k) hk).1]; exact hx
theorem rev_last {x : Int} {l : List Int} : (x :: l).reverse.getD (l.length + 1 - 1) 0 = x := by simp [List.getD]
end Go.Proofs.Ytklbeipdigancaa

/- Contracts: the address of a slot; hazard.ptr. -/
namespace Go.Proofs.Ytklbeipdigancaa
open Go.RowKit
attribute [local irreducible] Instr.loadAt Instr.storeAt Instr.fieldAt Instr.indexAt Instr.sliceAt Instr.buildSlice Instr.box Instr.alloc Builtin.append_ Builtin.len_ Builtin.min_ Builtin.max_ Calls Instr.build Instr.makeSlice binSem convert Instr.index Instr.range Instr.next
abbrev TPn : Nat := 55
abbrev TCf : Nat := 23
theorem eq_runD {P : Program} {w : World} {t : Nat} {ks : List FK} [EqT P t ks] (d : Nat) {xs ys : Array Value} (hx : fitsK ks xs.toList = true) (hy : fitsK ks ys.toList = true) : (Op.equalIn (d + 2) t (.agg xs) (.agg ys)).run P w = .ok (eqCells xs.toList ys.toList) w := by
  rw [show d + 2 = (d + 1) + 1 from rfl, run_equalIn_struct w (d + 1) t xs ys (EqT.u (ks := ks)) (EqT.held (ks := ks))]
  exact eqFields_run d xs ys _ ks 0 _ _ (fieldsOk_of _ _ _ EqT.f) (by simp) (by simp) hx hy
theorem conf_ne {w : World} {c : Cf} (d : Nat) (hT : c.T ≠ 0) : (Op.equalIn (d + 2) TCf (.agg (cf7 c)) (.agg (cf7 ⟨0, 0, 0, 0, 0, 0, 0⟩))).run Try.prog w = .ok false w := by
  have e : eqCells (cf7 c).toList (cf7 ⟨0, 0, 0, 0, 0, 0, 0⟩).toList = false := by
    obtain ⟨A, T, N, L, B, P, S⟩ := c
    have hT : T ≠ 0 := hT
    show (A == 0 && (T == 0 && (N == 0 && (L == 0 && (B == 0 && (P == 0 && S == 0)))))) = false
    simp [hT]
  rw [← e]
  exact eq_runD d (by cases c; rfl) rfl
theorem plan_ne {w : World} {c : Cf} {x y : Operand} (hT : c.T ≠ 0) : (binSem .eql TPn x y (.agg (planC c)) (.agg z15)).run Try.prog w = .ok (.bool false) w := by
  refine bin_agg (by decide +kernel) ?_
  have hu : Try.prog.underlying TPn = some (.struct (Try.prog.fieldsOf TPn)) := by kernel_rfl
  rw [run_eql_struct, show (10000 : Nat) = 9999 + 1 from rfl, run_equalIn_struct w 9999 TPn _ _ hu (by decide +kernel)]
  obtain ⟨f0, rest, hf, ho, hn, ht⟩ : ∃ f0 rest, (Try.prog.fieldsOf TPn).toList = f0 :: rest ∧ f0.offset = 0 ∧ f0.name ≠ "_" ∧ f0.type = TCf := by
    refine ⟨(Try.prog.fieldsOf TPn).toList.head!, (Try.prog.fieldsOf TPn).toList.tail, by kernel_rfl, by kernel_rfl, by decide +kernel, by kernel_rfl⟩
  rw [hf]
  have e1 : (part f0.type (planC c) f0.offset).run Try.prog w = .ok (.agg (cf7 c)) w := by
    rw [ht, ho]; obtain ⟨A, T, N, L, B, P, S⟩ := c; kernel_rfl
  have e2 : (part f0.type z15 f0.offset).run Try.prog w = .ok (.agg (cf7 ⟨0, 0, 0, 0, 0, 0, 0⟩)) w := by
    rw [ht, ho]; kernel_rfl
  have e3 : (Op.equalIn 9999 f0.type (.agg (cf7 c)) (.agg (cf7 ⟨0, 0, 0, 0, 0, 0, 0⟩))).run Try.prog w = .ok false w := by
    rw [ht]; exact conf_ne 9997 hT
  unfold Op.eqFields
  simp only [Sem.run_bind, Sem.run_ite, hn, ne_eq, not_false_eq_true, if_true, e1, e2, e3, Result.andThen_ok]
  rfl
def hazA (A T L i k : Int) : Int := if (0 ≤ i ∧ i ≤ T - 1) ∧ 0 ≤ k ∧ k ≤ slotsP A L - 1 then 8 + i * slotsP A L + k else -1
def Cf.haz (c : Cf) (i k : Int) : Int := hazA c.A c.T c.L i k
def Cf.slots (c : Cf) : Int := slotsP c.A c.L
theorem pslots_c (c : Cf) (w : World) : Fn Try.prog 21 #[.agg (planC c)] w fun r w' => r = .int .i64 c.slots ∧ Upd [] w w' := by
  obtain ⟨A, T, N, L, B, P, S⟩ := c
  refine fn_enter Try.func21 rfl rfl ?_
  refine bx fun w1 hb1 hu1 hs1 => ?_
  have hb1 : Blk w1 w.heap.size TPn (planC ⟨A, T, N, L, B, P, S⟩) := hb1
  refine fa ?_
  refine ldb hb1 (v := .int .i64 (slotsP A L)) rfl ?_
  exact ⟨rfl, hu1⟩
set_option maxRecDepth 10000 in
theorem haz_c {c : Cf} (hr : rightC c) (i k : Int) (w : World) : Fn Try.prog 22 #[.agg (planC c), .int .i64 i, .int .i64 k] w fun r w' => r = .int .i64 (c.haz i k) ∧ Upd [] w w' := by
  obtain ⟨A, T, N, L, B, P, S⟩ := c
  obtain ⟨b1, b2, b3, b4, b5, b6, b7, b8, b9, b10, b11, b12⟩ := plan_bd hr
  refine fn_enter Try.func22 rfl rfl ?_
  refine bx fun w1 hb1 hu1 hs1 => ?_
  have hb1 : Blk w1 w.heap.size TPn (planC ⟨A, T, N, L, B, P, S⟩) := hb1
  refine ldw hb1 rfl ?_
  refine bd z15 (fun _ => by kernel_rfl) ?_
  refine rn _ _ (plan_ne (c := ⟨A, T, N, L, B, P, S⟩) (show T ≠ 0 by omega)) ?_
  refine fa ?_
  refine fa ?_
  refine ldb hb1 (v := .int .i64 T) rfl ?_
  refine ar64 (by omega) ?_
  refine bd #[.int .i64 i, .int .i64 0, .int .i64 (T - 1)] (fun _ => by kernel_rfl) ?_
  refine fa ?_
  refine ldb hb1 (v := .int .i64 (slotsP A L)) rfl ?_
  refine ar64 (by omega) ?_
  refine bd #[.int .i64 k, .int .i64 0, .int .i64 (slotsP A L - 1)] (fun _ => by kernel_rfl) ?_
  refine bs (spanC [(i, 0, T - 1), (k, 0, slotsP A L - 1)]) (fun _ => by kernel_rfl) fun w2 hb2 hu2 hs2 => ?_
  refine cl (within_c _ hb2 (by show 2 ≤ 100; omega)) ?_
  rintro _ w3 ⟨⟨b, rfl, hb⟩, hu3⟩
  have hU3 := (hu1.trans hu2).trans hu3
  by_cases hn : (0 ≤ i ∧ i ≤ T - 1) ∧ 0 ≤ k ∧ k ≤ slotsP A L - 1
  · have : b = true := hb.2 (fun j hj => by
      have : j < 2 := hj
      rcases (show j = 0 ∨ j = 1 by omega) with rfl | rfl
      · exact hn.1
      · exact hn.2)
    subst this
    have hb3 := (hb1.upd hu2 (by simp)).upd hu3 (by simp)
    have hm := mul_bd (a := i) (b := slotsP A L) (x := 6) (y := 14) (by omega) (by omega)
    refine fa ?_
    refine ldb hb3 (v := .int .i64 8) rfl ?_
    refine fa ?_
    refine ldb hb3 (v := .int .i64 (slotsP A L)) rfl ?_
    refine ar64 (by omega) ?_
    refine ar64 (by omega) ?_
    refine ar64 (by omega) ?_
    exact ⟨by rw [Cf.haz, hazA, if_pos hn]; rfl, hU3⟩
  · have : b = false := by
      cases b
      · rfl
      · exact absurd ⟨hb.1 rfl 0 (by simp), hb.1 rfl 1 (by simp)⟩ hn
    subst this
    exact ⟨by rw [Cf.haz, hazA, if_neg hn]; rfl, hU3⟩
theorem hptr_c {x : Int} (hx : u64R x) (w : World) : Fn Try.prog 54 #[.int .u64 x] w fun r w' => r = .int .u64 (ptrW x) ∧ w' = w := by
  have hb := ptrW_bd (x := x)
  refine fn_enter Try.func54 rfl rfl ?_
  refine cl (wptr_c hx w) ?_
  rintro _ w ⟨rfl, rfl⟩
  refine cv ?_
  refine arU (by omega) ?_
  exact ⟨rfl, rfl⟩
end Go.Proofs.Ytklbeipdigancaa

/- Contracts: hazard.protect, hazard.wipe. -/
namespace Go.Proofs.Ytklbeipdigancaa
open Go.RowKit
attribute [local irreducible] Instr.loadAt Instr.storeAt Instr.fieldAt Instr.indexAt Instr.sliceAt Instr.buildSlice Instr.box Instr.alloc Builtin.append_ Builtin.len_ Builtin.min_ Builtin.max_ Calls Instr.build Instr.makeSlice binSem convert Instr.index Instr.range Instr.next
def hzProtect (p : PS) (i : Nat) (t : PT) (fs : List Fr) (f : Fr) : PS :=
  if f.pc = 0 then (if ptrW (p.ldv (toI (f.R.getD 1 0))) = 0 then (p.load (toI (f.R.getD 1 0))).put i (popped t fs (p.ldv (toI (f.R.getD 1 0)))) else (p.load (toI (f.R.getD 1 0))).put i (topped t fs ⟨f.fn, 1, regI f.R 2 (p.ldv (toI (f.R.getD 1 0)))⟩))
  else if f.pc = 1 then (p.store (p.c.haz i (toI (f.R.getD 0 0))) (ptrW (f.R.getD 2 0))).put i (topped t fs { f with pc := 2 })
  else if p.ldv (toI (f.R.getD 1 0)) = f.R.getD 2 0 ∨ ptrW (p.ldv (toI (f.R.getD 1 0))) = 0 then (p.load (toI (f.R.getD 1 0))).put i (popped t fs (p.ldv (toI (f.R.getD 1 0))))
  else (p.load (toI (f.R.getD 1 0))).put i (topped t fs ⟨f.fn, 1, regI f.R 2 (p.ldv (toI (f.R.getD 1 0)))⟩)
def hzWipe (p : PS) (i : Nat) (t : PT) (fs : List Fr) (f : Fr) : PS :=
  if f.pc ≥ p.c.slots then p.put i { t with fs := fs, r := (0, 0, 0) } else (p.store (p.c.haz i f.pc) 0).put i (topped t fs { f with pc := f.pc + 1 })
section
variable {w w' : World} {X : Mc} {b : Int} {i : Nat} {t : Th} {fs : List Fr} {f : Fr} {fb fo fc : Nat}
theorem Mach.id_ (h : Mach w X) (hi : X.ths[i]? = some t) : w.cell? ⟨t.g, 0 + 0, none⟩ = some (.int .i64 (i : Int)) := (h.core hi).blk.cell 0
set_option maxRecDepth 10000 in
theorem protect_p (h : Mach w X) (hg : Good X b) (hb : b ≤ 900000) (hi : X.ths[i]? = some t) (hfs : t.fs = fs ++ [f]) (hl : fs.length ≤ 90000) (hfv : t.fv = .slice (some ⟨fb, fo, none⟩) t.fs.length fc) (hR : ∀ j, u64R (f.R.getD j 0)) :
    Fn Try.prog 39 #[ptrV X.m, ptrV t.g, .pointer (some ⟨fb, fo + fs.length * 12, none⟩)] w fun _ w' => Ev w X w' (hzProtect X.abs i (absT t) fs f) := by
  have I : TopI w w X X i t fs f fb fo fc := ⟨.refl h, .refl X, hi, hfs, hfv⟩
  have hat : ∀ {w1 : World}, Upd [] w w1 → ∀ j, j < 12 → w1.cell? ⟨fb, fo + fs.length * 12 + j, none⟩ = (frC f)[j]? := fun hu j hj => (I.upd0 hu).at_ j hj
  have h1 := hR 1
  have h2 := hR 2
  have hp2 := ptrW_bd (x := f.R.getD 2 0)
  have hv := PS.ldv_bd hg.ok (toI (f.R.getD 1 0))
  refine fn_enter Try.func39 rfl rfl ?_
  refine fa ?_
  refine ixA 1 rfl (by omega) ?_
  refine ld (v := .int .u64 (f.R.getD 1 0)) ((hat (Upd.refl [] w) 3 (by omega)).trans (frC_R0 f 1 (by omega))) ?_
  refine cv ?_
  refine val (toI (f.R.getD 1 0)) rfl ?_
  generalize ha : toI (f.R.getD 1 0) = a at *
  refine fa ?_
  refine ld (v := .int .i64 f.pc) (hat (Upd.refl [] w) 1 (by omega)) ?_
  unfold hzProtect
  rw [ha]
  by_cases c0 : f.pc = 0
  · rw [if_pos c0]
    refine cY c0 ?_
    refine draw_mix 6 [(0, true), (1, true), (2, true), (4, true), (5, true), (3, false)] (fun _ => True) (by decide +kernel) trivial ?_
    refine q_fa ?_
    have I1 := I.upd0 (Upd.refl [] w).drew
    refine cl (load_p I1.p.ok hg (by omega) a) ?_
    rintro _ w2 ⟨rfl, X2, p2, k2, a2, s2⟩
    refine ⟨trivial, ?_⟩
    have I2 := I1.mem p2 k2 s2
    refine ixA 2 rfl (by omega) ?_
    refine I2.st (f' := { f with R := regI f.R 2 (X.abs.ldv a) }) 4 (by omega) rfl rfl (frC_reg f 2 (by omega) _) fun w3 I3 => ?_
    refine fa ?_
    refine I3.st (f' := ⟨f.fn, 1, regI f.R 2 (X.abs.ldv a)⟩) 1 (by omega) rfl rfl rfl fun w4 I4 => ?_
    refine fa ?_
    refine ixA 2 rfl (by omega) ?_
    have hr2 : w4.cell? ⟨fb, fo + fs.length * 12 + 2 + 2 * 1, none⟩ = some (.int .u64 (X.abs.ldv a)) := (I4.at_ 4 (by omega)).trans ((frC_R0 _ 2 (by omega)).trans (by rw [regI_at _ _ _ _ (by omega)]; rfl))
    refine ld (v := .int .u64 (X.abs.ldv a)) hr2 ?_
    refine cl (hptr_c hv w4) ?_
    rintro _ w4 ⟨rfl, rfl⟩
    have ea : ∀ (t' : PT), ((({ ({ X2 with ths := X2.ths.set i { t with fs := fs ++ [{ f with R := regI f.R 2 (X.abs.ldv a) }] } } : Mc) with ths := (X2.ths.set i { t with fs := fs ++ [{ f with R := regI f.R 2 (X.abs.ldv a) }] }).set i { t with fs := fs ++ [⟨f.fn, 1, regI f.R 2 (X.abs.ldv a)⟩] } } : Mc)).abs.put i t') = (X.abs.load a).put i t' := fun t' => by
      rw [← a2]
      unfold Mc.abs PS.put
      simp [List.map_set]
    by_cases cp : ptrW (X.abs.ldv a) = 0
    · rw [if_pos cp]
      refine cY cp ?_
      refine fa ?_
      refine ixA 2 rfl (by omega) ?_
      refine ld (v := .int .u64 (X.abs.ldv a)) hr2 ?_
      refine bs #[.int .u64 (X.abs.ldv a)] (fun _ => by kernel_rfl) fun w5 hb5 hu5 hs5 => ?_
      have I5 := I4.upd0 hu5
      have hne : w4.heap.size ≠ t.g := by have := (I4.p.ok.core I4.i).blk.lt; intro e; rw [e] at this; exact absurd this (Nat.lt_irrefl _)
      refine cl (I5.pop (l := [X.abs.ldv a]) (by omega) (fun w' hu => one_rd (hb5.upd hu (by simpa using hne)))) ?_
      rintro _ w6 e
      rw [ea] at e
      exact e
    · rw [if_neg cp]
      refine cN cp ?_
      have := I4.ev
      rw [abs_set, abs_set, put_put, a2] at this
      exact this
  rw [if_neg c0]
  refine cN c0 ?_
  by_cases c1 : f.pc = 1
  · rw [if_pos c1]
    refine cY c1 ?_
    refine draw_mix 20 [(0, true), (1, true), (3, true), (4, true), (5, true), (6, true), (7, true), (8, true), (9, true), (10, true), (11, true), (12, true), (14, true), (15, true), (16, true), (17, true), (18, true), (2, false), (13, false), (19, false)] (fun w' => Upd [] w w') (by decide +kernel) (Upd.refl [] w).drew ?_
    refine q_fa ?_
    refine q_ld (v := .int .i64 (i : Int)) (fun w' hw' => (h.upd0 hw').id_ hi) ?_
    refine q_fa ?_
    refine q_ixA 0 rfl (by omega) ?_
    refine q_ld (v := .int .u64 (f.R.getD 0 0)) (fun w' hw' => (hat hw' 2 (by omega)).trans (frC_R0 f 0 (by omega))) ?_
    refine rq (.int .i64 (toI (f.R.getD 0 0))) (fun _ _ => cv (val _ rfl ⟨rfl, rfl⟩)) ?_
    refine q_fa ?_
    refine q_ixA 2 rfl (by omega) ?_
    refine q_ld (v := .int .u64 (f.R.getD 2 0)) (fun w' hw' => (hat hw' 4 (by omega)).trans (frC_R0 f 2 (by omega))) ?_
    have I1 := I.upd0 (Upd.refl [] w).drew
    refine cl (plan_mm I1.p.ok) ?_
    rintro _ w2 ⟨rfl, hu2⟩
    have hU2 : Upd [] w w2 := (Upd.refl [] w).drew.trans hu2
    refine ⟨hU2, ?_⟩
    refine cl (haz_c hg.ok.r _ _ w2) ?_
    rintro _ w3 ⟨rfl, hu3⟩
    have hU3 := hU2.trans hu3
    refine ⟨hU3, ?_⟩
    refine cl (hptr_c h2 w3) ?_
    rintro _ w3 ⟨rfl, rfl⟩
    refine ⟨hU3, ?_⟩
    have I3 := I.upd0 hU3
    refine cl (store_p I3.p.ok hg (by omega) _ (ptrW (f.R.getD 2 0))) ?_
    rintro _ w4 ⟨X4, p4, k4, a4, s4⟩
    have I4 := I3.mem p4 k4 s4
    refine fa ?_
    refine I4.st (f' := { f with pc := 2 }) 1 (by omega) rfl rfl (frC_pc f 2) fun w5 I5 => ?_
    have := I5.ev
    rw [abs_set, a4] at this
    exact this
  rw [if_neg c1]
  refine cN c1 ?_
  refine cl (load_p h hg (by omega) a) ?_
  rintro _ w2 ⟨rfl, X2, p2, k2, a2, s2⟩
  have I2 := I.mem p2 k2 s2
  refine fa ?_
  refine ixA 2 rfl (by omega) ?_
  refine ld (v := .int .u64 (f.R.getD 2 0)) ((I2.at_ 4 (by omega)).trans (frC_R0 f 2 (by omega))) ?_
  by_cases ce : X.abs.ldv a = f.R.getD 2 0
  · rw [if_pos (.inl ce)]
    refine cY ce ?_
    refine bs #[.int .u64 (X.abs.ldv a)] (fun _ => by kernel_rfl) fun w5 hb5 hu5 hs5 => ?_
    have I5 := I2.upd0 hu5
    have hne : w2.heap.size ≠ t.g := by have := (I2.p.ok.core I2.i).blk.lt; intro e; rw [e] at this; exact absurd this (Nat.lt_irrefl _)
    refine cl (I5.pop (l := [X.abs.ldv a]) (by omega) (fun w' hu => one_rd (hb5.upd hu (by simpa using hne)))) ?_
    rintro _ w6 e
    rw [a2] at e
    exact e
  refine cN ce ?_
  refine cl (hptr_c hv w2) ?_
  rintro _ w2 ⟨rfl, rfl⟩
  by_cases cp : ptrW (X.abs.ldv a) = 0
  · rw [if_pos (.inr cp)]
    refine cY cp ?_
    refine bs #[.int .u64 (X.abs.ldv a)] (fun _ => by kernel_rfl) fun w5 hb5 hu5 hs5 => ?_
    have I5 := I2.upd0 hu5
    have hne : w2.heap.size ≠ t.g := by have := (I2.p.ok.core I2.i).blk.lt; intro e; rw [e] at this; exact absurd this (Nat.lt_irrefl _)
    refine cl (I5.pop (l := [X.abs.ldv a]) (by omega) (fun w' hu => one_rd (hb5.upd hu (by simpa using hne)))) ?_
    rintro _ w6 e
    rw [a2] at e
    exact e
  rw [if_neg (fun h => h.elim ce cp)]
  refine cN cp ?_
  refine fa ?_
  refine ixA 2 rfl (by omega) ?_
  refine I2.st (f' := { f with R := regI f.R 2 (X.abs.ldv a) }) 4 (by omega) rfl rfl (frC_reg f 2 (by omega) _) fun w3 I3 => ?_
  refine fa ?_
  refine I3.st (f' := ⟨f.fn, 1, regI f.R 2 (X.abs.ldv a)⟩) 1 (by omega) rfl rfl rfl fun w4 I4 => ?_
  have := I4.ev
  rw [abs_set, abs_set, put_put, a2] at this
  exact this
set_option maxRecDepth 10000 in
theorem wipe_p (h : Mach w X) (hg : Good X b) (hb : b ≤ 900000) (hpc : 0 ≤ f.pc) (hi : X.ths[i]? = some t) (hfs : t.fs = fs ++ [f]) (hl : fs.length ≤ 90000) (hfv : t.fv = .slice (some ⟨fb, fo, none⟩) t.fs.length fc) :
    Fn Try.prog 40 #[ptrV X.m, ptrV t.g, .pointer (some ⟨fb, fo + fs.length * 12, none⟩)] w fun _ w' => Ev w X w' (hzWipe X.abs i (absT t) fs f) := by
  have I : TopI w w X X i t fs f fb fo fc := ⟨.refl h, .refl X, hi, hfs, hfv⟩
  have hat : ∀ {w1 : World}, Upd [] w w1 → ∀ j, j < 12 → w1.cell? ⟨fb, fo + fs.length * 12 + j, none⟩ = (frC f)[j]? := fun hu j hj => (I.upd0 hu).at_ j hj
  have hsl : X.abs.c.slots ≤ 14 := by
    have hr := hg.ok.r
    generalize X.abs.c = c at *
    obtain ⟨A, T, N, L, B, P, S⟩ := c
    exact (plan_bd hr).1.2
  refine fn_enter Try.func40 rfl rfl ?_
  refine draw_all (fun w' => Upd [] w w') (by decide +kernel) (Upd.refl [] w).drew ?_
  refine q_fa ?_
  refine q_ld (v := .int .i64 f.pc) (fun w' hw' => hat hw' 1 (by omega)) ?_
  refine q_cl (.agg (planC X.c)) (fun w' hw' => (plan_mm (h.upd0 hw')).mono fun _ _ ⟨u, he, h1, h2⟩ => ⟨u, he, h1, hw'.trans h2⟩) ?_
  refine q_cl (.int .i64 X.c.slots) (fun w' hw' => (pslots_c X.c w').mono fun _ _ ⟨u, he, h1, h2⟩ => ⟨u, he, h1, hw'.trans h2⟩) ?_
  intro w1 hu1
  have I1 := I.upd0 hu1
  have hcs : X.abs.c = X.c := rfl
  unfold hzWipe
  rw [hcs] at hsl ⊢
  by_cases hge : f.pc ≥ X.c.slots
  · rw [if_pos hge]
    refine cY hge ?_
    refine cl (I1.pop (l := []) (by omega) (fun w' _ => RdK.nil_ w' .u64)) ?_
    rintro _ w2 e
    exact e
  rw [if_neg hge]
  refine cN hge ?_
  refine draw_mix 12 [(0, true), (1, true), (3, true), (4, true), (5, true), (6, true), (7, true), (8, true), (9, true), (10, true), (2, false), (11, false)] (fun w' => Upd [] w w') (by decide +kernel) hu1.drew ?_
  refine q_fa ?_
  refine q_ld (v := .int .i64 (i : Int)) (fun w' hw' => (h.upd0 hw').id_ hi) ?_
  refine q_fa ?_
  refine q_ld (v := .int .i64 f.pc) (fun w' hw' => hat hw' 1 (by omega)) ?_
  have I2 := I.upd0 hu1.drew
  refine cl (plan_mm I2.p.ok) ?_
  rintro _ w2 ⟨rfl, hu2⟩
  have hU2 : Upd [] w w2 := hu1.drew.trans hu2
  refine ⟨hU2, ?_⟩
  refine cl (haz_c hg.ok.r _ _ w2) ?_
  rintro _ w3 ⟨rfl, hu3⟩
  have hU3 := hU2.trans hu3
  refine ⟨hU3, ?_⟩
  have I3 := I.upd0 hU3
  refine cl (store_p I3.p.ok hg (by omega) _ 0) ?_
  rintro _ w4 ⟨X4, p4, k4, a4, s4⟩
  have I4 := I3.mem p4 k4 s4
  refine fa ?_
  refine ld (v := .int .i64 f.pc) (I4.at_ 1 (by omega)) ?_
  refine ar64 (by omega) ?_
  refine fa ?_
  refine I4.st (f' := { f with pc := f.pc + 1 }) 1 (by omega) rfl rfl (frC_pc f (f.pc + 1)) fun w5 I5 => ?_
  have := I5.ev
  rw [abs_set, a4] at this
  exact this
end
end Go.Proofs.Ytklbeipdigancaa

/- Contracts: hazard.retire. -/
namespace Go.Proofs.Ytklbeipdigancaa
open Go.RowKit
attribute [local irreducible] Instr.loadAt Instr.storeAt Instr.fieldAt Instr.indexAt Instr.sliceAt Instr.buildSlice Instr.box Instr.alloc Builtin.append_ Builtin.len_ Builtin.min_ Builtin.max_ Calls Instr.build Instr.makeSlice binSem convert Instr.index Instr.range Instr.next
theorem push_cell {w : World} {pg pi T : Nat} {cs : Array Value} {v : Value} {l : List Int} (hb : Blk w pg T cs) (hcs : cs[pi]? = some v) (hs : Sl w 3 1 v l.length (l.map (.int .i64))) (hl : l.length ≤ 100000) (hT : 3 ≠ T) (x : Int) :
    Fn Try.prog 58 #[.pointer (some ⟨pg, pi, none⟩), .int .i64 x] w fun _ w' => ∃ w2 v', Sl w2 3 1 v' (l ++ [x]).length ((l ++ [x]).map (.int .i64)) ∧ To w v.ownBlock.toList w2 v'.ownBlock.toList ∧ Blk w' pg T (cs.setIfInBounds pi v') ∧ Upd [pg] w2 w' := by
  have hpi : pi < cs.size := by
    rcases Nat.lt_or_ge pi cs.size with h | h
    · exact h
    · rw [Array.getElem?_eq_none h] at hcs; cases hcs
  refine fn_enter Try.func58 rfl rfl ?_
  refine ptr_ne ?_
  refine fa ?_
  refine ld (v := v) (by rw [hb.cell]; exact hcs) ?_
  refine bs #[.int .i64 x] (fun _ => by kernel_rfl) fun w1 hb1 hu1 hs1 => ?_
  refine apg (hs.upd hu1 (by simp)) hb1 rfl rfl (by decide) (by simp only [maxLen]; omega) (by omega) fun v2 w2 hs2 hG2 => ?_
  have hne := hs.blk_ne hb hT
  have hb2 := (hb.upd hu1 (by simp)).upd hG2.up (by simpa using hne)
  obtain ⟨a2, c2, rfl, -⟩ := hs2.form
  refine fa ?_
  refine st hb2 (by show pi + 0 < _; omega) rfl fun w3 hb3 hu3 hs3 => ?_
  refine ⟨w2, _, ?_, (To.of0 _ hu1).trans (Upd.own hG2), hb3, hu3⟩
  rw [List.length_append, List.map_append]
  exact hs2
section
variable {w w' : World} {X : Mc} {b : Int} {i : Nat} {t : Th} {fs : List Fr} {f : Fr} {fb fo fc : Nat}
/-- a thread's retired ones (its 8th cell) have become others -/
theorem Mach.setR (h : Mach w X) (hi : X.ths[i]? = some t) {w2 w3 : World} {v' : Value} {R' : List Int} (hs : Sl w2 3 1 v' R'.length (R'.map (.int .i64))) (ht : To w t.rv.ownBlock.toList w2 v'.ownBlock.toList)
    (hb : Blk w3 t.g TT (thrC (i : Int) t.fv t.r t.pv t.sv t.wv v' t.ov)) (hu : Upd [t.g] w2 w3) : Post w X w3 { X with ths := X.ths.set i { t with rv := v', R := R' } } := by
  have S0 := h.thr hi
  have S1 := Sep.set (i := 4) (x := obI t.rv t.R) (y := obI v' R') S0 rfl hs ht
  have hc := S0.at_ (i := 0) (x := obCore (i : Int) t) rfl
  have hap := S0.apart_ (i := 0) (j := 4) (x := obCore (i : Int) t) (y := obI t.rv t.R) rfl rfl (by decide)
  have hc : IsThr w t.g (i : Int) t.fv t.fs t.r t.pv t.sv t.wv t.rv t.ov := hc
  have hnb := hc.fr.blk_ne hc.blk (by decide)
  have hfr2 := hc.fr.upd ht.up (fun g hg hm => hap g (by simp [obCore, hg]) hm)
  have hfr3 := hfr2.upd hu (fun g hg => by simp; intro e; subst e; exact hnb hg)
  have t2 : To w2 (obCore (i : Int) t).foot w3 (obCore (i : Int) { t with rv := v', R := R' }).foot := ⟨hu.mono (by intro k hk; rw [List.mem_singleton.1 hk]; exact List.mem_cons_self), fun k hk => .inl hk⟩
  have S2 := Sep.set (i := 0) (x := obCore (i : Int) t) (y := obCore (i : Int) { t with rv := v', R := R' }) S1 rfl ⟨hb, hfr3⟩ t2
  have T1 := To.set (l := t.obs (i : Int)) (i := 4) (x := obI t.rv t.R) (y := obI v' R') rfl ht
  have T2 := To.set (l := (t.obs (i : Int)).set 4 (obI v' R')) (i := 0) (x := obCore (i : Int) t) (y := obCore (i : Int) { t with rv := v', R := R' }) rfl t2
  exact h.setTh (t' := { t with rv := v', R := R' }) hi rfl S2 (T1.trans T2)
theorem Mach.rv_ (h : Mach w X) (hi : X.ths[i]? = some t) : Sl w 3 1 t.rv t.R.length (t.R.map (.int .i64)) := Sep.at_ (i := 4) (x := obI t.rv t.R) (h.thr hi) rfl
theorem Mach.ov_ (h : Mach w X) (hi : X.ths[i]? = some t) : Sl w 3 1 t.ov t.O.length (t.O.map (.int .i64)) := Sep.at_ (i := 5) (x := obI t.ov t.O) (h.thr hi) rfl
theorem rpush_mm (h : Mach w X) (hi : X.ths[i]? = some t) (hl : t.R.length ≤ 100000) (x : Int) : Fn Try.prog 58 #[.pointer (some ⟨t.g, 8, none⟩), .int .i64 x] w fun _ w' => ∃ v', Post w X w' { X with ths := X.ths.set i { t with rv := v', R := t.R ++ [x] } } :=
  (push_cell (h.core hi).blk (pi := 8) rfl (h.rv_ hi) hl (by decide) x).mono fun _ w' ⟨u, he, w2, v', h1, h2, h3, h4⟩ => ⟨u, he, v', h.setR hi h1 h2 h3 h4⟩
theorem conf_c2 (c : Cf) (w : World) : Fn Try.prog 49 #[.agg (planC c)] w fun r w' => r = .agg (cf7 c) ∧ Upd [] w w' := by
  obtain ⟨A, T, N, L, B, P, S⟩ := c
  exact conf_c A T N L B P S w
def hzRetire (p : PS) (i : Nat) (t : PT) (fs : List Fr) (f : Fr) : PS :=
  if (t.R.length : Int) + 1 ≥ p.c.S then (p.deed (toI (f.R.getD 0 0)) 1 2 2).put i { t with fs := fs ++ [⟨6, 0, []⟩], r := (0, 0, 0), R := t.R ++ [toI (f.R.getD 0 0)] }
  else (p.deed (toI (f.R.getD 0 0)) 1 2 2).put i { t with fs := fs, r := (0, 0, 0), R := t.R ++ [toI (f.R.getD 0 0)] }
set_option maxRecDepth 10000 in
theorem retire_p (h : Mach w X) (hg : Good X b) (hi : X.ths[i]? = some t) (hfs : t.fs = fs ++ [f]) (hl : fs.length ≤ 90000) (hRl : t.R.length ≤ 90000) (hfv : t.fv = .slice (some ⟨fb, fo, none⟩) t.fs.length fc) (hR : ∀ j, u64R (f.R.getD j 0)) :
    Fn Try.prog 41 #[ptrV X.m, ptrV t.g, .pointer (some ⟨fb, fo + fs.length * 12, none⟩)] w fun _ w' => Ev w X w' (hzRetire X.abs i (absT t) fs f) := by
  have I : TopI w w X X i t fs f fb fo fc := ⟨.refl h, .refl X, hi, hfs, hfv⟩
  refine fn_enter Try.func41 rfl rfl ?_
  refine fa ?_
  refine ixA 0 rfl (by omega) ?_
  refine ld (v := .int .u64 (f.R.getD 0 0)) ((I.at_ 2 (by omega)).trans (frC_R0 f 0 (by omega))) ?_
  refine cv ?_
  refine val (toI (f.R.getD 0 0)) rfl ?_
  unfold hzRetire
  generalize toI (f.R.getD 0 0) = nd at *
  refine cl (gone_p h hg nd) ?_
  rintro _ w2 ⟨X2, p2, k2, a2, s2⟩
  have I2 := I.mem p2 k2 s2
  refine fa ?_
  refine cl (rpush_mm I2.p.ok I2.i (by omega) nd) ?_
  rintro _ w3 ⟨rv', p3⟩
  have k3 := kin_set X2 (t' := { t with rv := rv', R := t.R ++ [nd] }) I2.i rfl
  have a3 := abs_set X2 i { t with rv := rv', R := t.R ++ [nd] }
  rw [a2] at a3
  have I3 : TopI w w3 X _ i { t with rv := rv', R := t.R ++ [nd] } fs f fb fo fc := ⟨I2.p.trans p3, I2.k.trans k3, set_at I2.i, hfs, hfv⟩
  generalize ({ X2 with ths := X2.ths.set i { t with rv := rv', R := t.R ++ [nd] } } : Mc) = X3 at *
  refine cl (I3.pop (l := []) (by omega) (fun w' _ => RdK.nil_ w' .u64)) ?_
  rintro _ w4 ⟨X4, p4, k4, a4⟩
  obtain ⟨t4, ht4, hg4⟩ := k4.g hi
  have hth := abs_at a4 ht4
  have hi3 : X3.abs.ths[i]? = some _ := abs_th X3 I3.i
  rw [put_th hi3] at hth
  have hth := Option.some.inj hth
  have hc4 : X4.c = X.c := by
    have h1 : X4.c = X3.c := congrArg PS.c a4
    have h2 : X3.c = X.c := congrArg PS.c a3
    exact h1.trans h2
  have hR4 : t4.R = t.R ++ [nd] := congrArg PT.R hth.symm
  have hf4 : t4.fs = fs := congrArg PT.fs hth.symm
  refine fa ?_
  obtain ⟨ra, rc, hrv, -⟩ := (p4.ok.rv_ ht4).form
  have hcell : w4.cell? ⟨t.g, 8, none⟩ = some (.slice ra t4.R.length rc) := by
    have := (p4.ok.core ht4).blk.cell 8
    rw [hg4] at this
    rw [this, ← hrv]; rfl
  refine cl (len_p hcell) ?_
  rintro _ w4 ⟨rfl, rfl⟩
  have hpl := plan_mm p4.ok
  rw [k4.m] at hpl
  refine cl hpl ?_
  rintro _ w5 ⟨rfl, hu5⟩
  rw [hc4]
  refine cl (conf_c2 X.c w5) ?_
  rintro _ w6 ⟨rfl, hu6⟩
  have h6 := (p4.ok.upd0 hu5).upd0 hu6
  have p6 : Post w X w6 X4 := (p4.upd0 hu5).upd0 hu6
  refine fl (v := .int .i64 X.c.S) (by cases X.c; rfl) ?_
  have e4 : X4.abs = (X.abs.deed nd 1 2 2).put i { absT t with fs := fs, r := (0, 0, 0), R := t.R ++ [nd] } := by
    rw [a4, a3, put_put]; rfl
  have hl4 : (t4.R.length : Int) = (t.R.length : Int) + 1 := by rw [hR4]; simp
  rw [hl4]
  by_cases hge : (t.R.length : Int) + 1 ≥ X.c.S
  · refine cY hge ?_
    have hps := push_mm h6 ht4 (by rw [hf4]; omega) (RdK.nil_ w6 .u64) (by simp) 6
    rw [← hg4]
    refine cl hps ?_
    rintro _ w7 ⟨fv7, p7⟩
    have k7 := kin_set X4 (t' := { t4 with fv := fv7, fs := t4.fs ++ [⟨6, 0, []⟩] }) ht4 rfl
    have a7 := abs_set X4 i { t4 with fv := fv7, fs := t4.fs ++ [⟨6, 0, []⟩] }
    refine ⟨_, p6.trans p7, k4.trans k7, a7.trans ?_⟩
    have hge' : ((absT t).R.length : Int) + 1 ≥ X.abs.c.S := hge
    rw [if_pos hge', e4, put_put]
    refine congrArg (PS.put _ i) ?_
    show (⟨t4.fs ++ [⟨6, 0, []⟩], t4.r, t4.P, t4.S, t4.W, t4.R, t4.O⟩ : PT) = _
    have h1 : t4.r = (0, 0, 0) := congrArg PT.r hth.symm
    have h2 : t4.P = t.P := congrArg PT.P hth.symm
    have h3 : t4.S = t.S := congrArg PT.S hth.symm
    have h5 : t4.W = t.W := congrArg PT.W hth.symm
    have h8 : t4.O = t.O := congrArg PT.O hth.symm
    rw [hf4, h1, h2, h3, h5, hR4, h8]; rfl
  · refine cN hge ?_
    have hge' : ¬ ((absT t).R.length : Int) + 1 ≥ X.abs.c.S := hge
    rw [if_neg hge']
    exact ⟨X4, p6, k4, e4⟩
end
end Go.Proofs.Ytklbeipdigancaa

/- Contracts: hazard.scan. -/
namespace Go.Proofs.Ytklbeipdigancaa
open Go.RowKit
attribute [local irreducible] Instr.loadAt Instr.storeAt Instr.fieldAt Instr.indexAt Instr.sliceAt Instr.buildSlice Instr.box Instr.alloc Builtin.append_ Builtin.len_ Builtin.min_ Builtin.max_ Calls Instr.build Instr.makeSlice binSem convert Instr.index Instr.range Instr.next
def hasI (l : List Int) (s : Int) : Bool := l.any fun x => decide (x = s)
theorem hasI_s (l : List Int) (s : Int) (j : Nat) (h : j < l.length) : hasI (l.take (j + 1)) s = (hasI (l.take j) s || decide (l.getD j 0 = s)) := by
  unfold hasI
  rw [getD_take l j h, List.any_append]; simp
theorem indexI {w : World} {v : Value} {l : List Int} (h : Sl w 3 1 v l.length (l.map (.int .i64))) (s : Int) : Fn Try.prog 72 #[v, .int .i64 s] w fun r w' => (∃ i : Int, r = .int .i64 i ∧ decide (i ≥ 0) = hasI l s) ∧ w' = w := by
  have hle := h.le
  simp only [maxLen] at hle
  obtain ⟨a, cap, rfl, -⟩ := h.form
  refine fn_enter Try.func72 rfl rfl ?_
  refine len_sl ?_
  refine loop_rule [0, 1, 7] [8] (fun vs w' m => ∃ j : Nat, vs = [.int .i64 j] ∧ j ≤ l.length ∧ m = l.length - j ∧ hasI (l.take j) s = false ∧ w' = w) rfl [.int .i64 0] l.length rfl ⟨0, rfl, by omega, rfl, rfl, rfl⟩ ?_
  rintro _ w1 m ⟨j, rfl, hj, rfl, ht, rfl⟩
  refine cd (fun hlt => ?_) (fun hlt => ?_)
  · have hlt : j < l.length := by omega
    obtain ⟨b, o, c2, he, -⟩ := h.some_ (by omega)
    cases he
    refine ix j rfl hlt ?_
    refine ld (v := .int .i64 (l.getD j 0)) (h.getD_ rfl j hlt) ?_
    have hst := hasI_s l s j hlt
    refine cd (fun heq => ?_) (fun heq => ?_)
    · refine ⟨⟨(j : Int), rfl, ?_⟩, rfl⟩
      have : hasI l s = true := by
        unfold hasI
        rw [List.any_eq_true]
        exact ⟨l.getD j 0, by simp [List.getD, hlt], by simp [heq]⟩
      rw [this]
      exact decide_eq_true (by omega)
    · refine ar64 (by omega) ?_
      refine round_mk [.int .i64 ((j + 1 : Nat) : Int)] (l.length - (j + 1)) rfl rfl ⟨j + 1, rfl, by omega, rfl, ?_, rfl⟩ (by omega)
      rw [hst, ht, Bool.false_or]
      exact decide_eq_false (fun e => heq e.symm)
  · have hj : j = l.length := by omega
    subst hj
    rw [List.take_length] at ht
    exact ⟨⟨-1, rfl, by rw [ht]; rfl⟩, rfl⟩
theorem contI {w : World} {v : Value} {l : List Int} (h : Sl w 3 1 v l.length (l.map (.int .i64))) (s : Int) : Fn Try.prog 60 #[v, .int .i64 s] w fun r w' => r = .bool (hasI l s) ∧ w' = w := by
  refine fn_enter Try.func60 rfl rfl ?_
  refine cl (indexI h s) ?_
  rintro _ w ⟨⟨i, rfl, hi⟩, rfl⟩
  exact ⟨by rw [← hi]; rfl, rfl⟩
theorem cloneI {w : World} {v : Value} {l : List Int} (h : Sl w 3 1 v l.length (l.map (.int .i64))) (hl : l.length ≤ 4294967296) : Fn Try.prog 47 #[v] w fun r w' => Sl w' 3 1 r l.length (l.map (.int .i64)) ∧ Upd [] w w' := by
  have h' := h
  obtain ⟨a, cap, rfl, hc, h0⟩ := h.form
  refine fn_enter Try.func47 rfl rfl ?_
  refine sl_eq ?_
  cases a with
  | none =>
    obtain ⟨h1, h2⟩ := h0 rfl
    obtain rfl := List.length_eq_zero_iff.1 h1
    exact ⟨Sl.nil_ _ _ _, Upd.refl _ _⟩
  | some a =>
    refine bs #[] (fun _ => by kernel_rfl) fun w1 hb1 hu1 hs1 => ?_
    have hz : Sl w1 3 1 (.slice (some ⟨w.heap.size, 0, none⟩) 0 0) 0 [] := Sl.lit hb1 rfl (by simp [maxLen])
    refine apx hz (h'.upd hu1 (by simp)).rd (by intro x hx; obtain ⟨y, -, rfl⟩ := List.mem_map.1 hx; rfl) (by simp only [maxLen]; omega) (by omega) fun v2 w2 hs2 hG2 => ?_
    refine ⟨by simpa using hs2, hu1.step hG2.up (by simp [Value.ownBlock])⟩
theorem list_cell {w : World} {pg pi : Nat} {v : Value} {l : List Int} (hb : w.cell? ⟨pg, pi, none⟩ = some v) (hs : Sl w 3 1 v l.length (l.map (.int .i64))) (hl : l.length ≤ 4294967296) : Fn Try.prog 26 #[.pointer (some ⟨pg, pi, none⟩)] w fun r w' => Sl w' 3 1 r l.length (l.map (.int .i64)) ∧ Upd [] w w' := by
  refine fn_enter Try.func26 rfl rfl ?_
  refine ptr_eq ?_
  refine fa ?_
  refine ld (v := v) hb ?_
  refine cl (cloneI hs hl) ?_
  rintro r w' ⟨h1, h2⟩
  obtain ⟨a2, c2, rfl, -⟩ := h1.form
  exact ⟨h1, h2⟩
/-- the function that tells which nodes stay -/
theorem stays_k {g tg : Nat} {cs : Array Value} {v : Value} {O : List Int} (hcs : cs[9]? = some v) (l : List Int) : KeepV Try.prog (.func (.func 59) #[] #[.pointer (some ⟨g, 0, none⟩)]) l (hasI O) (obEv [obBlk g 31 #[ptrV tg], obBlk tg TT cs, obI v O]) := by
  refine ⟨_, _, rfl, HasBody.h, fun x hx w hB => ?_⟩
  have h1 : Blk w g 31 #[ptrV tg] := hB (obBlk g 31 #[ptrV tg]) (by simp)
  have h2 : Blk w tg TT cs := hB (obBlk tg TT cs) (by simp)
  have h3 : Sl w 3 1 v O.length (O.map (.int .i64)) := hB (obI v O) (by simp)
  refine fn_enter Try.func59 rfl rfl ?_
  refine ldb h1 rfl ?_
  refine fa ?_
  refine ld (v := v) (by rw [h2.cell]; exact hcs) ?_
  refine cl (contI h3 x) ?_
  rintro _ w ⟨rfl, rfl⟩
  exact ⟨rfl, Upd.refl _ _⟩
section
variable {w w' : World} {X : Mc} {b : Int} {i : Nat} {t : Th} {fs : List Fr} {f : Fr} {fb fo fc : Nat}
/-- a thread's found ones (its 9th cell) have become others -/
theorem Mach.setO (h : Mach w X) (hi : X.ths[i]? = some t) {w2 w3 : World} {v' : Value} {O' : List Int} (hs : Sl w2 3 1 v' O'.length (O'.map (.int .i64))) (ht : To w t.ov.ownBlock.toList w2 v'.ownBlock.toList)
    (hb : Blk w3 t.g TT (thrC (i : Int) t.fv t.r t.pv t.sv t.wv t.rv v')) (hu : Upd [t.g] w2 w3) : Post w X w3 { X with ths := X.ths.set i { t with ov := v', O := O' } } := by
  have S0 := h.thr hi
  have S1 := Sep.set (i := 5) (x := obI t.ov t.O) (y := obI v' O') S0 rfl hs ht
  have hc := S0.at_ (i := 0) (x := obCore (i : Int) t) rfl
  have hap := S0.apart_ (i := 0) (j := 5) (x := obCore (i : Int) t) (y := obI t.ov t.O) rfl rfl (by decide)
  have hc : IsThr w t.g (i : Int) t.fv t.fs t.r t.pv t.sv t.wv t.rv t.ov := hc
  have hnb := hc.fr.blk_ne hc.blk (by decide)
  have hfr2 := hc.fr.upd ht.up (fun g hg hm => hap g (by simp [obCore, hg]) hm)
  have hfr3 := hfr2.upd hu (fun g hg => by simp; intro e; subst e; exact hnb hg)
  have t2 : To w2 (obCore (i : Int) t).foot w3 (obCore (i : Int) { t with ov := v', O := O' }).foot := ⟨hu.mono (by intro k hk; rw [List.mem_singleton.1 hk]; exact List.mem_cons_self), fun k hk => .inl hk⟩
  have S2 := Sep.set (i := 0) (x := obCore (i : Int) t) (y := obCore (i : Int) { t with ov := v', O := O' }) S1 rfl ⟨hb, hfr3⟩ t2
  have T1 := To.set (l := t.obs (i : Int)) (i := 5) (x := obI t.ov t.O) (y := obI v' O') rfl ht
  have T2 := To.set (l := (t.obs (i : Int)).set 5 (obI v' O')) (i := 0) (x := obCore (i : Int) t) (y := obCore (i : Int) { t with ov := v', O := O' }) rfl t2
  exact h.setTh (t' := { t with ov := v', O := O' }) hi rfl S2 (T1.trans T2)
end
def scEnd (p : PS) (i : Nat) (t : PT) (fs : List Fr) (f : Fr) : List Int → PS
  | [] => p.put i { t with fs := fs, r := (0, 0, 0), O := [] }
  | n :: O => p.put i { t with fs := fs ++ [f] ++ [⟨2, 0, [IntKind.u64.wrap n]⟩], O := O }
def PS.slotV (p : PS) (k : Int) : Int := p.c.haz (k.tdiv p.c.slots) (k.tmod p.c.slots)
def hzScan (p : PS) (i : Nat) (t : PT) (fs : List Fr) (f : Fr) : PS :=
  if f.pc < p.c.slots * p.c.T then (p.load (p.slotV f.pc)).put i { t with fs := fs ++ [{ f with pc := f.pc + 1 }], O := (if f.pc = 0 then [] else t.O) ++ [toI (p.ldv (p.slotV f.pc))] }
  else if f.pc = p.c.slots * p.c.T then scEnd p i { t with R := t.R.filter (hasI t.O) } fs { f with pc := f.pc + 1 } (t.R.filter fun y => !hasI t.O y)
  else scEnd p i t fs f t.O
end Go.Proofs.Ytklbeipdigancaa

/- Contracts: hazard.scan, its walk. -/
namespace Go.Proofs.Ytklbeipdigancaa
open Go.RowKit
attribute [local irreducible] Instr.loadAt Instr.storeAt Instr.fieldAt Instr.indexAt Instr.sliceAt Instr.buildSlice Instr.box Instr.alloc Builtin.append_ Builtin.len_ Builtin.min_ Builtin.max_ Calls Instr.build Instr.makeSlice binSem convert Instr.index Instr.range Instr.next
section
variable {w w' : World} {X : Mc} {b : Int} {i : Nat} {t : Th} {fs : List Fr} {f : Fr} {fb fo fc : Nat}
/-- the walk of scan: its own two boxes beside the machine -/
structure Sc (w0 w : World) (X0 X : Mc) (i : Nat) (t : Th) (fs : List Fr) (f : Fr) (fb fo fc : Nat) (g4 g6 : Nat) (c : Cf) : Prop where
  I : TopI w0 w X0 X i t fs f fb fo fc
  b4 : Aside w X g4 31 #[ptrV t.g]
  b6 : Aside w X g6 55 (planC c)
theorem Sc.upd0 {w0 : World} {X0 : Mc} {g4 g6 : Nat} {c : Cf} (h : Sc w0 w X0 X i t fs f fb fo fc g4 g6 c) (hu : Upd [] w w') : Sc w0 w' X0 X i t fs f fb fo fc g4 g6 c := ⟨h.I.upd0 hu, h.b4.upd0 hu, h.b6.upd0 hu⟩
theorem Sc.mem {w0 : World} {X0 X' : Mc} {g4 g6 : Nat} {c : Cf} (h : Sc w0 w X0 X i t fs f fb fo fc g4 g6 c) (p : Post w X w' X') (k : Kin X X') (hs : X'.ths = X.ths) : Sc w0 w' X0 X' i t fs f fb fo fc g4 g6 c := ⟨h.I.mem p k hs, h.b4.post p, h.b6.post p⟩
theorem Sc.ov {w0 : World} {X0 : Mc} {g4 g6 : Nat} {c : Cf} (h : Sc w0 w X0 X i t fs f fb fo fc g4 g6 c) {w2 w3 : World} {v' : Value} {O' : List Int} (hs : Sl w2 3 1 v' O'.length (O'.map (.int .i64))) (ht : To w t.ov.ownBlock.toList w2 v'.ownBlock.toList)
    (hb : Blk w3 t.g TT (thrC (i : Int) t.fv t.r t.pv t.sv t.wv t.rv v')) (hu : Upd [t.g] w2 w3) : Sc w0 w3 X0 { X with ths := X.ths.set i { t with ov := v', O := O' } } i { t with ov := v', O := O' } fs f fb fo fc g4 g6 c := by
  have p := h.I.p.ok.setO h.I.i hs ht hb hu
  exact ⟨⟨h.I.p.trans p, h.I.k.trans (kin_set X h.I.i rfl), set_at h.I.i, h.I.f, h.I.v⟩, h.b4.post p, h.b6.post p⟩
/-- what the reads of a scan find -/
structure SR (w : World) (t : Th) (ov : Value) (f : Fr) (fb o : Nat) (g4 g6 : Nat) (c : Cf) : Prop where
  fr : ∀ j, j < 12 → w.cell? ⟨fb, o + j, none⟩ = (frC f)[j]?
  ov : w.cell? ⟨t.g, 9, none⟩ = some ov
  b4 : Blk w g4 31 #[ptrV t.g]
  b6 : Blk w g6 55 (planC c)
theorem Sc.rd {w0 : World} {X0 : Mc} {g4 g6 : Nat} {c : Cf} (h : Sc w0 w X0 X i t fs f fb fo fc g4 g6 c) : SR w t t.ov f fb (fo + fs.length * 12) g4 g6 c := ⟨fun j hj => h.I.at_ j hj, (h.I.p.ok.core h.I.i).blk.cell 9, h.b4.b, h.b6.b⟩
theorem ov_feet {X : Mc} {i : Nat} {t : Th} (hi : X.ths[i]? = some t) : ∀ k ∈ t.ov.ownBlock.toList, k ∈ X.feet := fun k hk =>
  mem_feet.2 ⟨obThr (i : Int) t, List.mem_of_getElem? (obs_thr X i t hi), mem_feet.2 ⟨obI t.ov t.O, by simp [Th.obs], hk⟩⟩
theorem Sc.grow {w0 : World} {X0 : Mc} {g4 g6 : Nat} {c : Cf} (h : Sc w0 w X0 X i t fs f fb fo fc g4 g6 c) (hu : Upd t.ov.ownBlock.toList w w') : SR w' t t.ov f fb (fo + fs.length * 12) g4 g6 c ∧ Blk w' t.g TT (thrC (i : Int) t.fv t.r t.pv t.sv t.wv t.rv t.ov) := by
  have S0 := h.I.p.ok.thr h.I.i
  have hap := S0.apart_ (i := 0) (j := 5) (x := obCore (i : Int) t) (y := obI t.ov t.O) rfl rfl (by decide)
  have hlt := (obCore (i : Int) t).lt (S0.at_ (i := 0) (x := obCore (i : Int) t) rfl)
  have hfb : fb ∈ (obCore (i : Int) t).foot := by
    show fb ∈ t.g :: t.fv.ownBlock.toList
    rw [h.I.v]; simp [Value.ownBlock]
  have hblk := (h.I.p.ok.core h.I.i).blk.upd hu (hap t.g List.mem_cons_self)
  exact ⟨⟨fun j hj => by rw [hu.cell (hlt fb hfb) (hap fb hfb)]; exact h.I.at_ j hj, hblk.cell 9, h.b4.b.upd hu (fun hm => h.b4.n (ov_feet h.I.i _ hm)), h.b6.b.upd hu (fun hm => h.b6.n (ov_feet h.I.i _ hm))⟩, hblk⟩
theorem Sep.put {l : List Ob} {i : Nat} {x y : Ob} (h : Sep w l) (hi : l[i]? = some x) (hy : y.ok w) (hf : ∀ k ∈ y.foot, k ∈ x.foot ∨ k ∉ feet l) : Sep w (l.set i y) := by
  have other : ∀ j z, j ≠ i → l[j]? = some z → ∀ k ∈ y.foot, k ∉ z.foot := fun j z hj hz k hk hk2 => by
    rcases hf k hk with h1 | h1
    · exact h.apart_ hi hz (Ne.symm hj) k h1 hk2
    · exact h1 (mem_feet.2 ⟨z, List.mem_of_getElem? hz, hk2⟩)
  refine ⟨fun z hz => ?_, List.pairwise_iff_getElem.2 fun a b ha hb hab => ?_⟩
  · rcases List.mem_or_eq_of_mem_set hz with h1 | h1
    · exact h.ok z h1
    · rw [h1]; exact hy
  · have ha' : a < l.length := by simpa using ha
    have hb' : b < l.length := by simpa using hb
    rw [List.getElem_set, List.getElem_set]
    by_cases h1 : i = a
    · subst h1
      rw [if_pos rfl, if_neg (by omega)]
      exact other b _ (by omega) (List.getElem?_eq_getElem hb')
    · rw [if_neg h1]
      by_cases h2 : i = b
      · subst h2
        rw [if_pos rfl]
        exact fun k hk hk2 => other a _ (by omega) (List.getElem?_eq_getElem ha') k hk2 hk
      · rw [if_neg h2]
        exact List.pairwise_iff_getElem.1 h.apart a b ha' hb' hab
/-- a thing of the caller's own becomes the machine's -/
theorem Mach.setF (h : Mach w X) (hi : X.ths[i]? = some t) {t' : Th} {w3 : World} {y : Ob} {j : Nat} (hj : j ≠ 0) (hg : t'.g = t.g) (hc : (obCore (i : Int) t').ok w3) (hfv : t'.fv = t.fv) (hu : Upd [t.g] w w3) (hy : y.ok w3) (hjl : j < 6)
    (hobs : t'.obs (i : Int) = ((t.obs (i : Int)).set 0 (obCore (i : Int) t')).set j y) (hyf : ∀ k ∈ y.foot, k ∉ X.feet) : Mach w3 { X with ths := X.ths.set i t' } ∧ (∀ k ∈ Mc.feet { X with ths := X.ths.set i t' }, k ∈ X.feet ∨ k ∈ y.foot) ∧ Upd X.feet w w3 := by
  have S0 := h.thr hi
  have hcf : (obCore (i : Int) t').foot = (obCore (i : Int) t).foot := by
    show t'.g :: t'.fv.ownBlock.toList = t.g :: t.fv.ownBlock.toList
    rw [hg, hfv]
  have t1 : To w (obCore (i : Int) t).foot w3 (obCore (i : Int) t').foot := ⟨hu.mono (by intro k hk; rw [List.mem_singleton.1 hk]; exact List.mem_cons_self), fun k hk => .inl (by rw [← hcf]; exact hk)⟩
  have S1 := Sep.set (i := 0) (x := obCore (i : Int) t) (y := obCore (i : Int) t') S0 rfl hc t1
  have T1 := To.set (l := t.obs (i : Int)) (i := 0) (x := obCore (i : Int) t) (y := obCore (i : Int) t') rfl t1
  have hf1 : ∀ k, k ∈ feet ((t.obs (i : Int)).set 0 (obCore (i : Int) t')) → k ∈ feet (t.obs (i : Int)) := fun k hk => by
    obtain ⟨z, hz, hk⟩ := mem_feet.1 hk
    rcases List.mem_or_eq_of_mem_set hz with h1 | h1
    · exact mem_feet.2 ⟨z, h1, hk⟩
    · subst h1; rw [hcf] at hk
      exact mem_feet.2 ⟨_, List.mem_of_getElem? (i := 0) rfl, hk⟩
  have hobt := obs_thr X i t hi
  have hin : ∀ k, k ∈ feet (t.obs (i : Int)) → k ∈ X.feet := fun k hk => mem_feet.2 ⟨obThr (i : Int) t, List.mem_of_getElem? hobt, hk⟩
  have hfl : ∀ k ∈ y.foot, k ∉ feet ((t.obs (i : Int)).set 0 (obCore (i : Int) t')) := fun k hk hm => hyf k hk (hin k (hf1 k hm))
  have hjx : ((t.obs (i : Int)).set 0 (obCore (i : Int) t'))[j]? = some (((t.obs (i : Int)).set 0 (obCore (i : Int) t'))[j]'(by rw [List.length_set]; exact hjl)) := List.getElem?_eq_getElem _
  have S2 := S1.put hjx hy (fun k hk => .inr (hfl k hk))
  rw [← hobs] at S2
  -- the machine with the raw list
  have M1 : Sep w3 (X.obs.set (5 + i) (obAll ((t.obs (i : Int)).set 0 (obCore (i : Int) t')))) := Sep.set (x := obThr (i : Int) t) (y := obAll ((t.obs (i : Int)).set 0 (obCore (i : Int) t'))) h hobt S1 T1
  have hl5 : 5 + i < X.obs.length := (List.getElem?_eq_some_iff.1 hobt).1
  have hg1 : (X.obs.set (5 + i) (obAll ((t.obs (i : Int)).set 0 (obCore (i : Int) t'))))[5 + i]? = some (obAll ((t.obs (i : Int)).set 0 (obCore (i : Int) t'))) := by
    rw [List.getElem?_set, if_pos rfl, if_pos hl5]
  have hff : ∀ k, k ∈ feet (X.obs.set (5 + i) (obAll ((t.obs (i : Int)).set 0 (obCore (i : Int) t')))) → k ∈ X.feet := fun k hk => by
    obtain ⟨z, hz, hk⟩ := mem_feet.1 hk
    rcases List.mem_or_eq_of_mem_set hz with h1 | h1
    · exact mem_feet.2 ⟨z, h1, hk⟩
    · subst h1; exact hin k (hf1 k hk)
  have hty : ∀ k, k ∈ feet (t'.obs (i : Int)) → k ∈ feet ((t.obs (i : Int)).set 0 (obCore (i : Int) t')) ∨ k ∈ y.foot := fun k hk => by
    rw [hobs] at hk
    obtain ⟨z, hz, hk2⟩ := mem_feet.1 hk
    rcases List.mem_or_eq_of_mem_set hz with h1 | h1
    · exact .inl (mem_feet.2 ⟨z, h1, hk2⟩)
    · rw [h1] at hk2; exact .inr hk2
  have M2 := M1.put hg1 (y := obThr (i : Int) t') S2 (fun k hk => by
    rcases hty k hk with h1 | h1
    · exact .inl h1
    · exact .inr (fun hm => hyf k h1 (hff k hm)))
  rw [List.set_set] at M2
  have e := obs_set X i t t' hi hg
  refine ⟨?_, fun k hk => ?_, hu.mono (fun k hk => by rw [List.mem_singleton.1 hk]; exact feet_thr hi _ List.mem_cons_self)⟩
  · show Sep w3 (Mc.obs _)
    rw [e]; exact M2
  · have hk : k ∈ feet (Mc.obs { X with ths := X.ths.set i t' }) := hk
    rw [e] at hk
    obtain ⟨z, hz, hk2⟩ := mem_feet.1 hk
    rcases List.mem_or_eq_of_mem_set hz with h1 | h1
    · exact .inl (mem_feet.2 ⟨z, h1, hk2⟩)
    · rw [h1] at hk2
      rcases hty k hk2 with h2 | h2
      · exact .inl (hin k (hf1 k h2))
      · exact .inr h2
theorem Sc.setF {w0 : World} {X0 : Mc} {g4 g6 : Nat} {c : Cf} (h : Sc w0 w X0 X i t fs f fb fo fc g4 g6 c) {t' : Th} {w3 : World} {y : Ob} {j : Nat} (hj : j ≠ 0) (hg : t'.g = t.g) (hc : (obCore (i : Int) t').ok w3) (hfv : t'.fv = t.fv) (hfs : t'.fs = t.fs) (hu : Upd [t.g] w w3) (hy : y.ok w3) (hjl : j < 6)
    (hobs : t'.obs (i : Int) = ((t.obs (i : Int)).set 0 (obCore (i : Int) t')).set j y) (hyf : ∀ k ∈ y.foot, k ∉ X.feet ∧ k ≠ g4 ∧ k ≠ g6 ∧ w0.heap.size ≤ k) : Sc w0 w3 X0 { X with ths := X.ths.set i t' } i t' fs f fb fo fc g4 g6 c := by
  obtain ⟨m1, m2, m3⟩ := h.I.p.ok.setF h.I.i hj hg hc hfv hu hy hjl hobs (fun k hk => (hyf k hk).1)
  have hgt : t.g ∈ X.feet := feet_thr h.I.i _ List.mem_cons_self
  have hn : ∀ g, g ∉ X.feet → (∀ k ∈ y.foot, k ≠ g) → g ∉ Mc.feet { X with ths := X.ths.set i t' } := fun g h1 h2 hm => by
    rcases m2 g hm with h3 | h3
    · exact h1 h3
    · exact h2 g h3 rfl
  refine ⟨⟨⟨m1, ⟨h.I.p.to.up.step m3 (fun k hk => h.I.p.to.sub k hk), fun k hk => ?_⟩⟩, h.I.k.trans (kin_set X h.I.i hg), set_at h.I.i, hfs.trans h.I.f, by rw [hfv, hfs]; exact h.I.v⟩, ⟨?_, hn g4 h.b4.n (fun k hk => (hyf k hk).2.1)⟩, ⟨h.b6.b.upd hu (by simp; intro e; exact h.b6.n (by rw [e]; exact hgt)), hn g6 h.b6.n (fun k hk => (hyf k hk).2.2.1)⟩⟩
  · rcases m2 k hk with h1 | h1
    · exact h.I.p.to.sub k h1
    · exact .inr (hyf k h1).2.2.2
  · rw [hg]
    exact h.b4.b.upd hu (by simp; intro e; exact h.b4.n (by rw [e]; exact hgt))
theorem Sc.st {w0 : World} {X0 : Mc} {g4 g6 : Nat} {c : Cf} {ty : Nat} [One Try.prog ty] {K : World → Prop} (h : Sc w0 w X0 X i t fs f fb fo fc g4 g6 c) {f' : Fr} (j : Nat) (hj : j < 12) {a : Nat} (ha : a = fo + fs.length * 12 + j) {u : Value} (hu : u.oneCell' = true)
    (hf : frC f' = (frC f).set j u) (k : ∀ w', Sc w0 w' X0 { X with ths := X.ths.set i { t with fs := fs ++ [f'] } } i { t with fs := fs ++ [f'] } fs f' fb fo fc g4 g6 c → K w') : RunU Try.prog (Instr.storeAt ty (.pointer (some ⟨fb, a, none⟩)) u) K w :=
  st_fr h.I.p.ok h.I.i h.I.f h.I.v j hj ha hu hf fun w' p => k w' ⟨⟨h.I.p.trans p, h.I.k.trans (kin_set X h.I.i rfl), set_at h.I.i, rfl, by
    show t.fv = .slice _ (fs ++ [f']).length fc
    rw [h.I.v, h.I.f]; simp⟩, h.b4.post p, h.b6.post p⟩
theorem stays_fn {w : World} {g tg : Nat} {cs : Array Value} {v : Value} {O : List Int} (h1 : Blk w g 31 #[ptrV tg]) (h2 : Blk w tg TT cs) (hcs : cs[9]? = some v) (h3 : Sl w 3 1 v O.length (O.map (.int .i64))) (x : Int) : Fn Try.prog 59 #[.int .i64 x, .pointer (some ⟨g, 0, none⟩)] w fun r w' => r = .bool (hasI O x) ∧ w' = w := by
  refine fn_enter Try.func59 rfl rfl ?_
  refine ldb h1 rfl ?_
  refine fa ?_
  refine ld (v := v) (by rw [h2.cell]; exact hcs) ?_
  refine cl (contI h3 x) ?_
  rintro _ w ⟨rfl, rfl⟩
  exact ⟨rfl, rfl⟩
theorem scEnd_nil {p : PS} {i : Nat} {t : PT} {fs : List Fr} {f : Fr} (h : t.O = []) : scEnd p i t fs f t.O = p.put i { t with fs := fs, r := (0, 0, 0) } := by
  obtain ⟨a1, a2, a3, a4, a5, a6, a7⟩ := t
  have h : a7 = [] := h
  subst h; rfl
theorem scEnd_cons {p : PS} {i : Nat} {t : PT} {fs : List Fr} {f : Fr} {n : Int} {O : List Int} (h : t.O = n :: O) (hf : t.fs = fs ++ [f]) : scEnd p i t fs f t.O = p.put i { t with O := O, fs := t.fs ++ [⟨2, 0, [IntKind.u64.wrap n]⟩] } := by
  rw [h, hf]; rfl
theorem tail_sl {w : World} {b o c : Nat} {x : Int} {l : List Int} (h : Sl w 3 1 (.slice (some ⟨b, o, none⟩) (x :: l).length c) (x :: l).length ((x :: l).map (.int .i64))) (hc : (x :: l).length ≤ c) :
    Sl w 3 1 (.slice (if c = 1 then some ⟨b, o, none⟩ else (some ⟨b, o, none⟩ : Option Addr).map (·.add (1 * 1))) ((x :: l).length - 1) (c - 1)) l.length (l.map (.int .i64)) ∧
    (Value.slice (if c = 1 then some ⟨b, o, none⟩ else (some ⟨b, o, none⟩ : Option Addr).map (·.add (1 * 1))) ((x :: l).length - 1) (c - 1)).ownBlock = some b := by
  by_cases hc1 : c = 1
  · rw [if_pos hc1]
    have hl1 : l = [] := by
      cases l with
      | nil => rfl
      | cons y l => simp at hc; omega
    subst hl1; subst hc1
    exact ⟨h.empty_at rfl, rfl⟩
  · rw [if_neg hc1]
    have := h.drop_ rfl 1 (by simp)
    exact ⟨by simpa [Addr.add_lit] using this, by simp [Value.ownBlock, Addr.add_lit]⟩
set_option maxRecDepth 10000 in
set_option maxHeartbeats 1000000 in
theorem scan_p (h : Mach w X) (hg : Good X b) (hb : b ≤ 900000) (hpc : 0 ≤ f.pc ∧ f.pc ≤ 100000) (hi : X.ths[i]? = some t) (hfs : t.fs = fs ++ [f]) (hl : fs.length ≤ 90000) (hRl : t.R.length ≤ 90000) (hOl : t.O.length ≤ 90000) (hfv : t.fv = .slice (some ⟨fb, fo, none⟩) t.fs.length fc) :
    Fn Try.prog 42 #[ptrV X.m, ptrV t.g, .pointer (some ⟨fb, fo + fs.length * 12, none⟩)] w fun _ w' => Ev w X w' (hzScan X.abs i (absT t) fs f) := by
  have I : TopI w w X X i t fs f fb fo fc := ⟨.refl h, .refl X, hi, hfs, hfv⟩
  have hr := hg.ok.r
  have hcc : X.abs.c = X.c := rfl
  have hsl : 2 ≤ X.c.slots ∧ X.c.slots ≤ 14 ∧ 1 ≤ X.c.T ∧ X.c.T ≤ 6 := by
    rw [hcc] at hr
    generalize X.c = c at *
    obtain ⟨A, T, N, L, B, P, S⟩ := c
    have := plan_bd hr
    exact ⟨this.1.1, this.1.2, this.2.2.2.1.1, this.2.2.2.1.2⟩
  have hml := mul_bd (a := X.c.slots) (b := X.c.T) (x := 14) (y := 6) (by omega) (by omega)
  refine fn_enter Try.func42 rfl rfl ?_
  refine bx fun w1 hb1 hu1 hs1 => ?_
  have h1 := h.upd0 hu1
  refine cl (plan_mm h1) ?_
  rintro _ w2 ⟨rfl, hu2⟩
  refine al z15 (fun _ => by kernel_rfl) fun w3 hb3 hu3 hs3 => ?_
  refine stw hb3 rfl (planC_len X.c) (planC_one X.c) fun w4 hb4 hu4 hs4 => ?_
  have hz1 := hu1.size; have hz2 := hu2.size; have hz3 := hu3.size
  have hft : ∀ k ∈ X.feet, k < w.heap.size := fun k hk => Sep.lt h k hk
  have hne : w.heap.size ≠ w2.heap.size := by omega
  have hbx : Blk w4 w.heap.size 31 #[ptrV t.g] := ((hb1.upd hu2 (by simp)).upd hu3 (by simp)).upd hu4 (by simp; omega)
  have hU4 : Upd [] w w4 := (((hu1.trans hu2).trans hu3).step hu4 (by simp; omega))
  have S4 : Sc w w4 X X i t fs f fb fo fc w.heap.size w2.heap.size X.c := ⟨I.upd0 hU4, ⟨hbx, fun hm => by have := hft _ hm; omega⟩, ⟨hb4, fun hm => by have := hft _ hm; omega⟩⟩
  generalize w.heap.size = g4 at *
  generalize w2.heap.size = g6 at *
  refine draw_all (fun w' => Upd [] w4 w') (by decide +kernel) (Upd.refl [] w4).drew ?_
  refine rq (.agg (planC X.c)) (fun w' hw' => ldw (S4.upd0 hw').b6.b rfl ⟨rfl, rfl⟩) ?_
  refine q_cl (.int .i64 X.c.slots) (fun w' hw' => (pslots_c X.c w').mono fun _ _ ⟨u, he, h1, h2⟩ => ⟨u, he, h1, hw'.trans h2⟩) ?_
  refine rq (.agg (planC X.c)) (fun w' hw' => ldw (S4.upd0 hw').b6.b rfl ⟨rfl, rfl⟩) ?_
  refine q_cl (.agg (cf7 X.c)) (fun w' hw' => (conf_c2 X.c w').mono fun _ _ ⟨u, he, h1, h2⟩ => ⟨u, he, h1, hw'.trans h2⟩) ?_
  refine rq (.int .i64 X.c.T) (fun w' hw' => fl (by cases X.c; rfl) ⟨rfl, rfl⟩) ?_
  refine q_ar64 (by omega) ?_
  intro w5 hu5
  have S5 := S4.upd0 hu5
  refine fa ?_
  refine ld (v := .int .i64 f.pc) (S5.rd.fr 1 (by omega)) ?_
  unfold hzScan
  rw [hcc]
  by_cases c0 : f.pc = 0
  · refine cY c0 ?_
    refine ldb S5.b4.b rfl ?_
    refine fa ?_
    have hblk5 := (S5.I.p.ok.core S5.I.i).blk
    refine st hblk5 (by show 9 < 10; omega) rfl fun w6 hb6 hu6 hs6 => ?_
    have S6 := S5.ov (O' := []) (Sl.nil_ _ _ _) ⟨(Upd.refl [] w5).mono (by simp), fun k hk => by simp [Value.ownBlock] at hk⟩ hb6 hu6
    have hc1 : f.pc < X.c.slots * X.c.T := by
      have := Int.mul_le_mul hsl.1 hsl.2.2.1 (by omega) (by omega)
      omega
    rw [if_pos hc1, if_pos c0]
    have hg6 : Good { X with ths := X.ths.set i { t with ov := .slice none 0 0, O := [] } } b := hg.of (kin_set X hi rfl) (abs_set X i _) (hg.ok.put _ _)
    refine fa ?_
    refine ld (v := .int .i64 f.pc) (S6.rd.fr 1 (by omega)) ?_
    refine cY hc1 ?_
    refine draw_mix 26 [(0, true), (1, true), (2, true), (3, true), (4, true), (5, true), (6, true), (7, true), (8, true), (9, true), (10, true), (11, true), (14, true), (15, true), (16, true), (17, true), (18, true), (12, false), (13, true), (19, false), (20, true), (21, false), (22, false), (23, true), (24, false), (25, false)] (fun w' => SR w' ({ t with ov := .slice none 0 0, O := [] } : Th) (({ t with ov := .slice none 0 0, O := [] } : Th)).ov f fb (fo + fs.length * 12) g4 g6 X.c) (by decide +kernel) ((S6).upd0 (Upd.refl [] _).drew).rd ?_
    refine q_ld (v := ptrV t.g) (fun w' hw' => hw'.b4.cell 0) ?_
    refine q_ld (v := ptrV t.g) (fun w' hw' => hw'.b4.cell 0) ?_
    refine q_fa ?_
    refine q_ld (v := (({ t with ov := .slice none 0 0, O := [] } : Th)).ov) (fun w' hw' => hw'.ov) ?_
    refine rq (.agg (planC X.c)) (fun w' hw' => ldw hw'.b6 rfl ⟨rfl, rfl⟩) ?_
    refine q_fa ?_
    refine q_ld (v := .int .i64 f.pc) (fun w' hw' => hw'.fr 1 (by omega)) ?_
    refine rq (.agg (planC X.c)) (fun w' hw' => ldw hw'.b6 rfl ⟨rfl, rfl⟩) ?_
    refine q_fa ?_
    refine q_ld (v := .int .i64 f.pc) (fun w' hw' => hw'.fr 1 (by omega)) ?_
    refine rq (.agg (planC X.c)) (fun w' hw' => ldw hw'.b6 rfl ⟨rfl, rfl⟩) ?_
    have S6 := (S6).upd0 (Upd.refl [] _).drew
    refine cl (pslots_c X.c _) ?_
    rintro _ w7 ⟨rfl, hu7⟩
    have S7 := S6.upd0 hu7
    refine ⟨S7.rd, ?_⟩
    refine rq (.int .i64 (f.pc.tdiv X.c.slots)) (fun _ _ => qu (by omega) (ar64 (by
      have h1 := Int.tdiv_nonneg hpc.1 (show 0 ≤ X.c.slots by omega)
      have h2 := Int.tdiv_le_self X.c.slots hpc.1
      omega) ⟨rfl, rfl⟩)) ?_
    refine cl (pslots_c X.c _) ?_
    rintro _ w8 ⟨rfl, hu8⟩
    have S8 := S7.upd0 hu8
    refine ⟨S8.rd, ?_⟩
    refine rq (.int .i64 (f.pc.tmod X.c.slots)) (fun _ _ => rm (by omega) (val _ rfl ⟨rfl, rfl⟩)) ?_
    refine cl (haz_c hr _ _ w8) ?_
    rintro _ w9 ⟨rfl, hu9⟩
    have S9 := S8.upd0 hu9
    refine ⟨S9.rd, ?_⟩
    refine cl (load_p S9.I.p.ok hg6 (by omega) (X.abs.slotV f.pc)) ?_
    rintro _ w10 ⟨rfl, X10, p10, k10, a10, s10⟩
    have S10 := S9.mem p10 k10 s10
    refine ⟨S10.rd, ?_⟩
    refine rq (.int .i64 (toI ((({ X with ths := X.ths.set i { t with ov := .slice none 0 0, O := [] } } : Mc)).abs.ldv (X.abs.slotV f.pc)))) (fun _ _ => cv (val _ rfl ⟨rfl, rfl⟩)) ?_
    refine bs #[.int .i64 (toI ((({ X with ths := X.ths.set i { t with ov := .slice none 0 0, O := [] } } : Mc)).abs.ldv (X.abs.slotV f.pc)))] (fun _ => by kernel_rfl) fun w11 hb11 hu11 hs11 => ?_
    have S11 := S10.upd0 hu11
    refine ⟨S11.rd, ?_⟩
    refine apg (S11.I.p.ok.ov_ S11.I.i) hb11 rfl rfl (by decide) (by simp only [maxLen]; first | omega | (simp; done)) (by first | omega | (simp; done)) fun ov' w12 hs12 hG12 => ?_
    obtain ⟨r12, hblk12⟩ := S11.grow hG12.up
    refine ⟨r12, ?_⟩
    obtain ⟨oa, oc, rfl, -⟩ := hs12.form
    refine fa ?_
    refine st hblk12 (by show 9 < 10; omega) rfl fun w13 hb13 hu13 hs13 => ?_
    have S13 := S11.ov (O' := (({ t with ov := .slice none 0 0, O := [] } : Th)).O ++ [toI ((({ X with ths := X.ths.set i { t with ov := .slice none 0 0, O := [] } } : Mc)).abs.ldv (X.abs.slotV f.pc))]) (by rw [List.length_append, List.map_append]; exact hs12) (Upd.own hG12) hb13 hu13
    refine fa ?_
    refine ld (v := .int .i64 f.pc) (S13.I.at_ 1 (by omega)) ?_
    refine ar64 (by omega) ?_
    refine fa ?_
    refine S13.I.st (f' := { f with pc := f.pc + 1 }) 1 (by omega) rfl rfl (frC_pc f (f.pc + 1)) fun w14 I14 => ?_
    have e14 := I14.ev
    rw [abs_set, abs_set, put_put, a10, abs_set, put_load, put_put] at e14
    exact e14
  refine cN c0 ?_
  rw [if_neg c0]
  refine fa ?_
  refine ld (v := .int .i64 f.pc) (S5.rd.fr 1 (by omega)) ?_
  by_cases c1 : f.pc < X.c.slots * X.c.T
  · refine cY c1 ?_
    rw [if_pos c1]
    refine draw_mix 26 [(0, true), (1, true), (2, true), (3, true), (4, true), (5, true), (6, true), (7, true), (8, true), (9, true), (10, true), (11, true), (14, true), (15, true), (16, true), (17, true), (18, true), (12, false), (13, true), (19, false), (20, true), (21, false), (22, false), (23, true), (24, false), (25, false)] (fun w' => SR w' t (t).ov f fb (fo + fs.length * 12) g4 g6 X.c) (by decide +kernel) ((S5).upd0 (Upd.refl [] _).drew).rd ?_
    refine q_ld (v := ptrV t.g) (fun w' hw' => hw'.b4.cell 0) ?_
    refine q_ld (v := ptrV t.g) (fun w' hw' => hw'.b4.cell 0) ?_
    refine q_fa ?_
    refine q_ld (v := (t).ov) (fun w' hw' => hw'.ov) ?_
    refine rq (.agg (planC X.c)) (fun w' hw' => ldw hw'.b6 rfl ⟨rfl, rfl⟩) ?_
    refine q_fa ?_
    refine q_ld (v := .int .i64 f.pc) (fun w' hw' => hw'.fr 1 (by omega)) ?_
    refine rq (.agg (planC X.c)) (fun w' hw' => ldw hw'.b6 rfl ⟨rfl, rfl⟩) ?_
    refine q_fa ?_
    refine q_ld (v := .int .i64 f.pc) (fun w' hw' => hw'.fr 1 (by omega)) ?_
    refine rq (.agg (planC X.c)) (fun w' hw' => ldw hw'.b6 rfl ⟨rfl, rfl⟩) ?_
    have S6 := (S5).upd0 (Upd.refl [] _).drew
    refine cl (pslots_c X.c _) ?_
    rintro _ w7 ⟨rfl, hu7⟩
    have S7 := S6.upd0 hu7
    refine ⟨S7.rd, ?_⟩
    refine rq (.int .i64 (f.pc.tdiv X.c.slots)) (fun _ _ => qu (by omega) (ar64 (by
      have h1 := Int.tdiv_nonneg hpc.1 (show 0 ≤ X.c.slots by omega)
      have h2 := Int.tdiv_le_self X.c.slots hpc.1
      omega) ⟨rfl, rfl⟩)) ?_
    refine cl (pslots_c X.c _) ?_
    rintro _ w8 ⟨rfl, hu8⟩
    have S8 := S7.upd0 hu8
    refine ⟨S8.rd, ?_⟩
    refine rq (.int .i64 (f.pc.tmod X.c.slots)) (fun _ _ => rm (by omega) (val _ rfl ⟨rfl, rfl⟩)) ?_
    refine cl (haz_c hr _ _ w8) ?_
    rintro _ w9 ⟨rfl, hu9⟩
    have S9 := S8.upd0 hu9
    refine ⟨S9.rd, ?_⟩
    refine cl (load_p S9.I.p.ok hg (by omega) (X.abs.slotV f.pc)) ?_
    rintro _ w10 ⟨rfl, X10, p10, k10, a10, s10⟩
    have S10 := S9.mem p10 k10 s10
    refine ⟨S10.rd, ?_⟩
    refine rq (.int .i64 (toI ((X).abs.ldv (X.abs.slotV f.pc)))) (fun _ _ => cv (val _ rfl ⟨rfl, rfl⟩)) ?_
    refine bs #[.int .i64 (toI ((X).abs.ldv (X.abs.slotV f.pc)))] (fun _ => by kernel_rfl) fun w11 hb11 hu11 hs11 => ?_
    have S11 := S10.upd0 hu11
    refine ⟨S11.rd, ?_⟩
    refine apg (S11.I.p.ok.ov_ S11.I.i) hb11 rfl rfl (by decide) (by simp only [maxLen]; first | omega | (simp; done)) (by first | omega | (simp; done)) fun ov' w12 hs12 hG12 => ?_
    obtain ⟨r12, hblk12⟩ := S11.grow hG12.up
    refine ⟨r12, ?_⟩
    obtain ⟨oa, oc, rfl, -⟩ := hs12.form
    refine fa ?_
    refine st hblk12 (by show 9 < 10; omega) rfl fun w13 hb13 hu13 hs13 => ?_
    have S13 := S11.ov (O' := (t).O ++ [toI ((X).abs.ldv (X.abs.slotV f.pc))]) (by rw [List.length_append, List.map_append]; exact hs12) (Upd.own hG12) hb13 hu13
    refine fa ?_
    refine ld (v := .int .i64 f.pc) (S13.I.at_ 1 (by omega)) ?_
    refine ar64 (by omega) ?_
    refine fa ?_
    refine S13.I.st (f' := { f with pc := f.pc + 1 }) 1 (by omega) rfl rfl (frC_pc f (f.pc + 1)) fun w14 I14 => ?_
    have e14 := I14.ev
    rw [abs_set, abs_set, put_put, a10] at e14
    exact e14
  refine cN c1 ?_
  rw [if_neg c1]
  refine fa ?_
  refine ld (v := .int .i64 f.pc) (S5.rd.fr 1 (by omega)) ?_
  by_cases c2 : f.pc = X.c.slots * X.c.T
  · refine cY c2 ?_
    rw [if_pos c2]
    refine ldb S5.b4.b rfl ?_
    refine fa ?_
    refine cl (list_cell (pi := 8) (v := t.rv) ((S5.I.p.ok.core S5.I.i).blk.cell 8) (S5.I.p.ok.rv_ S5.I.i) (by omega)) ?_
    rintro lv w6 ⟨hs6, hu6⟩
    have S6 := S5.upd0 hu6
    obtain ⟨la, lc, hlv, -⟩ := hs6.form
    rw [hlv]
    refine len_sl ?_
    rw [← hlv]
    have hlt6 : ∀ k ∈ X.feet, k < w6.heap.size := fun k hk => Sep.lt S6.I.p.ok k hk
    refine loop_rule [0, 1, 2, 4, 6, 7, 8, 80, 81] [9, 82] (fun vs w' m => ∃ (j : Nat) (out : Value), vs = [out, .int .i64 (j : Int)] ∧ j ≤ t.R.length ∧ m = t.R.length - j ∧ Sl w' 3 1 out ((t.R.take j).filter fun y => !hasI t.O y).length (((t.R.take j).filter fun y => !hasI t.O y).map (.int .i64)) ∧ (∀ k ∈ out.ownBlock.toList, w6.heap.size ≤ k) ∧ Upd [] w6 w') rfl [.slice none 0 0, .int .i64 0] t.R.length rfl ⟨0, _, rfl, by omega, rfl, Sl.nil_ _ _ _, by simp [Value.ownBlock], Upd.refl _ _⟩ ?_
    rintro _ w7 m ⟨j, out, rfl, hj, rfl, hso, hfo, hu7⟩
    have S7 := S6.upd0 hu7
    refine cd (fun hlt => ?_) (fun hlt => ?_)
    · have hlt : j < t.R.length := by omega
      have hs7 := hs6.upd hu7 (by simp)
      obtain ⟨lb, lo, lc2, hlv2, -⟩ := hs7.some_ (by omega)
      rw [hlv2]
      refine ix j rfl hlt ?_
      refine ld (v := .int .i64 (t.R.getD j 0)) (hs7.getD_ hlv2 j hlt) ?_
      refine cl (stays_fn S7.b4.b (S7.I.p.ok.core S7.I.i).blk rfl (S7.I.p.ok.ov_ S7.I.i) (t.R.getD j 0)) ?_
      rintro _ w7 ⟨rfl, rfl⟩
      rw [← hlv2]
      have htk := getD_take t.R j hlt
      cases hh : hasI t.O (t.R.getD j 0) with
      | true =>
        have hsm : (t.R.take (j + 1)).filter (fun y => !hasI t.O y) = (t.R.take j).filter fun y => !hasI t.O y := by
          rw [htk, List.filter_append, List.filter_cons_of_neg (by show ¬ (!hasI t.O (t.R.getD j 0)) = true; rw [hh]; decide), List.filter_nil, List.append_nil]
        refine ar64 (by omega) ?_
        exact round_mk [_, .int .i64 ((j + 1 : Nat) : Int)] (t.R.length - (j + 1)) rfl rfl ⟨j + 1, out, rfl, by omega, rfl, by rw [hsm]; exact hso, hfo, hu7⟩ (by omega)
      | false =>
        have hsm : (t.R.take (j + 1)).filter (fun y => !hasI t.O y) = ((t.R.take j).filter fun y => !hasI t.O y) ++ [t.R.getD j 0] := by
          rw [htk, List.filter_append, List.filter_cons_of_pos (by show (!hasI t.O (t.R.getD j 0)) = true; rw [hh]; decide), List.filter_nil]
        refine bs #[.int .i64 (t.R.getD j 0)] (fun _ => by kernel_rfl) fun w8 hb8 hu8 hs8 => ?_
        have hfl : ((t.R.take j).filter fun y => !hasI t.O y).length ≤ 90000 := by
          have := List.length_filter_le (fun y : Int => !hasI t.O y) (t.R.take j)
          rw [List.length_take] at this
          omega
        refine apg (hso.upd hu8 (by simp)) hb8 rfl rfl (by decide) (by simp only [maxLen]; omega) (by omega) fun out' w9 hs9 hG9 => ?_
        have hz := hu7.size; have hz8 := hu8.size
        refine ar64 (by omega) ?_
        exact round_mk [_, .int .i64 ((j + 1 : Nat) : Int)] (t.R.length - (j + 1)) rfl rfl ⟨j + 1, out', rfl, by omega, rfl, (by rw [hsm, List.length_append, List.map_append]; exact hs9), (fun k hk => by
          rcases hG9.own k (by simpa using hk) with h1 | h1
          · exact hfo k (by simpa using h1)
          · omega), (hu7.trans hu8).step hG9.up (fun k hk => .inr (hfo k hk))⟩ (by omega)
    have hj : j = t.R.length := by omega
    subst hj
    rw [List.take_length] at hso
    generalize hOut : (t.R.filter fun y => !hasI t.O y) = Out at *
    have hz7 := hu7.size
    refine ldb S7.b4.b rfl ?_
    refine fa ?_
    have hblk7 := (S7.I.p.ok.core S7.I.i).blk
    have hB : (obEv [obBlk g4 31 #[ptrV t.g], obBlk t.g TT (thrC (i : Int) t.fv t.r t.pv t.sv t.wv t.rv t.ov), obI t.ov t.O]).ok w7 := fun x hx => by
      simp only [List.mem_cons, List.not_mem_nil, or_false] at hx
      rcases hx with rfl | rfl | rfl
      · exact S7.b4.b
      · exact hblk7
      · exact S7.I.p.ok.ov_ S7.I.i
    refine cl (keep_c (pi := 8) (p := hasI t.O) hblk7 rfl (S7.I.p.ok.rv_ S7.I.i) (by omega) (by decide) (stays_k (tg := t.g) (v := t.ov) rfl t.R) hB) ?_
    rintro _ w8 ⟨rv', rfl, hb8, hs8, hu8, hf8⟩
    have hgt : t.g ∈ X.feet := feet_thr hi _ List.mem_cons_self
    have h7f : ∀ k ∈ X.feet, k < w7.heap.size := fun k hk => Sep.lt S7.I.p.ok k hk
    have hg4w : g4 < w7.heap.size := S7.b4.b.lt
    have hg6w : g6 < w7.heap.size := S7.b6.b.lt
    have hfr8 : (obCore (i : Int) { t with rv := rv', R := t.R.filter (hasI t.O) }).ok w8 := by
      refine ⟨hb8, ?_⟩
      have hc := S7.I.p.ok.core S7.I.i
      have hnb := hc.fr.blk_ne hc.blk (by decide)
      exact hc.fr.upd hu8 (fun g hg => by simp; intro e; subst e; exact hnb hg)
    have S8 := S7.setF (t' := { t with rv := rv', R := t.R.filter (hasI t.O) }) (y := obI rv' (t.R.filter (hasI t.O))) (j := 4) (by decide) rfl hfr8 rfl rfl hu8 hs8 (by decide) rfl (fun k hk => by
      have h1 := hf8 k (by simpa [obSl] using hk)
      have h2 := S7.I.p.to.up.size
      exact ⟨fun hm => by have := h7f k hm; omega, by omega, by omega, by omega⟩)
    have hso8 := hso.upd hu8 (fun g hg => by
      have := hfo g (by simp [hg])
      simp; intro e; subst e
      have := hlt6 _ hgt; omega)
    have m8 := (S7.I.p.ok.setF S7.I.i (t' := { t with rv := rv', R := t.R.filter (hasI t.O) }) (y := obI rv' (t.R.filter (hasI t.O))) (j := 4) (by decide) rfl hfr8 rfl hu8 hs8 (by decide) rfl (fun k hk hm => by
      have h1 := hf8 k (by simpa [obSl] using hk)
      have := h7f k hm; omega)).2.1
    refine ldb S8.b4.b rfl ?_
    obtain ⟨ua, uc, rfl, -⟩ := hso8.form
    have hblk8 := (S8.I.p.ok.core S8.I.i).blk
    refine fa ?_
    refine st hblk8 (by show 9 < 10; omega) rfl fun w9 hb9 hu9 hs9 => ?_
    have hfr9 : (obCore (i : Int) ({ t with rv := rv', R := t.R.filter (hasI t.O), ov := .slice ua Out.length uc, O := Out } : Th)).ok w9 := by
      refine ⟨hb9, ?_⟩
      have hc := S8.I.p.ok.core S8.I.i
      have hnb := hc.fr.blk_ne hc.blk (by decide)
      exact hc.fr.upd hu9 (fun g hg => by simp; intro e; subst e; exact hnb hg)
    have S9 := S8.setF (t' := ({ t with rv := rv', R := t.R.filter (hasI t.O), ov := .slice ua Out.length uc, O := Out } : Th)) (y := obI (.slice ua Out.length uc) Out) (j := 5) (by decide) rfl hfr9 rfl rfl hu9 (hso8.upd hu9 (fun g hg => by
      have := hfo g (by simp [hg])
      simp; intro e; subst e
      have := hlt6 _ hgt; omega)) (by decide) rfl (fun k hk => by
      have h1 := hfo k (by simpa [obSl] using hk)
      have h2 := hso.lt k (by simpa [obSl] using hk)
      have h3 := S6.b4.b.lt
      have h4 := S6.b6.b.lt
      have h5 := S6.I.p.to.up.size
      refine ⟨fun hm => ?_, by omega, by omega, by omega⟩
      rcases m8 k hm with h6 | h6
      · have := hlt6 k h6; omega
      · have := hf8 k (by simpa [obSl] using h6); omega)
    refine fa ?_
    refine ld (v := .int .i64 f.pc) (S9.rd.fr 1 (by omega)) ?_
    refine ar64 (by omega) ?_
    refine fa ?_
    refine S9.st (f' := { f with pc := f.pc + 1 }) 1 (by omega) rfl rfl (frC_pc f (f.pc + 1)) fun w10 S10 => ?_
    have a10 : Mc.abs ({ X with ths := ((X.ths.set i ({ t with rv := rv', R := t.R.filter (hasI t.O) } : Th)).set i ({ t with rv := rv', R := t.R.filter (hasI t.O), ov := .slice ua Out.length uc, O := Out } : Th)).set i ({ t with rv := rv', R := t.R.filter (hasI t.O), ov := .slice ua Out.length uc, O := Out, fs := fs ++ [{ f with pc := f.pc + 1 }] } : Th) } : Mc) = X.abs.put i (absT ({ t with rv := rv', R := t.R.filter (hasI t.O), ov := .slice ua Out.length uc, O := Out, fs := fs ++ [{ f with pc := f.pc + 1 }] } : Th)) := by
      have := abs_set ({ X with ths := (X.ths.set i ({ t with rv := rv', R := t.R.filter (hasI t.O) } : Th)).set i ({ t with rv := rv', R := t.R.filter (hasI t.O), ov := .slice ua Out.length uc, O := Out } : Th) } : Mc) i ({ t with rv := rv', R := t.R.filter (hasI t.O), ov := .slice ua Out.length uc, O := Out, fs := fs ++ [{ f with pc := f.pc + 1 }] } : Th)
      refine this.trans ?_
      have := abs_set ({ X with ths := X.ths.set i ({ t with rv := rv', R := t.R.filter (hasI t.O) } : Th) } : Mc) i ({ t with rv := rv', R := t.R.filter (hasI t.O), ov := .slice ua Out.length uc, O := Out } : Th)
      rw [show Mc.abs ({ X with ths := (X.ths.set i ({ t with rv := rv', R := t.R.filter (hasI t.O) } : Th)).set i ({ t with rv := rv', R := t.R.filter (hasI t.O), ov := .slice ua Out.length uc, O := Out } : Th) } : Mc) = (Mc.abs ({ X with ths := X.ths.set i ({ t with rv := rv', R := t.R.filter (hasI t.O) } : Th) } : Mc)).put i (absT ({ t with rv := rv', R := t.R.filter (hasI t.O), ov := .slice ua Out.length uc, O := Out } : Th)) from this, show Mc.abs ({ X with ths := X.ths.set i ({ t with rv := rv', R := t.R.filter (hasI t.O) } : Th) } : Mc) = X.abs.put i (absT ({ t with rv := rv', R := t.R.filter (hasI t.O) } : Th)) from abs_set X i ({ t with rv := rv', R := t.R.filter (hasI t.O) } : Th), put_put, put_put]
    have hOl10 : Out.length ≤ 90000 := by
      rw [← hOut]
      have := List.length_filter_le (fun y : Int => !hasI t.O y) t.R
      omega
    have hsE : ∀ (Q : List Int), scEnd X.abs i { absT t with R := (absT t).R.filter (hasI (absT t).O) } fs { f with pc := f.pc + 1 } Q = scEnd X.abs i (absT ({ t with rv := rv', R := t.R.filter (hasI t.O), ov := .slice ua Out.length uc, O := Out, fs := fs ++ [{ f with pc := f.pc + 1 }] } : Th)) fs { f with pc := f.pc + 1 } Q := fun Q => by
      cases Q <;> rfl
    have hOutE : ((absT t).R.filter fun y => !hasI (absT t).O y) = Out := hOut
    rw [hOutE, hsE]
    have hblkF := ((S10).I.p.ok.core (S10).I.i).blk
    have hslF := (S10).I.p.ok.ov_ (S10).I.i
    refine ldb (S10).b4.b rfl ?_
    refine fa ?_
    refine ld (v := (({ t with rv := rv', R := t.R.filter (hasI t.O), ov := .slice ua Out.length uc, O := Out, fs := fs ++ [{ f with pc := f.pc + 1 }] } : Th)).ov) ((S10).rd.ov) ?_
    obtain ⟨oa, oc, hov, -⟩ := hslF.form
    rw [hov]
    refine len_sl ?_
    cases hO : (({ t with rv := rv', R := t.R.filter (hasI t.O), ov := .slice ua Out.length uc, O := Out, fs := fs ++ [{ f with pc := f.pc + 1 }] } : Th)).O with
    | nil =>
      refine ldb (S10).b4.b rfl ?_
      refine cl ((S10).I.pop (l := []) (by omega) (fun w' _ => RdK.nil_ w' .u64)) ?_
      rintro _ wz e
      exact (show Ev w X wz (scEnd X.abs i (absT ({ t with rv := rv', R := t.R.filter (hasI t.O), ov := .slice ua Out.length uc, O := Out, fs := fs ++ [{ f with pc := f.pc + 1 }] } : Th)) fs { f with pc := f.pc + 1 } (absT ({ t with rv := rv', R := t.R.filter (hasI t.O), ov := .slice ua Out.length uc, O := Out, fs := fs ++ [{ f with pc := f.pc + 1 }] } : Th)).O) by rw [scEnd_nil (t := absT ({ t with rv := rv', R := t.R.filter (hasI t.O), ov := .slice ua Out.length uc, O := Out, fs := fs ++ [{ f with pc := f.pc + 1 }] } : Th)) hO]; rw [a10, put_put] at e; exact e)
    | cons n O' =>
      rw [hO] at hslF hov
      rw [← hov]
      refine ldb (S10).b4.b rfl ?_
      refine fa ?_
      refine ld (v := (({ t with rv := rv', R := t.R.filter (hasI t.O), ov := .slice ua Out.length uc, O := Out, fs := fs ++ [{ f with pc := f.pc + 1 }] } : Th)).ov) ((S10).rd.ov) ?_
      obtain ⟨ob, oo, oc2, hov2, hoc2⟩ := hslF.some_ (by simp)
      rw [hov2]
      refine ix 0 rfl (by simp) ?_
      refine ld (v := .int .i64 n) (hslF.getD_ hov2 0 (by simp)) ?_
      rw [← hov2]
      have SD := (S10).upd0 (Upd.refl [] _).drew
      obtain ⟨hsl1, hown1⟩ := tail_sl (by rw [← hov2]; exact hslF.drew) hoc2
      refine draw_tail 6 (by decide +kernel) ?_
      refine q_ld (v := ptrV t.g) (by rintro _ rfl; exact SD.b4.b.cell 0) ?_
      refine q_ld (v := ptrV t.g) (by rintro _ rfl; exact SD.b4.b.cell 0) ?_
      refine q_fa ?_
      refine q_ld (v := (({ t with rv := rv', R := t.R.filter (hasI t.O), ov := .slice ua Out.length uc, O := Out, fs := fs ++ [{ f with pc := f.pc + 1 }] } : Th)).ov) (by rintro _ rfl; exact SD.rd.ov) ?_
      rw [hov2]
      refine rq (.slice (if oc2 = 1 then some ⟨ob, oo, none⟩ else (some ⟨ob, oo, none⟩ : Option Addr).map (·.add (1 * 1))) ((n :: O').length - 1) (oc2 - 1)) (fun _ _ => sl_lo 1 rfl (by simp) ⟨rfl, rfl⟩) ?_
      refine fa ?_
      refine st (SD.I.p.ok.core SD.I.i).blk (by show 9 < 10; omega) rfl fun wy hby huy hsy => ?_
      have SE := SD.ov (O' := O') hsl1 ⟨(Upd.refl [] _).mono (by simp), fun k hk => .inl (by
        rw [hown1] at hk
        rw [hov2]; exact hk)⟩ hby huy
      refine ldb SE.b4.b rfl ?_
      refine cv ?_
      refine val (IntKind.u64.wrap n) rfl ?_
      refine bs #[.int .u64 (IntKind.u64.wrap n)] (fun _ => by kernel_rfl) fun wx hbx hux hsx => ?_
      have SF := SE.upd0 hux
      have hps := push_mm SF.I.p.ok SF.I.i (by rw [SF.I.f]; simp; omega) (one_rd hbx) (by simp) 2
      refine cl hps ?_
      rintro _ wv ⟨fvv, pv⟩
      have kv := kin_set _ (t' := { (({ t with rv := rv', R := t.R.filter (hasI t.O), ov := .slice ua Out.length uc, O := Out, fs := fs ++ [{ f with pc := f.pc + 1 }] } : Th)) with ov := (.slice (if oc2 = 1 then some ⟨ob, oo, none⟩ else (some ⟨ob, oo, none⟩ : Option Addr).map (·.add (1 * 1))) ((n :: O').length - 1) (oc2 - 1)), O := O', fv := fvv, fs := (({ t with rv := rv', R := t.R.filter (hasI t.O), ov := .slice ua Out.length uc, O := Out, fs := fs ++ [{ f with pc := f.pc + 1 }] } : Th)).fs ++ [⟨2, 0, [IntKind.u64.wrap n]⟩] }) SF.I.i rfl
      refine ⟨_, SF.I.p.trans pv, SF.I.k.trans kv, ?_⟩
      rw [abs_set, abs_set, abs_set, abs_set, abs_set, put_put, put_put, put_put, put_put]; exact (scEnd_cons (t := absT ({ t with rv := rv', R := t.R.filter (hasI t.O), ov := .slice ua Out.length uc, O := Out, fs := fs ++ [{ f with pc := f.pc + 1 }] } : Th)) hO rfl).symm
  refine cN c2 ?_
  rw [if_neg c2]
  have hblkF := ((S5).I.p.ok.core (S5).I.i).blk
  have hslF := (S5).I.p.ok.ov_ (S5).I.i
  refine ldb (S5).b4.b rfl ?_
  refine fa ?_
  refine ld (v := (t).ov) ((S5).rd.ov) ?_
  obtain ⟨oa, oc, hov, -⟩ := hslF.form
  rw [hov]
  refine len_sl ?_
  cases hO : (t).O with
  | nil =>
    refine ldb (S5).b4.b rfl ?_
    refine cl ((S5).I.pop (l := []) (by omega) (fun w' _ => RdK.nil_ w' .u64)) ?_
    rintro _ wz e
    exact (show Ev w X wz (scEnd X.abs i (absT t) fs f (absT t).O) by rw [scEnd_nil (t := absT t) hO]; exact e)
  | cons n O' =>
    rw [hO] at hslF hov
    rw [← hov]
    refine ldb (S5).b4.b rfl ?_
    refine fa ?_
    refine ld (v := (t).ov) ((S5).rd.ov) ?_
    obtain ⟨ob, oo, oc2, hov2, hoc2⟩ := hslF.some_ (by simp)
    rw [hov2]
    refine ix 0 rfl (by simp) ?_
    refine ld (v := .int .i64 n) (hslF.getD_ hov2 0 (by simp)) ?_
    rw [← hov2]
    have SD := (S5).upd0 (Upd.refl [] _).drew
    obtain ⟨hsl1, hown1⟩ := tail_sl (by rw [← hov2]; exact hslF.drew) hoc2
    refine draw_tail 6 (by decide +kernel) ?_
    refine q_ld (v := ptrV t.g) (by rintro _ rfl; exact SD.b4.b.cell 0) ?_
    refine q_ld (v := ptrV t.g) (by rintro _ rfl; exact SD.b4.b.cell 0) ?_
    refine q_fa ?_
    refine q_ld (v := (t).ov) (by rintro _ rfl; exact SD.rd.ov) ?_
    rw [hov2]
    refine rq (.slice (if oc2 = 1 then some ⟨ob, oo, none⟩ else (some ⟨ob, oo, none⟩ : Option Addr).map (·.add (1 * 1))) ((n :: O').length - 1) (oc2 - 1)) (fun _ _ => sl_lo 1 rfl (by simp) ⟨rfl, rfl⟩) ?_
    refine fa ?_
    refine st (SD.I.p.ok.core SD.I.i).blk (by show 9 < 10; omega) rfl fun wy hby huy hsy => ?_
    have SE := SD.ov (O' := O') hsl1 ⟨(Upd.refl [] _).mono (by simp), fun k hk => .inl (by
      rw [hown1] at hk
      rw [hov2]; exact hk)⟩ hby huy
    refine ldb SE.b4.b rfl ?_
    refine cv ?_
    refine val (IntKind.u64.wrap n) rfl ?_
    refine bs #[.int .u64 (IntKind.u64.wrap n)] (fun _ => by kernel_rfl) fun wx hbx hux hsx => ?_
    have SF := SE.upd0 hux
    have hps := push_mm SF.I.p.ok SF.I.i (by rw [SF.I.f]; simp; omega) (one_rd hbx) (by simp) 2
    refine cl hps ?_
    rintro _ wv ⟨fvv, pv⟩
    have kv := kin_set _ (t' := { (t) with ov := (.slice (if oc2 = 1 then some ⟨ob, oo, none⟩ else (some ⟨ob, oo, none⟩ : Option Addr).map (·.add (1 * 1))) ((n :: O').length - 1) (oc2 - 1)), O := O', fv := fvv, fs := (t).fs ++ [⟨2, 0, [IntKind.u64.wrap n]⟩] }) SF.I.i rfl
    refine ⟨_, SF.I.p.trans pv, SF.I.k.trans kv, ?_⟩
    rw [abs_set, abs_set, put_put]; exact (scEnd_cons (t := absT t) hO hfs).symm
end
end Go.Proofs.Ytklbeipdigancaa

/- Contracts: hazard.Do; a step with it; a routine done alone. -/
namespace Go.Proofs.Ytklbeipdigancaa
open Go.RowKit
attribute [local irreducible] Instr.loadAt Instr.storeAt Instr.fieldAt Instr.indexAt Instr.sliceAt Instr.buildSlice Instr.box Instr.alloc Builtin.append_ Builtin.len_ Builtin.min_ Builtin.max_ Calls Instr.build Instr.makeSlice binSem convert Instr.index Instr.range Instr.next
def hzDo (p : PS) (i : Nat) (t : PT) (fs : List Fr) (f : Fr) : PS :=
  if f.fn = 3 then hzProtect p i t fs f else if f.fn = 4 then hzWipe p i t fs f else if f.fn = 5 then hzRetire p i t fs f else if f.fn = 6 then hzScan p i t fs f else arDo p i t fs f
section
variable {w w' : World} {X : Mc} {b : Int} {i : Nat} {t : Th} {fs : List Fr} {f : Fr} {fb fo fc : Nat}
set_option maxRecDepth 10000 in
theorem hzdo_p (h : Mach w X) (hg : Good X b) (hb : b ≤ 900000) (hi : X.ths[i]? = some t) (hfs : t.fs = fs ++ [f]) (hl : fs.length ≤ 90000) (hR : ∀ j, u64R (f.R.getD j 0)) (hpc : 0 ≤ f.pc ∧ f.pc ≤ 100000) (hRl : t.R.length ≤ 90000) (hOl : t.O.length ≤ 90000) :
    Fn Try.prog 15 #[ptrV X.m, ptrV t.g] w fun _ w' => Ev w X w' (hzDo X.abs i (absT t) fs f) := by
  obtain ⟨fb, fo, fc, hfv⟩ := h.fr_ hi (by rw [hfs]; simp)
  refine fn_enter Try.func15 rfl rfl ?_
  refine cl (top_mm h hi hfs (by omega) hfv) ?_
  rintro _ _ ⟨rfl, rfl⟩
  have p1 : Post w X w.drew X := .of0 h (Upd.refl [] w).drew
  have I1 : TopI w w.drew X X i t fs f fb fo fc := ⟨p1, .refl X, hi, hfs, hfv⟩
  refine ptr_eq ?_
  refine ptr_eq ?_
  unfold hzDo
  refine fa ?_
  refine ld (v := .int .i64 f.fn) (I1.at_ 0 (by omega)) ?_
  by_cases c3 : f.fn = 3
  · rw [if_pos c3]
    refine cY c3 ?_
    refine cl (protect_p p1.ok hg hb hi hfs hl hfv hR) ?_
    rintro _ w2 e
    exact Ev.before p1 (.refl X) e
  rw [if_neg c3]
  refine cN c3 ?_
  refine fa ?_
  refine ld (v := .int .i64 f.fn) (I1.at_ 0 (by omega)) ?_
  by_cases c4 : f.fn = 4
  · rw [if_pos c4]
    refine cY c4 ?_
    refine cl (wipe_p p1.ok hg hb hpc.1 hi hfs hl hfv) ?_
    rintro _ w2 e
    exact Ev.before p1 (.refl X) e
  rw [if_neg c4]
  refine cN c4 ?_
  refine fa ?_
  refine ld (v := .int .i64 f.fn) (I1.at_ 0 (by omega)) ?_
  by_cases c5 : f.fn = 5
  · rw [if_pos c5]
    refine cY c5 ?_
    refine cl (retire_p p1.ok hg hi hfs hl hRl hfv hR) ?_
    rintro _ w2 e
    exact Ev.before p1 (.refl X) e
  rw [if_neg c5]
  refine cN c5 ?_
  refine fa ?_
  refine ld (v := .int .i64 f.fn) (I1.at_ 0 (by omega)) ?_
  by_cases c6 : f.fn = 6
  · rw [if_pos c6]
    refine cY c6 ?_
    refine cl (scan_p p1.ok hg hb hpc hi hfs hl hRl hOl hfv) ?_
    rintro _ w2 e
    exact Ev.before p1 (.refl X) e
  rw [if_neg c6]
  refine cN c6 ?_
  refine cl (do_p p1.ok hg hb hi hfs hl hR) ?_
  rintro _ w2 e
  exact Ev.before p1 (.refl X) e
/-- the rounds of one step of thread i -/
def Rnd (i : Nat) : Nat → PS → PS → Prop
  | 0, p, q => p = q ∧ (q.acted = true ∨ topL q i = 0) ∧ topL q i ≤ 90000
  | n + 1, p, q => p.acted = false ∧ ∃ t fs f, p.ths[i]? = some t ∧ t.fs = fs ++ [f] ∧ fs.length ≤ 90000 ∧ (∀ j, u64R (f.R.getD j 0)) ∧ (0 ≤ f.pc ∧ f.pc ≤ 100000) ∧ t.R.length ≤ 90000 ∧ t.O.length ≤ 90000 ∧ p.Ok 900000 ∧ Rnd i n (hzDo p i t fs f) q
theorem topL_at {p : PS} {i : Nat} {t : PT} (h : p.ths[i]? = some t) : topL p i = t.fs.length := by unfold topL; rw [h]
set_option maxRecDepth 10000 in
theorem step_hz (h : Mach w X) (hc : X.s.on = false ∧ X.s.L = []) (hX : X.ths.length ≤ 100) (hi : X.ths[i]? = some t) {n : Nat} {q : PS} (hr : Rnd i n (calm0 X.abs) q) :
    Fn Try.prog 14 #[ptrV X.m, .int .i64 (i : Int), .func (.func 15) #[] #[]] w fun r w' => r = .bool (decide (0 < topL q i)) ∧ Ev w X w' q := by
  refine (step_mm (f := 15) (ys := #[]) (fun Y w' n => Post w X w' Y ∧ Kin X Y ∧ Rnd i n Y.abs q) n h hi rfl hX (fun w' p => ⟨p, ⟨rfl, rfl, rfl, rfl, id⟩, hr⟩) ?_ ?_).mono ?_
  · rintro Y w' n ⟨p, k, r⟩
    obtain ⟨t2, h2, hg2⟩ := k.g hi
    refine ⟨p.ok, k.m, t2, h2, hg2, ?_⟩
    have h3 := abs_th Y h2
    cases n with
    | zero =>
      obtain ⟨rfl, -, hl⟩ := r
      rw [topL_at h3] at hl
      have : (absT t2).fs = t2.fs := rfl
      rw [this] at hl; omega
    | succ n =>
      obtain ⟨-, t3, fs, f, e1, e2, e3, -⟩ := r
      rw [h3] at e1
      have e1 := Option.some.inj e1
      have : t2.fs = fs ++ [f] := by rw [← e2, ← e1]; rfl
      rw [this]; simp; omega
  · rintro Y w' n t2 ⟨p, k, r⟩ h2 hac hne
    have h3 := abs_th Y h2
    cases n with
    | zero =>
      exfalso
      obtain ⟨rfl, hor, hl⟩ := r
      rcases hor with h4 | h4
      · rw [show Y.abs.acted = Y.acted from rfl, hac] at h4; cases h4
      · rw [topL_at h3] at h4
        exact hne (List.length_eq_zero_iff.1 h4)
    | succ n =>
      obtain ⟨-, t3, fs, f, e1, e2, e3, e4, e5, e6, e7, e8, r⟩ := r
      rw [h3] at e1
      obtain rfl := Option.some.inj e1
      have hg : Good Y 900000 := ⟨e8, k.calm hc⟩
      obtain ⟨t2', h2', hg2⟩ := k.g hi
      rw [h2] at h2'
      obtain rfl := Option.some.inj h2'
      have := hzdo_p p.ok hg (by omega) h2 e2 e3 e4 e5 e6 e7
      rw [show (#[] ++ [ptrV X.m, ptrV t.g].toArray ++ #[] : Array Value) = #[ptrV Y.m, ptrV t2.g] by rw [k.m, hg2]; simp]
      refine this.mono ?_
      rintro e w2 ⟨u, he, X2, p2, k2, a2⟩
      exact ⟨u, he, X2, n, ⟨p.trans p2, k.trans k2, by rw [a2]; exact r⟩, by omega⟩
  · rintro e w' ⟨r, he, Y, n, t2, ⟨p, k, rr⟩, h2, hor, rfl⟩
    have h3 := abs_th Y h2
    have hz : Y.abs = q := by
      cases n with
      | zero => exact rr.1
      | succ n =>
        exfalso
        obtain ⟨hac, t3, fs, f, e1, e2, -⟩ := rr
        rcases hor with h4 | h4
        · rw [show Y.abs.acted = Y.acted from rfl, h4] at hac; cases hac
        · rw [h3] at e1
          have e1 := Option.some.inj e1
          have : t2.fs = fs ++ [f] := by rw [← e2, ← e1]; rfl
          rw [h4] at this; simp at this
    refine ⟨_, he, ?_, Y, p, k, hz⟩
    rw [hz] at h3
    rw [topL_at h3]
    exact congrArg Value.bool (by
      show decide ((t2.fs.length : Int) > 0) = decide (0 < t2.fs.length)
      exact decide_eq_decide.2 (by omega))
/-- a routine of thread i, done alone -/
def RunH (i : Nat) : Nat → PS → PS → Prop
  | 0, _, _ => False
  | n + 1, p, q => ∃ m p', Rnd i m (calm0 p) p' ∧ ((topL p' i = 0 ∧ p' = q) ∨ (0 < topL p' i ∧ RunH i n p' q))
def pushH (p : PS) (i : Nat) (fn : Int) (l : List Int) : PS := match p.ths[i]? with | some t => p.put i { t with fs := t.fs ++ [⟨fn, 0, l⟩] } | none => p
set_option maxRecDepth 10000 in
theorem alone18_c {q : PS} (h : Mach w X) (hc : X.s.on = false ∧ X.s.L = []) (hT : X.ths.length ≤ 100) (ht : X.ths[i]? = some t) (hfs : t.fs = []) (n : Nat) (hn : n ≤ 2900) (fn : Int) {v : Value} {l : List Int} (hv : RdK w .u64 v l) (hl : l.length ≤ 100000) (hr : RunH i n (pushH X.abs i fn l) q) :
    Fn Try.prog 23 #[ptrV X.m, .int .i64 (i : Int), .int .i64 fn, v] w fun r w' => r = .bool true ∧ Ev w X w' q := by
  obtain ⟨va, vc, rfl, -⟩ := hv.form
  refine fn_enter Try.func23 rfl rfl ?_
  refine cl (thread_mm (i := i) h ht hT) ?_
  rintro _ w ⟨rfl, rfl⟩
  refine cl (push_mm h ht (by rw [hfs]; simp) hv hl fn) ?_
  rintro _ w2 ⟨fv, p2⟩
  have k2 := kin_set X (t' := { t with fv := fv, fs := t.fs ++ [⟨fn, 0, l⟩] }) ht rfl
  have a2 : ({ X with ths := X.ths.set i { t with fv := fv, fs := t.fs ++ [⟨fn, 0, l⟩] } } : Mc).abs = pushH X.abs i fn l := by
    rw [abs_set]; unfold pushH; rw [abs_th X ht]; rfl
  generalize hY : ({ X with ths := X.ths.set i { t with fv := fv, fs := t.fs ++ [⟨fn, 0, l⟩] } } : Mc) = Y at *
  refine loop_rule [0, 1] [9] (fun vs w' m => ∃ (j : Int) (n : Nat) (p : PS), vs = [.int .i64 j] ∧ Ev w X w' p ∧ RunH i n p q ∧ (0 ≤ j ∧ (n : Int) + j ≤ 2900) ∧ m = n) rfl [.int .i64 0] n rfl ⟨0, n, _, rfl, ⟨Y, p2, k2, a2⟩, hr, by omega, rfl⟩ ?_
  rintro _ w3 m ⟨j, m, p, rfl, ⟨Z, p3, k3, a3⟩, hrun, hmj, rfl⟩
  cases m with
  | zero => exact hrun.elim
  | succ m =>
    obtain ⟨mm, p', hrd, hor⟩ := hrun
    obtain ⟨tz, hz, hzg⟩ := k3.g ht
    rw [← a3] at hrd
    have hst := step_hz p3.ok (k3.calm hc) (by rw [k3.len]; exact hT) hz hrd
    rw [show Z.m = X.m from k3.m] at hst
    refine cY (show j < 3000 by omega) ?_
    refine cl hst ?_
    rintro _ w4 ⟨rfl, e4⟩
    have e4' : Ev w X w4 p' := Ev.before p3 k3 e4
    rcases hor with ⟨h0, rfl⟩ | ⟨h1, hrun⟩
    · rw [h0]
      exact ⟨rfl, e4'⟩
    · rw [show decide (0 < topL p' i) = true from decide_eq_true h1]
      refine ar64 (by omega) ?_
      exact round_mk [.int .i64 (j + 1)] m rfl rfl ⟨j + 1, m, _, rfl, e4', hrun, by omega, rfl⟩ (by omega)
end
end Go.Proofs.Ytklbeipdigancaa

