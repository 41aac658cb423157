/- Joined: Ka Kb Kc Kd Ke. -/
import Derived.Test.YtdomclcokkijjaaJ4
/- ArenaCrowd: versions of words. -/
namespace Go.Proofs.Ytdomclcokkijjaa
open Go.RowKit
attribute [local irreducible] Instr.loadAt Instr.storeAt Instr.fieldAt Instr.indexAt Instr.sliceAt Instr.buildSlice Instr.box Instr.alloc Builtin.append_ Builtin.len_ Builtin.min_ Builtin.max_ Calls Instr.build Instr.makeSlice binSem convert Instr.index Instr.range Instr.next
def verW (x : Int) : Int := x / 131072
theorem ver_next {x n : Int} (hx : 0 ≤ verW x ∧ verW x < 1000000) : verW (nextW x n) = verW x + 1 := by
  unfold verW nextW at *
  have h := Int.emod_nonneg (n % 18446744073709551616) (show (65536 : Int) ≠ 0 by decide)
  have h2 := Int.emod_lt_of_pos (n % 18446744073709551616) (show (0 : Int) < 65536 by decide)
  have e : (x / 131072 + 1) % 140737488355328 = x / 131072 + 1 := Int.emod_eq_of_lt (by omega) (by omega)
  rw [e]
  omega
/-- a snapshot of the list's word: it is the word, or an older one -/
def Snap (W0 r : Int) : Prop := 0 ≤ verW r ∧ verW r ≤ verW W0 ∧ (verW r = verW W0 → r = W0)
theorem Snap.self {W0 : Int} (h : 0 ≤ verW W0) : Snap W0 W0 := ⟨h, Int.le_refl _, fun _ => rfl⟩
theorem Snap.next {W0 r n : Int} (h : Snap W0 r) (hv : 0 ≤ verW W0 ∧ verW W0 < 1000000) : Snap (nextW W0 n) r ∧ r ≠ nextW W0 n := by
  obtain ⟨h0, h1, h2⟩ := h
  have e := ver_next (n := n) hv
  refine ⟨⟨h0, by omega, fun h => by omega⟩, fun h => ?_⟩
  rw [← h] at e; omega
end Go.Proofs.Ytdomclcokkijjaa

/- ArenaCrowd: many threads at the free list: what each step keeps. -/
namespace Go.Proofs.Ytdomclcokkijjaa
open Go.RowKit
attribute [local irreducible] Instr.loadAt Instr.storeAt Instr.fieldAt Instr.indexAt Instr.sliceAt Instr.buildSlice Instr.box Instr.alloc Builtin.append_ Builtin.len_ Builtin.min_ Builtin.max_ Calls Instr.build Instr.makeSlice binSem convert Instr.index Instr.range Instr.next
theorem tchd_eq {p : PS} {x : Int} (hw : (p.c.where_ x).1 ≠ 3) : p.tchd [x] = p.gh := by
  unfold PS.tchd
  simp only [List.foldl_cons, List.foldl_nil]
  cases p.gh with
  | none => rfl
  | some g => simp only [Option.map_some]; rw [if_neg hw]
theorem ld_eq {p : PS} {x : Int} (hx : p.okP x) (hw : (p.c.where_ x).1 ≠ 3) : p.load x = { p with acted := true, k := p.k + 1 } := by
  unfold PS.load
  rw [tchd_eq hw, if_pos hx, decide_eq_true hx]; simp
theorem st_eq {p : PS} {x y : Int} (hx : p.okP x) (hw : (p.c.where_ x).1 ≠ 3) : p.store x y = { p with acted := true, W := p.W.set x.toNat y, k := p.k + 1 } := by
  unfold PS.store
  rw [tchd_eq hw, if_pos hx, if_pos hx, decide_eq_true hx]; simp
theorem cas_t {p : PS} {x o n : Int} (hx : p.okP x) (hw : (p.c.where_ x).1 ≠ 3) (ho : p.rd x = o) : p.cas x o n = { p with acted := true, W := p.W.set x.toNat n, k := p.k + 1 } := by
  unfold PS.cas
  rw [tchd_eq hw, if_pos hx, if_pos ⟨hx, ho⟩, decide_eq_true hx]; simp
theorem cas_f {p : PS} {x o n : Int} (hx : p.okP x) (hw : (p.c.where_ x).1 ≠ 3) (ho : p.rd x ≠ o) : p.cas x o n = { p with acted := true, k := p.k + 1 } := by
  unfold PS.cas
  rw [tchd_eq hw, if_pos hx, if_neg (fun h => ho h.2), decide_eq_true hx]; simp
theorem deed_eq {p : PS} {tg : List Int} {i frm to kind : Int} (hg : p.gh = some (tg, 0, 0)) (hi : 1 ≤ i ∧ i ≤ tg.length) (hf : tg.getD (i - 1).toNat 0 = frm) : p.deed i frm to kind = { p with gh := some (tg.set (i - 1).toNat to, 0, 0) } := by
  unfold PS.deed
  rw [hg]
  show ({ p with gh := some (gt tg 0 0 i frm to kind).2 } : PS) = _
  unfold gt
  rw [if_neg (by omega), if_pos hf]
def relOf (t : PT) : List Int := match t.fs with
  | [] => []
  | f :: _ => if f.fn = 2 then [f.R.getD 0 0] else []
def rels (l : List PT) : List Int := (l.map relOf).flatten
theorem cnt_set (x : Int) : ∀ (L : List (List Int)) (i : Nat) (u v : List Int), L[i]? = some u → (L.set i v).flatten.count x + u.count x = L.flatten.count x + v.count x
  | [], _, _, _, h => by simp at h
  | a :: L, 0, u, v, h => by
    have : a = u := by simpa using h
    subst this
    simp only [List.set_cons_zero, List.flatten_cons, List.count_append]; omega
  | a :: L, i + 1, u, v, h => by
    have := cnt_set x L i u v (by simpa using h)
    simp only [List.set_cons_succ, List.flatten_cons, List.count_append]; omega
theorem rels_set (x : Int) {l : List PT} {i : Nat} {t t' : PT} (h : l[i]? = some t) : (rels (l.set i t')).count x + (relOf t).count x = (rels l).count x + (relOf t').count x := by
  unfold rels
  rw [List.map_set]
  exact cnt_set x (l.map relOf) i (relOf t) (relOf t') (by simp [h])
theorem rels_mem {l : List PT} {i : Nat} {t : PT} (h : l[i]? = some t) {x : Int} (hx : x ∈ relOf t) : x ∈ rels l := by
  unfold rels
  exact List.mem_flatten.2 ⟨_, List.mem_map.2 ⟨t, List.mem_of_getElem? h, rfl⟩, hx⟩
/-- what two threads put back counts twice -/
theorem rels_two {l : List PT} {i j : Nat} {t u : PT} (hi : l[i]? = some t) (hj : l[j]? = some u) (hij : i ≠ j) {x : Int} (h1 : x ∈ relOf t) (h2 : x ∈ relOf u) : 2 ≤ (rels l).count x := by
  have h := rels_set x (t' := ⟨[], (0, 0, 0), [], [], [], [], []⟩) hi
  have h3 : (l.set i ⟨[], (0, 0, 0), [], [], [], [], []⟩)[j]? = some u := by rw [List.getElem?_set, if_neg hij]; exact hj
  have h4 := List.count_pos_iff.2 (rels_mem h3 h2)
  have h5 := List.count_pos_iff.2 h1
  have h6 : (relOf ⟨[], (0, 0, 0), [], [], [], [], []⟩).count x = 0 := rfl
  omega
/-- a frame of a thread that is at the list -/
def FrOk (c : Cf) (W : List Int) (f : Fr) : Prop :=
  (∀ j, u64R (f.R.getD j 0)) ∧
  ((f.fn = 1 ∧ (f.pc = 0 ∨ (Snap (W.getD 0 0) (f.R.getD 0 0) ∧ (1 ≤ ptrW (f.R.getD 0 0) ∧ ptrW (f.R.getD 0 0) ≤ c.N) ∧ (f.pc = 1 ∨ (f.pc = 2 ∧ (f.R.getD 0 0 = W.getD 0 0 → f.R.getD 1 0 = W.getD (c.link (ptrW (f.R.getD 0 0))).toNat 0))))))
  ∨ (f.fn = 2 ∧ (1 ≤ f.R.getD 0 0 ∧ f.R.getD 0 0 ≤ c.N) ∧ (f.pc = 0 ∨ (Snap (W.getD 0 0) (f.R.getD 1 0) ∧ (f.pc = 1 ∨ (f.pc = 2 ∧ W.getD (c.link (f.R.getD 0 0)).toNat 0 = ptrW (f.R.getD 1 0)))))))
theorem FrOk.next {c : Cf} {W : List Int} {f : Fr} (h : FrOk c W f) (hr : rightC c) (hl : 0 < W.length) (n : Int) (hv : 0 ≤ verW (W.getD 0 0) ∧ verW (W.getD 0 0) < 1000000) : FrOk c (W.set 0 (nextW (W.getD 0 0) n)) f := by
  have e0 : (W.set 0 (nextW (W.getD 0 0) n)).getD 0 0 = nextW (W.getD 0 0) n := setD_self hl
  refine ⟨h.1, ?_⟩
  rw [e0]
  rcases h.2 with ⟨h1, h2⟩ | ⟨h1, h2, h3⟩
  · left
    refine ⟨h1, ?_⟩
    rcases h2 with h2 | ⟨h2, h3, h4⟩
    · exact .inl h2
    · obtain ⟨s1, s2⟩ := h2.next (n := n) hv
      refine .inr ⟨s1, h3, ?_⟩
      rcases h4 with h4 | ⟨h4, -⟩
      · exact .inl h4
      · exact .inr ⟨h4, fun e => absurd e s2⟩
  · right
    refine ⟨h1, h2, ?_⟩
    rcases h3 with h3 | ⟨h3, h4⟩
    · exact .inl h3
    · obtain ⟨s1, s2⟩ := h3.next (n := n) hv
      refine .inr ⟨s1, ?_⟩
      rcases h4 with h4 | ⟨h4, h5⟩
      · exact .inl h4
      · refine .inr ⟨h4, ?_⟩
        have := (where_link hr h2).2
        rw [getD_set (by omega)]; exact h5
theorem FrOk.store {c : Cf} {W : List Int} {f : Fr} (h : FrOk c W f) (hr : rightC c) {x : Int} (hx : 1 ≤ x ∧ x ≤ c.N) (v : Int) (hA : ptrW (W.getD 0 0) ≠ x) (hB : f.fn = 2 → f.R.getD 0 0 ≠ x) : FrOk c (W.set (c.link x).toNat v) f := by
  have hlx := (where_link hr hx).2
  have e0 : (W.set (c.link x).toNat v).getD 0 0 = W.getD 0 0 := getD_set (by omega)
  have hne : ∀ y, 1 ≤ y ∧ y ≤ c.N → y ≠ x → (c.link x).toNat ≠ (c.link y).toNat := fun y hy hyx e => by
    have h1 := (where_link hr hy).2
    exact hyx (link_inj hy hx (by omega))
  refine ⟨h.1, ?_⟩
  rw [e0]
  rcases h.2 with ⟨h1, h2⟩ | ⟨h1, h2, h3⟩
  · left
    refine ⟨h1, ?_⟩
    rcases h2 with h2 | ⟨h2, h3, h4⟩
    · exact .inl h2
    · refine .inr ⟨h2, h3, ?_⟩
      rcases h4 with h4 | ⟨h4, h5⟩
      · exact .inl h4
      · refine .inr ⟨h4, fun e => ?_⟩
        rw [getD_set (hne _ h3 (by rw [e]; exact hA))]
        exact h5 e
  · right
    refine ⟨h1, h2, ?_⟩
    rcases h3 with h3 | ⟨h3, h4⟩
    · exact .inl h3
    · refine .inr ⟨h3, ?_⟩
      rcases h4 with h4 | ⟨h4, h5⟩
      · exact .inl h4
      · refine .inr ⟨h4, ?_⟩
        rw [getD_set (hne _ h2 (hB h1))]; exact h5
structure Cr (p : PS) (hs : List (List Int)) (l tg : List Int) (b : Int) : Prop where
  ok : p.Ok b
  hl : hs.length = p.ths.length
  lk : Lk p.c p.W (ptrW (p.W.getD 0 0)) l
  gh : p.gh = some (tg, 0, 0)
  tl : (tg.length : Int) = p.c.N
  bad : p.bad = false
  cnt : ∀ x, l.count x + hs.flatten.count x + (rels p.ths).count x = if sentP p.c.A < x ∧ x ≤ p.c.N then 1 else 0
  t0 : ∀ x ∈ l, tg.getD (x - 1).toNat 0 = 0
  t1 : ∀ x ∈ hs.flatten, tg.getD (x - 1).toNat 0 = 1
  t2 : ∀ x ∈ rels p.ths, tg.getD (x - 1).toNat 0 = 2
  th : ∀ (k : Nat) t, p.ths[k]? = some t → t.fs = [] ∨ ∃ f, t.fs = [f] ∧ FrOk p.c p.W f
section
variable {p : PS} {hs : List (List Int)} {l tg : List Int} {b : Int} {i : Nat} {t : PT} {f : Fr}
theorem Cr.calm (C : Cr p hs l tg b) : Cr (calm0 p) hs l tg b := ⟨C.ok.calm, C.hl, C.lk, C.gh, C.tl, C.bad, C.cnt, C.t0, C.t1, C.t2, C.th⟩
theorem Cr.up (C : Cr p hs l tg b) {b' : Int} (h : b ≤ b') : Cr p hs l tg b' := ⟨C.ok.up h, C.hl, C.lk, C.gh, C.tl, C.bad, C.cnt, C.t0, C.t1, C.t2, C.th⟩
theorem Cr.rg (C : Cr p hs l tg b) {x : Int} (h : x ∈ l ∨ x ∈ hs.flatten ∨ x ∈ rels p.ths) : sentP p.c.A < x ∧ x ≤ p.c.N := by
  have h1 := C.cnt x
  have h2 : 0 < l.count x + hs.flatten.count x + (rels p.ths).count x := by
    rcases h with h | h | h
    · have := List.count_pos_iff.2 h; omega
    · have := List.count_pos_iff.2 h; omega
    · have := List.count_pos_iff.2 h; omega
  rw [h1] at h2
  by_cases h3 : sentP p.c.A < x ∧ x ≤ p.c.N
  · exact h3
  · rw [if_neg h3] at h2; exact absurd h2 (Nat.lt_irrefl 0)
theorem Cr.le1 (C : Cr p hs l tg b) (x : Int) : l.count x + hs.flatten.count x + (rels p.ths).count x ≤ 1 := by
  rw [C.cnt x]; split <;> omega
theorem set_get {α : Type} {L : List α} {i k : Nat} {u v : α} (h : (L.set i v)[k]? = some u) : (i = k ∧ u = v) ∨ (i ≠ k ∧ L[k]? = some u) := by
  rw [List.getElem?_set] at h
  by_cases hik : i = k
  · subst hik
    rw [if_pos rfl] at h
    split at h
    · exact .inl ⟨rfl, (Option.some.inj h).symm⟩
    · cases h
  · rw [if_neg hik] at h; exact .inr ⟨hik, h⟩
theorem rels_count {x : Int} {l : List PT} {i : Nat} {t t' : PT} (h : l[i]? = some t) (hr : relOf t' = relOf t) : (rels (l.set i t')).count x = (rels l).count x := by
  have := rels_set x (t' := t') h
  rw [hr] at this; omega
theorem rels_same {l : List PT} {i : Nat} {t t' : PT} (h : l[i]? = some t) (hr : relOf t' = relOf t) : rels (l.set i t') = rels l := by
  unfold rels
  rw [List.map_set, hr]
  congr 1
  apply List.ext_getElem?
  intro j
  rw [List.getElem?_set]
  by_cases hj : i = j
  · subst hj
    rw [if_pos rfl, List.getElem?_map, h]
    split
    · rfl
    · rename_i hn
      exact absurd (by rw [List.length_map]; exact (List.getElem?_eq_some_iff.1 h).1) hn
  · rw [if_neg hj]
/-- only a thread's frames change -/
theorem Cr.thr (C : Cr p hs l tg b) (hi : p.ths[i]? = some t) {t' : PT} (hrel : relOf t' = relOf t) (hok : t'.fs = [] ∨ ∃ f, t'.fs = [f] ∧ FrOk p.c p.W f) (a : Bool) {k b' : Int} (hk : 0 ≤ k ∧ k ≤ b') : Cr { p with acted := a, k := k, ths := p.ths.set i t' } hs l tg b' :=
  ⟨⟨C.ok.r, C.ok.t, hk.1, hk.2, C.ok.w, C.ok.l⟩, by rw [C.hl]; simp, C.lk, C.gh, C.tl, C.bad, fun x => by
    have := C.cnt x
    show l.count x + hs.flatten.count x + (rels (p.ths.set i t')).count x = _
    rw [rels_same hi hrel]; exact this, C.t0, C.t1, fun x hx => C.t2 x (by
      have hx : x ∈ rels (p.ths.set i t') := hx
      rw [rels_same hi hrel] at hx; exact hx), fun k u hu => by
    rcases set_get hu with ⟨-, rfl⟩ | ⟨-, h⟩
    · exact hok
    · exact C.th k u h⟩
theorem W0_bd (C : Cr p hs l tg b) : u64R (p.W.getD 0 0) := u64_getD C.ok.w 0
theorem ver0 {x : Int} (h : u64R x) : 0 ≤ verW x := by unfold verW; have := h.1; omega
theorem Cr.facts (C : Cr p hs l tg b) : p.okP 0 ∧ (p.c.where_ 0).1 ≠ 3 ∧ 0 < p.W.length ∧ (∀ x, 1 ≤ x ∧ x ≤ p.c.N → p.okP (p.c.link x)) ∧ (1 ≤ p.c.N ∧ p.c.N ≤ 64) ∧ 0 ≤ sentP p.c.A := by
  have hr := C.ok.r
  have hz := size_bd hr
  have hW := C.ok.l
  have hs0 : 0 ≤ sentP p.c.A := by unfold sentP; split <;> omega
  refine ⟨⟨by omega, by omega⟩, where_0 hr, by omega, fun x hx => ?_, N_bd hr, hs0⟩
  obtain ⟨w1, w2, w3⟩ := where_link hr hx
  exact ⟨by omega, by omega⟩
/-- how far a thread is from its end, if no other one gets ahead of it -/
def dm (W0 : Int) (f : Fr) : Nat := if f.pc = 0 then 3 else if (if f.fn = 1 then f.R.getD 0 0 else f.R.getD 1 0) = W0 then (3 - f.pc).toNat else (6 - f.pc).toNat
theorem dm_0 {W0 : Int} {f : Fr} (h : f.pc = 0) : dm W0 f = 3 := by unfold dm; rw [if_pos h]
theorem dm_a {W0 : Int} {f : Fr} (h : f.fn = 1) (h0 : f.pc ≠ 0) : dm W0 f = if f.R.getD 0 0 = W0 then (3 - f.pc).toNat else (6 - f.pc).toNat := by unfold dm; rw [if_neg h0, if_pos h]
theorem dm_r {W0 : Int} {f : Fr} (h : f.fn = 2) (h0 : f.pc ≠ 0) : dm W0 f = if f.R.getD 1 0 = W0 then (3 - f.pc).toNat else (6 - f.pc).toNat := by unfold dm; rw [if_neg h0, if_neg (show ¬ f.fn = 1 by omega)]
/-- what a step of a thread at the list does -/
def Done (p q : PS) (hs : List (List Int)) (b : Int) (i : Nat) (f : Fr) : Prop :=
  ∃ t' hs' l' tg', q.ths = p.ths.set i t' ∧ q.c = p.c ∧ Cr q hs' l' tg' (b + 1) ∧ verW (q.W.getD 0 0) ≤ verW (p.W.getD 0 0) + 1 ∧
    ((∃ f', t'.fs = [f'] ∧ hs' = hs ∧ q.W.getD 0 0 = p.W.getD 0 0 ∧ dm (p.W.getD 0 0) f' + 1 ≤ dm (p.W.getD 0 0) f) ∨
     (t'.fs = [] ∧ (f.fn ≠ 1 → hs' = hs) ∧ ∃ x, t'.r = (x, 0, 0) ∧ (0 ≤ x ∧ x ≤ p.c.N) ∧ (f.fn = 1 → (x = 0 ∧ hs' = hs) ∨ (x ≠ 0 ∧ hs' = hs.set i (hs.getD i [] ++ [x])))))
theorem Lk.zero {c : Cf} {W : List Int} {n : Int} : ∀ {l : List Int}, Lk c W n l → (1 ≤ n) → ∃ l', l = n :: l' ∧ Lk c W (toI (W.getD (c.link n).toNat 0)) l'
  | [], h, hn => by have : n = 0 := h; omega
  | x :: l', h, _ => by
    obtain ⟨h1, h2, h3⟩ := h
    subst h1
    exact ⟨l', rfl, h3⟩
theorem frel {t : PT} {f : Fr} (hf : t.fs = [f]) : relOf t = if f.fn = 2 then [f.R.getD 0 0] else [] := by unfold relOf; rw [hf]
theorem Cr.step1 (C : Cr p hs l tg b) (hi : p.ths[i]? = some t) (hf : t.fs = [f]) (hfn : f.fn = 1) (hv : verW (p.W.getD 0 0) < 1000000) (fo : FrOk p.c p.W f) : Done p (arDo p i t [] f) hs b i f := by
  obtain ⟨o0, w0, l0, ol, hN, hse⟩ := C.facts
  have hr := C.ok.r
  have hk0 := C.ok.k0
  have hk1 := C.ok.k1
  have hk' : 0 ≤ p.k + 1 ∧ p.k + 1 ≤ b + 1 := by omega
  have hu0 := W0_bd C
  have hv0 := ver0 hu0
  have e0 : p.ldv 0 = p.W.getD 0 0 := by unfold PS.ldv; rw [if_pos o0]; rfl
  have rt : relOf t = [] := by rw [frel hf, if_neg (by omega)]
  obtain ⟨fr, fo⟩ := fo
  rcases fo with ⟨-, fo⟩ | ⟨h2, -⟩
  case inr => omega
  unfold arDo
  rw [if_pos hfn]
  unfold arAlloc
  by_cases h0 : f.pc = 0
  · rw [if_pos h0, e0, ld_eq o0 w0]
    by_cases hz : ptrW (p.W.getD 0 0) = 0
    · rw [if_pos hz]
      refine ⟨{ t with fs := [], r := (0, 0, 0) }, hs, l, tg, rfl, rfl, C.thr hi (by rw [rt]; rfl) (.inl rfl) true hk', by show verW (p.W.getD 0 0) ≤ _; omega, .inr ⟨rfl, fun h => rfl, 0, rfl, by omega, fun _ => .inl ⟨rfl, rfl⟩⟩⟩
    · rw [if_neg hz]
      have hp := ptrW_bd (x := p.W.getD 0 0)
      obtain ⟨l', hl', -⟩ := Lk.zero C.lk (by omega)
      have hx := C.rg (x := ptrW (p.W.getD 0 0)) (.inl (by rw [hl']; exact List.mem_cons_self))
      have g0 : (regI f.R 0 (p.W.getD 0 0)).getD 0 0 = p.W.getD 0 0 := by rw [regI_at _ _ _ _ (by omega)]; rfl
      have hF : FrOk p.c p.W ⟨f.fn, 1, regI f.R 0 (p.W.getD 0 0)⟩ := ⟨regs_I fr hu0, .inl ⟨hfn, .inr (by
        show Snap _ ((regI f.R 0 (p.W.getD 0 0)).getD 0 0) ∧ (1 ≤ ptrW ((regI f.R 0 (p.W.getD 0 0)).getD 0 0) ∧ _) ∧ _
        rw [g0]
        exact ⟨.self hv0, by omega, .inl rfl⟩)⟩⟩
      refine ⟨{ t with fs := [⟨f.fn, 1, regI f.R 0 (p.W.getD 0 0)⟩] }, hs, l, tg, rfl, rfl, C.thr hi (by rw [rt, frel rfl]; exact if_neg (by show ¬ f.fn = 2; omega)) (.inr ⟨_, rfl, hF⟩) true hk', by show verW (p.W.getD 0 0) ≤ _; omega, .inl ⟨_, rfl, rfl, rfl, ?_⟩⟩
      unfold dm
      rw [if_pos h0, if_neg (by show ¬ (1 : Int) = 0; decide)]
      show (if (if f.fn = 1 then (regI f.R 0 (p.W.getD 0 0)).getD 0 0 else _) = p.W.getD 0 0 then (3 - (1 : Int)).toNat else _) + 1 ≤ 3
      rw [if_pos hfn, if_pos g0]; decide
  · rw [if_neg h0]
    rcases fo with h | ⟨sn, hx, hpc⟩
    · exact absurd h h0
    have ox := ol _ hx
    obtain ⟨wx, lx1, lx2⟩ := where_link hr hx
    by_cases h1 : f.pc = 1
    · rw [if_pos h1, ld_eq ox wx]
      have e1 : p.ldv (p.c.link (ptrW (f.R.getD 0 0))) = p.W.getD (p.c.link (ptrW (f.R.getD 0 0))).toNat 0 := by unfold PS.ldv; rw [if_pos ox]; rfl
      rw [e1]
      have hu1 := u64_getD C.ok.w (p.c.link (ptrW (f.R.getD 0 0))).toNat
      generalize hg1 : p.W.getD (p.c.link (ptrW (f.R.getD 0 0))).toNat 0 = z at *
      have g0 : (regI f.R 1 z).getD 0 0 = f.R.getD 0 0 := by rw [regI_at _ _ _ _ (by omega)]; rfl
      have g1 : (regI f.R 1 z).getD 1 0 = z := by rw [regI_at _ _ _ _ (by omega)]; rfl
      have hF : FrOk p.c p.W ⟨f.fn, 2, regI f.R 1 z⟩ := ⟨regs_I fr hu1, .inl ⟨hfn, .inr (by
        show Snap _ ((regI f.R 1 z).getD 0 0) ∧ (1 ≤ ptrW ((regI f.R 1 z).getD 0 0) ∧ ptrW ((regI f.R 1 z).getD 0 0) ≤ _) ∧ (_ ∨ (_ ∧ ((regI f.R 1 z).getD 0 0 = _ → (regI f.R 1 z).getD 1 0 = p.W.getD (p.c.link (ptrW ((regI f.R 1 z).getD 0 0))).toNat 0)))
        rw [g0, g1]
        exact ⟨sn, hx, .inr ⟨rfl, fun _ => hg1.symm⟩⟩)⟩⟩
      refine ⟨{ t with fs := [⟨f.fn, 2, regI f.R 1 z⟩] }, hs, l, tg, rfl, rfl, C.thr hi (by rw [rt, frel rfl]; exact if_neg (by show ¬ f.fn = 2; omega)) (.inr ⟨_, rfl, hF⟩) true hk', by show verW (p.W.getD 0 0) ≤ _; omega, .inl ⟨_, rfl, rfl, rfl, ?_⟩⟩
      unfold dm
      rw [if_neg h0, if_neg (by show ¬ (2 : Int) = 0; decide), h1]
      show (if (if f.fn = 1 then (regI f.R 1 z).getD 0 0 else _) = p.W.getD 0 0 then (3 - (2 : Int)).toNat else (6 - (2 : Int)).toNat) + 1 ≤ _
      rw [if_pos hfn, if_pos hfn, g0]
      split <;> decide
    · rw [if_neg h1]
      rcases hpc with h | ⟨h2, hlk⟩
      · exact absurd h h1
      by_cases hc : p.W.getD 0 0 = f.R.getD 0 0
      · have hcv : p.casv 0 (f.R.getD 0 0) = true := decide_eq_true ⟨o0, hc⟩
        rw [if_pos hcv, cas_t o0 w0 hc]
        have hlk := hlk hc.symm
        rw [← hc] at hlk hx ⊢
        obtain ⟨l', hl', hlk'⟩ := Lk.zero C.lk hx.1
        have hmem : ptrW (p.W.getD 0 0) ∈ l := by rw [hl']; exact List.mem_cons_self
        have hrg := C.rg (.inl hmem)
        have htl := C.tl
        rw [hlk]
        generalize hn : toI (p.W.getD (p.c.link (ptrW (p.W.getD 0 0))).toNat 0) = nx at *
        have hsm := hlk'.small hr
        have hD := deed_eq (p := { p with acted := true, W := p.W.set (0 : Int).toNat (nextW (p.W.getD 0 0) nx), k := p.k + 1 }) (to := 1) (kind := 1) C.gh (i := ptrW (p.W.getD 0 0)) (frm := 0) ⟨by omega, by omega⟩ (C.t0 _ hmem)
        rw [hD]
        have hW' : ∀ z ∈ p.W.set 0 (nextW (p.W.getD 0 0) nx), u64R z := mem_set_ C.ok.w nextW_bd
        have e0' : (p.W.set 0 (nextW (p.W.getD 0 0) nx)).getD 0 0 = nextW (p.W.getD 0 0) nx := setD_self l0
        have hvn := ver_next (x := p.W.getD 0 0) (n := nx) ⟨hv0, hv⟩
        generalize hxe : ptrW (p.W.getD 0 0) = x at *
        subst hl'
        have hilt := (List.getElem?_eq_some_iff.1 hi).1
        have hhi : hs[i]? = some (hs.getD i []) := by
          have : i < hs.length := by rw [C.hl]; exact hilt
          simp [List.getD, this]
        have hc1 := C.le1
        refine ⟨{ t with fs := [], r := (x, 0, 0) }, hs.set i (hs.getD i [] ++ [x]), l', tg.set (x - 1).toNat 1, rfl, rfl, ⟨⟨hr, ?_, by show 0 ≤ p.k + 1; omega, by show p.k + 1 ≤ b + 1; omega, hW', ?_⟩, ?_, ?_, rfl, ?_, C.bad, ?_, ?_, ?_, ?_, ?_⟩, ?_, .inr ⟨rfl, fun h => absurd hfn h, x, rfl, by omega, fun _ => .inr ⟨by omega, rfl⟩⟩⟩
        · show (tg.set _ _).length ≤ 64; simp; omega
        · show (p.W.set _ _).length = _; rw [List.length_set]; exact C.ok.l
        · show (hs.set _ _).length = (p.ths.set _ _).length
          simp; exact C.hl
        · show Lk p.c (p.W.set 0 (nextW (p.W.getD 0 0) nx)) (ptrW ((p.W.set 0 (nextW (p.W.getD 0 0) nx)).getD 0 0)) l'
          rw [e0', ptr_next hsm]
          exact hlk'.set fun z hz => by
            have := (where_link hr (hlk'.mem z hz)).2
            omega
        · show ((tg.set _ _).length : Int) = _; simp; exact htl
        · intro y
          have h1 := C.cnt y
          have h2 := cnt_set y hs i _ (hs.getD i [] ++ [x]) hhi
          have h3 : (rels (p.ths.set i { t with fs := [], r := (x, 0, 0) })).count y = (rels p.ths).count y := rels_count hi (by rw [rt]; rfl)
          rw [List.count_append] at h2
          rw [List.count_cons] at h1
          have h4 : List.count y [x] = if x == y then 1 else 0 := by rw [List.count_cons]; simp
          show l'.count y + (hs.set i (hs.getD i [] ++ [x])).flatten.count y + (rels (p.ths.set i { t with fs := [], r := (x, 0, 0) })).count y = if sentP p.c.A < y ∧ y ≤ p.c.N then 1 else 0
          omega
        · intro y hy
          have h1 := hc1 x
          have h2 : y ≠ x := fun e => by
            rw [List.count_cons_self] at h1
            have := List.count_pos_iff.2 (by rw [← e]; exact hy : x ∈ l')
            omega
          have := hlk'.mem y hy
          rw [getD_set (by omega)]
          exact C.t0 y (List.mem_cons_of_mem _ hy)
        · intro y hy
          have h2 := cnt_set y hs i _ (hs.getD i [] ++ [x]) hhi
          have h3 := List.count_pos_iff.2 hy
          rw [List.count_append] at h2
          have h4 : List.count y [x] = if x == y then 1 else 0 := by rw [List.count_cons]; simp
          by_cases hyx : y = x
          · rw [hyx, setD_self (by omega)]
          · have h5 : (x == y) = false := by simp; exact fun h => hyx h.symm
            rw [h5] at h4
            have h6 : y ∈ hs.flatten := List.count_pos_iff.1 (by simp at h4; omega)
            have := C.rg (.inr (.inl h6))
            rw [getD_set (by omega)]
            exact C.t1 y h6
        · intro y hy
          have h3 : y ∈ rels p.ths := by
            have h3 := rels_count (x := y) hi (t' := { t with fs := [], r := (x, 0, 0) }) (by rw [rt]; rfl)
            have h4 := List.count_pos_iff.2 hy
            exact List.count_pos_iff.1 (by rw [← h3]; exact h4)
          have h1 := hc1 x
          have h2 : y ≠ x := fun e => by
            rw [List.count_cons_self] at h1
            have := List.count_pos_iff.2 (by rw [← e]; exact h3 : x ∈ rels p.ths)
            omega
          have := C.rg (.inr (.inr h3))
          rw [getD_set (by omega)]
          exact C.t2 y h3
        · intro k u hu
          rcases set_get hu with ⟨-, rfl⟩ | ⟨-, h⟩
          · exact .inl rfl
          · rcases C.th k u h with h | ⟨g, h, hg⟩
            · exact .inl h
            · exact .inr ⟨g, h, hg.next hr l0 nx ⟨hv0, hv⟩⟩
        · show verW ((p.W.set 0 (nextW (p.W.getD 0 0) nx)).getD 0 0) ≤ _
          rw [e0', hvn]; exact Int.le_refl _
      · have hcv : p.casv 0 (f.R.getD 0 0) = false := decide_eq_false (fun h => hc h.2)
        rw [hcv, if_neg (by decide), cas_f o0 w0 hc]
        refine ⟨{ t with fs := [{ f with pc := 0 }] }, hs, l, tg, rfl, rfl, C.thr hi (by rw [rt, frel rfl]; exact if_neg (by show ¬ f.fn = 2; omega)) (.inr ⟨({ f with pc := 0 } : Fr), rfl, fr, .inl ⟨hfn, .inl rfl⟩⟩) true hk', by show verW (p.W.getD 0 0) ≤ _; omega, .inl ⟨_, rfl, rfl, rfl, ?_⟩⟩
        unfold dm
        rw [if_pos rfl, if_neg h0, if_pos hfn, if_neg (fun h => hc h.symm), h2]; decide
theorem Cr.step2 (C : Cr p hs l tg b) (hi : p.ths[i]? = some t) (hf : t.fs = [f]) (hfn : f.fn = 2) (hv : verW (p.W.getD 0 0) < 1000000) (fo : FrOk p.c p.W f) : Done p (arDo p i t [] f) hs b i f := by
  obtain ⟨o0, w0, l0, ol, hN, hse⟩ := C.facts
  have hr := C.ok.r
  have hk0 := C.ok.k0
  have hk1 := C.ok.k1
  have hk' : 0 ≤ p.k + 1 ∧ p.k + 1 ≤ b + 1 := by omega
  have hu0 := W0_bd C
  have hv0 := ver0 hu0
  have e0 : p.ldv 0 = p.W.getD 0 0 := by unfold PS.ldv; rw [if_pos o0]; rfl
  have rt : relOf t = [f.R.getD 0 0] := by rw [frel hf, if_pos hfn]
  obtain ⟨fr, fo⟩ := fo
  rcases fo with ⟨h1, -⟩ | ⟨-, hx, fo⟩
  case inl => omega
  have hmem : f.R.getD 0 0 ∈ rels p.ths := rels_mem hi (by rw [rt]; exact List.mem_cons_self)
  have htag := C.t2 _ hmem
  have hxI : toI (f.R.getD 0 0) = f.R.getD 0 0 := toI_small (by omega)
  have hxw : IntKind.u64.wrap (f.R.getD 0 0) = f.R.getD 0 0 := by rw [IntKind.wrap_u64]; omega
  have hc1 := C.le1
  have hcm := List.count_pos_iff.2 hmem
  have hnl : f.R.getD 0 0 ∉ l := fun h => by
    have := List.count_pos_iff.2 h
    have := hc1 (f.R.getD 0 0)
    omega
  have hnh : f.R.getD 0 0 ∉ hs.flatten := fun h => by
    have := List.count_pos_iff.2 h
    have := hc1 (f.R.getD 0 0)
    omega
  have ox := ol _ hx
  obtain ⟨wx, lx1, lx2⟩ := where_link hr hx
  have hpu : ∀ z, u64R (ptrW z) := fun z => by
    have := ptrW_bd (x := z)
    exact ⟨by omega, by omega⟩
  unfold arDo
  rw [if_neg (by omega), if_pos hfn]
  unfold arRelease
  by_cases h0 : f.pc = 0
  · rw [if_pos h0, e0, ld_eq o0 w0]
    have g0 : (regI f.R 1 (p.W.getD 0 0)).getD 0 0 = f.R.getD 0 0 := by rw [regI_at _ _ _ _ (by omega)]; rfl
    have g1 : (regI f.R 1 (p.W.getD 0 0)).getD 1 0 = p.W.getD 0 0 := by rw [regI_at _ _ _ _ (by omega)]; rfl
    have hF : FrOk p.c p.W ⟨f.fn, 1, regI f.R 1 (p.W.getD 0 0)⟩ := ⟨regs_I fr hu0, .inr ⟨hfn, by
      show 1 ≤ (regI f.R 1 (p.W.getD 0 0)).getD 0 0 ∧ _
      rw [g0]; exact hx, .inr ⟨by
      show Snap _ ((regI f.R 1 (p.W.getD 0 0)).getD 1 0)
      rw [g1]; exact .self hv0, .inl rfl⟩⟩⟩
    refine ⟨{ t with fs := [⟨f.fn, 1, regI f.R 1 (p.W.getD 0 0)⟩] }, hs, l, tg, rfl, rfl, C.thr hi (by rw [rt, frel rfl, if_pos hfn]; show [(regI f.R 1 (p.W.getD 0 0)).getD 0 0] = _; rw [g0]) (.inr ⟨_, rfl, hF⟩) true hk', by show verW (p.W.getD 0 0) ≤ _; omega, .inl ⟨_, rfl, rfl, rfl, ?_⟩⟩
    rw [dm_0 h0, dm_r (f := ⟨f.fn, 1, regI f.R 1 (p.W.getD 0 0)⟩) hfn (show (1 : Int) ≠ 0 by decide), if_pos g1]
    exact (by decide : (3 - (1 : Int)).toNat + 1 ≤ 3)
  · rw [if_neg h0]
    rcases fo with h | ⟨sn, hpc⟩
    · exact absurd h h0
    by_cases h1 : f.pc = 1
    · rw [if_pos h1, hxI, st_eq ox wx]
      have e0' : (p.W.set (p.c.link (f.R.getD 0 0)).toNat (ptrW (f.R.getD 1 0))).getD 0 0 = p.W.getD 0 0 := getD_set (by omega)
      have hlw : (p.c.link (f.R.getD 0 0)).toNat < p.W.length := by have := ox.2; have := ox.1; omega
      have hA : ptrW (p.W.getD 0 0) ≠ f.R.getD 0 0 := fun e => by
        obtain ⟨l', hl', -⟩ := Lk.zero C.lk (by rw [e]; exact hx.1)
        exact hnl (by rw [hl', e]; exact List.mem_cons_self)
      refine ⟨{ t with fs := [{ f with pc := 2 }] }, hs, l, tg, rfl, rfl, ⟨⟨hr, C.ok.t, hk'.1, hk'.2, mem_set_ C.ok.w (hpu _), ?_⟩, ?_, ?_, C.gh, C.tl, C.bad, ?_, C.t0, C.t1, ?_, ?_⟩, ?_, .inl ⟨_, rfl, rfl, e0', ?_⟩⟩
      · show (p.W.set _ _).length = _; rw [List.length_set]; exact C.ok.l
      · show hs.length = (p.ths.set _ _).length
        simp; exact C.hl
      · show Lk p.c (p.W.set (p.c.link (f.R.getD 0 0)).toNat (ptrW (f.R.getD 1 0))) (ptrW ((p.W.set (p.c.link (f.R.getD 0 0)).toNat (ptrW (f.R.getD 1 0))).getD 0 0)) l
        rw [e0']
        exact C.lk.set fun z hz e => by
          have h1 := C.lk.mem z hz
          have h2 := (where_link hr h1).2
          have := link_inj h1 hx (by omega)
          exact hnl (by rw [← this]; exact hz)
      · intro y
        show l.count y + hs.flatten.count y + (rels (p.ths.set i { t with fs := [{ f with pc := 2 }] })).count y = if sentP p.c.A < y ∧ y ≤ p.c.N then 1 else 0
        rw [rels_same hi (by rw [rt, frel rfl, if_pos (show ({ f with pc := 2 } : Fr).fn = 2 from hfn)])]
        exact C.cnt y
      · intro y hy
        have hy : y ∈ rels (p.ths.set i { t with fs := [{ f with pc := 2 }] }) := hy
        rw [rels_same hi (by rw [rt, frel rfl, if_pos (show ({ f with pc := 2 } : Fr).fn = 2 from hfn)])] at hy
        exact C.t2 y hy
      · intro k u hu
        rcases set_get hu with ⟨-, rfl⟩ | ⟨hik, h⟩
        · refine .inr ⟨({ f with pc := 2 } : Fr), rfl, fr, .inr ⟨hfn, hx, .inr ⟨?_, .inr ⟨rfl, ?_⟩⟩⟩⟩
          · show Snap ((p.W.set (p.c.link (f.R.getD 0 0)).toNat (ptrW (f.R.getD 1 0))).getD 0 0) _
            rw [e0']; exact sn
          · exact setD_self hlw
        · rcases C.th k u h with h2 | ⟨g, h2, hg⟩
          · exact .inl h2
          · refine .inr ⟨g, h2, hg.store hr hx _ hA fun hg2 e => ?_⟩
            have := rels_two hi h hik (x := f.R.getD 0 0) (by rw [rt]; exact List.mem_cons_self) (by rw [frel h2, if_pos hg2, e]; exact List.mem_cons_self)
            have := hc1 (f.R.getD 0 0)
            omega
      · show verW ((p.W.set (p.c.link (f.R.getD 0 0)).toNat (ptrW (f.R.getD 1 0))).getD 0 0) ≤ _
        rw [e0']; omega
      · rw [dm_r hfn h0, dm_r (show ({ f with pc := 2 } : Fr).fn = 2 from hfn) (show (2 : Int) ≠ 0 by decide), h1]
        by_cases hq : f.R.getD 1 0 = p.W.getD 0 0
        · rw [if_pos hq, if_pos hq]; exact (by decide : (3 - (2 : Int)).toNat + 1 ≤ (3 - (1 : Int)).toNat)
        · rw [if_neg hq, if_neg hq]; exact (by decide : (6 - (2 : Int)).toNat + 1 ≤ (6 - (1 : Int)).toNat)
    · rw [if_neg h1]
      rcases hpc with h | ⟨h2, hlk⟩
      · exact absurd h h1
      by_cases hc : p.W.getD 0 0 = f.R.getD 1 0
      · have hcv : p.casv 0 (f.R.getD 1 0) = true := decide_eq_true ⟨o0, hc⟩
        rw [if_pos hcv, cas_t o0 w0 hc, hxI, hxw]
        rw [← hc] at hlk ⊢
        have htl := C.tl
        have hD := deed_eq (p := { p with acted := true, W := p.W.set (0 : Int).toNat (nextW (p.W.getD 0 0) (f.R.getD 0 0)), k := p.k + 1 }) (to := 0) (kind := 3) C.gh (i := f.R.getD 0 0) (frm := 2) ⟨by omega, by omega⟩ htag
        rw [hD]
        have hW' : ∀ z ∈ p.W.set 0 (nextW (p.W.getD 0 0) (f.R.getD 0 0)), u64R z := mem_set_ C.ok.w nextW_bd
        have e0' : (p.W.set 0 (nextW (p.W.getD 0 0) (f.R.getD 0 0))).getD 0 0 = nextW (p.W.getD 0 0) (f.R.getD 0 0) := setD_self l0
        have hvn := ver_next (x := p.W.getD 0 0) (n := f.R.getD 0 0) ⟨hv0, hv⟩
        have hsm := C.lk.small hr
        generalize hxe : f.R.getD 0 0 = x at *
        have hrs : ∀ y, (rels (p.ths.set i { t with fs := [], r := (x, 0, 0) })).count y + (if x == y then 1 else 0) = (rels p.ths).count y := fun y => by
          have h3 := rels_set y (t' := { t with fs := [], r := (x, 0, 0) }) hi
          rw [rt] at h3
          have h4 : List.count y [x] = if x == y then 1 else 0 := by rw [List.count_cons]; simp
          have h5 : (relOf { t with fs := [], r := (x, 0, 0) }).count y = 0 := rfl
          omega
        refine ⟨{ t with fs := [], r := (x, 0, 0) }, hs, x :: l, tg.set (x - 1).toNat 0, rfl, rfl, ⟨⟨hr, ?_, hk'.1, hk'.2, hW', ?_⟩, ?_, ?_, rfl, ?_, C.bad, ?_, ?_, ?_, ?_, ?_⟩, ?_, .inr ⟨rfl, fun _ => rfl, x, rfl, by omega, fun h => by omega⟩⟩
        · show (tg.set _ _).length ≤ 64; simp; omega
        · show (p.W.set _ _).length = _; rw [List.length_set]; exact C.ok.l
        · show hs.length = (p.ths.set _ _).length
          simp; exact C.hl
        · show Lk p.c (p.W.set 0 (nextW (p.W.getD 0 0) x)) (ptrW ((p.W.set 0 (nextW (p.W.getD 0 0) x)).getD 0 0)) (x :: l)
          rw [e0', ptr_next (by omega)]
          refine ⟨rfl, hx, ?_⟩
          rw [getD_set (by omega), hlk, toI_small hsm]
          exact C.lk.set fun z hz => by
            have := (where_link hr (C.lk.mem z hz)).2
            omega
        · show ((tg.set _ _).length : Int) = _; simp; exact htl
        · intro y
          have h1 := C.cnt y
          have h3 := hrs y
          show (x :: l).count y + hs.flatten.count y + (rels (p.ths.set i { t with fs := [], r := (x, 0, 0) })).count y = if sentP p.c.A < y ∧ y ≤ p.c.N then 1 else 0
          rw [List.count_cons]
          omega
        · intro y hy
          rcases List.mem_cons.1 hy with e | e
          · rw [e, setD_self (by omega)]
          · have := C.lk.mem y e
            have h2 : y ≠ x := fun h => hnl (by rw [← h]; exact e)
            rw [getD_set (by omega)]
            exact C.t0 y e
        · intro y hy
          have := C.rg (.inr (.inl hy))
          have h2 : y ≠ x := fun h => hnh (by rw [← h]; exact hy)
          rw [getD_set (by omega)]
          exact C.t1 y hy
        · intro y hy
          have h3 := hrs y
          have h4 := List.count_pos_iff.2 hy
          have h5 : y ∈ rels p.ths := List.count_pos_iff.1 (by
            have h4 : 0 < (rels (p.ths.set i { t with fs := [], r := (x, 0, 0) })).count y := h4
            omega)
          have h6 : y ≠ x := fun h => by
            have h4 : 0 < (rels (p.ths.set i { t with fs := [], r := (x, 0, 0) })).count y := h4
            have h7 := hc1 x
            rw [h] at h3 h4
            rw [if_pos (by simp)] at h3
            omega
          have := C.rg (.inr (.inr h5))
          rw [getD_set (by omega)]
          exact C.t2 y h5
        · intro k u hu
          rcases set_get hu with ⟨-, rfl⟩ | ⟨-, h⟩
          · exact .inl rfl
          · rcases C.th k u h with h | ⟨g, h, hg⟩
            · exact .inl h
            · exact .inr ⟨g, h, hg.next hr l0 x ⟨hv0, hv⟩⟩
        · show verW ((p.W.set 0 (nextW (p.W.getD 0 0) x)).getD 0 0) ≤ _
          rw [e0', hvn]; exact Int.le_refl _
      · have hcv : p.casv 0 (f.R.getD 1 0) = false := decide_eq_false (fun h => hc h.2)
        rw [hcv, if_neg (by decide), cas_f o0 w0 hc]
        refine ⟨{ t with fs := [{ f with pc := 0 }] }, hs, l, tg, rfl, rfl, C.thr hi (by rw [rt, frel rfl, if_pos (show ({ f with pc := 0 } : Fr).fn = 2 from hfn)]) (.inr ⟨({ f with pc := 0 } : Fr), rfl, fr, .inr ⟨hfn, hx, .inl rfl⟩⟩) true hk', by show verW (p.W.getD 0 0) ≤ _; omega, .inl ⟨_, rfl, rfl, rfl, ?_⟩⟩
        rw [dm_0 rfl, dm_r hfn h0, if_neg (fun h => hc h.symm), h2]; decide
theorem Cr.step (C : Cr p hs l tg b) (hi : p.ths[i]? = some t) (hf : t.fs = [f]) (hv : verW (p.W.getD 0 0) < 1000000) : Done p (arDo (calm0 p) i t [] f) hs b i f := by
  have hfo : FrOk p.c p.W f := by
    rcases C.th i t hi with h | ⟨g, h, hg⟩
    · rw [h] at hf; cases hf
    · rw [h] at hf; cases hf; exact hg
  rcases hfo.2 with ⟨h, -⟩ | ⟨h, -⟩
  · exact C.calm.step1 hi hf h hv hfo
  · exact C.calm.step2 hi hf h hv hfo
end
end Go.Proofs.Ytdomclcokkijjaa

/- ArenaCrowd: the last turns: each thread comes to its end. -/
namespace Go.Proofs.Ytdomclcokkijjaa
open Go.RowKit
attribute [local irreducible] Instr.loadAt Instr.storeAt Instr.fieldAt Instr.indexAt Instr.sliceAt Instr.buildSlice Instr.box Instr.alloc Builtin.append_ Builtin.len_ Builtin.min_ Builtin.max_ Calls Instr.build Instr.makeSlice binSem convert Instr.index Instr.range Instr.next
def bz (t : PT) : Nat := match t.fs with
  | [] => 0
  | _ :: _ => 1
def busy : List PT → Nat
  | [] => 0
  | t :: l => bz t + busy l
theorem bz_le (t : PT) : bz t ≤ 1 := by unfold bz; split <;> omega
theorem busy_le : ∀ l : List PT, busy l ≤ l.length
  | [] => Nat.le_refl _
  | t :: l => by
    have h1 := busy_le l
    have h2 := bz_le t
    simp only [busy, List.length_cons]; omega
theorem busy_set : ∀ (l : List PT) (i : Nat) (t t' : PT), l[i]? = some t → busy (l.set i t') + bz t = busy l + bz t'
  | [], _, _, _, h => by simp at h
  | a :: l, 0, t, t', h => by
    have : a = t := by simpa using h
    subst this
    simp only [List.set_cons_zero, busy]; omega
  | a :: l, i + 1, t, t', h => by
    have := busy_set l i t t' (by simpa using h)
    simp only [List.set_cons_succ, busy]; omega
/-- how often a thread has its turn ahead of round i -/
def cK (T k i : Nat) : Nat := (i + (T - 1 - k)) / T
theorem cK_next {T k i : Nat} (hT : 1 ≤ T ∧ T ≤ 6) (hk : k < T) : cK T k (i + 1) = cK T k i + if i % T = k then 1 else 0 := by
  unfold cK
  obtain ⟨h1, h2⟩ := hT
  have : T = 1 ∨ T = 2 ∨ T = 3 ∨ T = 4 ∨ T = 5 ∨ T = 6 := by omega
  rcases this with rfl | rfl | rfl | rfl | rfl | rfl
  all_goals
    split <;> omega
theorem cK_end {T k i : Nat} (hT : 1 ≤ T ∧ T ≤ 6) : cK T k (i + 200 * T) = cK T k i + 200 := by
  unfold cK
  obtain ⟨h1, h2⟩ := hT
  have : T = 1 ∨ T = 2 ∨ T = 3 ∨ T = 4 ∨ T = 5 ∨ T = 6 := by omega
  rcases this with rfl | rfl | rfl | rfl | rfl | rfl
  all_goals omega
theorem dm_le {c : Cf} {W : List Int} {f : Fr} (h : FrOk c W f) (W0 : Int) : dm W0 f ≤ 5 := by
  have hp : f.pc = 0 ∨ f.pc = 1 ∨ f.pc = 2 := by
    rcases h.2 with ⟨-, h | ⟨-, -, h | ⟨h, -⟩⟩⟩ | ⟨-, -, h | ⟨-, h | ⟨h, -⟩⟩⟩
    all_goals simp [h]
  rcases hp with h | h | h
  · rw [dm_0 h]; decide
  · unfold dm; rw [h]
    generalize (if f.fn = 1 then f.R.getD 0 0 else f.R.getD 1 0) = x
    by_cases h1 : x = W0 <;> simp [h1]
    all_goals (try split) <;> decide
  · unfold dm; rw [h]
    generalize (if f.fn = 1 then f.R.getD 0 0 else f.R.getD 1 0) = x
    by_cases h1 : x = W0 <;> simp [h1]
    all_goals (try split) <;> decide
theorem dm_any {c : Cf} {W : List Int} {f : Fr} (h : FrOk c W f) (a b : Int) : dm a f ≤ dm b f + 3 := by
  have hp : f.pc = 0 ∨ f.pc = 1 ∨ f.pc = 2 := by
    rcases h.2 with ⟨-, h | ⟨-, -, h | ⟨h, -⟩⟩⟩ | ⟨-, -, h | ⟨-, h | ⟨h, -⟩⟩⟩
    all_goals simp [h]
  rcases hp with h | h | h
  · rw [dm_0 h, dm_0 h]; decide
  · unfold dm; rw [h]
    generalize (if f.fn = 1 then f.R.getD 0 0 else f.R.getD 1 0) = x
    by_cases h1 : x = a <;> by_cases h2 : x = b <;> simp [h1, h2]
    all_goals (try split) <;> decide
  · unfold dm; rw [h]
    generalize (if f.fn = 1 then f.R.getD 0 0 else f.R.getD 1 0) = x
    by_cases h1 : x = a <;> by_cases h2 : x = b <;> simp [h1, h2]
    all_goals (try split) <;> decide
def Tl (p : PS) (T i0 i : Nat) : Prop := ∀ (k : Nat) t f, p.ths[k]? = some t → t.fs = [f] → cK T k i + dm (p.W.getD 0 0) f + 6 * busy p.ths ≤ 6 + 6 * T + cK T k i0
section
variable {p q : PS} {hs : List (List Int)} {l tg : List Int} {b : Int} {k T i0 i : Nat} {t : PT} {f : Fr}
theorem Cr.fr (C : Cr p hs l tg b) (hi : p.ths[k]? = some t) (hf : t.fs = [f]) : FrOk p.c p.W f := by
  rcases C.th k t hi with h | ⟨g, h, hg⟩
  · rw [h] at hf; cases hf
  · rw [h] at hf; cases hf; exact hg
theorem Tl.start (C : Cr p hs l tg b) (hT : p.ths.length = T) : Tl p T i0 i0 := fun k t f hk hf => by
  have h1 := dm_le (C.fr hk hf) (p.W.getD 0 0)
  have h2 := busy_le p.ths
  omega
theorem Tl.idle (h : Tl p T i0 i) (hT : 1 ≤ T ∧ T ≤ 6) (hl : p.ths.length = T) (hi : p.ths[i % T]? = some t) (hf : t.fs = []) : Tl p T i0 (i + 1) := fun k t' f hk hf' => by
  have h1 := h k t' f hk hf'
  have hlt := (List.getElem?_eq_some_iff.1 hk).1
  rw [cK_next hT (by omega)]
  by_cases hik : i % T = k
  · rw [hik, hk] at hi
    rw [Option.some.inj hi, hf] at hf'; cases hf'
  · rw [if_neg hik]; exact h1
theorem Tl.step (h : Tl p T i0 i) (C : Cr p hs l tg b) (hT : 1 ≤ T ∧ T ≤ 6) (hl : p.ths.length = T) (hi : p.ths[i % T]? = some t) (hf : t.fs = [f]) {q : PS} (D : Done p q hs b (i % T) f) : Tl q T i0 (i + 1) := by
  obtain ⟨t', hs', l', tg', e1, e2, -, -, D⟩ := D
  intro k u f' hk hf'
  rw [e1] at hk
  have hlt : k < T := by
    have := (List.getElem?_eq_some_iff.1 hk).1
    rw [List.length_set] at this; omega
  have hbz : bz t = 1 := by unfold bz; rw [hf]
  have hbs := busy_set p.ths (i % T) t t' hi
  rw [cK_next hT hlt, e1]
  rcases set_get hk with ⟨h1, rfl⟩ | ⟨h1, h2⟩
  · subst h1
    rw [if_pos rfl]
    rcases D with ⟨f'', hf'', -, hw, hd⟩ | ⟨h3, -⟩
    · rw [hf''] at hf'
      cases hf'
      have h4 := h _ t f hi hf
      have hbz' : bz u = 1 := by unfold bz; rw [hf'']
      rw [hw]
      omega
    · rw [h3] at hf'; cases hf'
  · rw [if_neg h1]
    have h4 := h k u f' h2 hf'
    rcases D with ⟨f'', hf'', -, hw, hd⟩ | ⟨h3, -⟩
    · have hbz' : bz t' = 1 := by unfold bz; rw [hf'']
      rw [hw]; omega
    · have hbz' : bz t' = 0 := by unfold bz; rw [h3]
      have h5 := dm_any (C.fr h2 hf') (q.W.getD 0 0) (p.W.getD 0 0)
      omega
theorem Tl.done (h : Tl p T i0 (i0 + 200 * T)) (C : Cr p hs l tg b) (hT : 1 ≤ T ∧ T ≤ 6) : ∀ (k : Nat) t, p.ths[k]? = some t → t.fs = [] := fun k t hk => by
  rcases C.th k t hk with h1 | ⟨f, h1, -⟩
  · exact h1
  · have h2 := h k t f hk h1
    rw [cK_end hT] at h2
    omega
theorem Cr.end (C : Cr p hs l tg b) (h : ∀ (k : Nat) t, p.ths[k]? = some t → t.fs = []) (x : Int) : l.count x + hs.flatten.count x = if sentP p.c.A < x ∧ x ≤ p.c.N then 1 else 0 := by
  have h1 := C.cnt x
  have h2 : rels p.ths = [] := by
    unfold rels
    rw [List.flatten_eq_nil_iff]
    intro y hy
    obtain ⟨t, ht, rfl⟩ := List.mem_map.1 hy
    obtain ⟨k, hk, rfl⟩ := List.getElem_of_mem ht
    have := h k _ (List.getElem?_eq_getElem hk)
    unfold relOf; rw [this]
  rw [h2] at h1
  exact h1
/-- a thread begins a routine -/
theorem Cr.push1 (C : Cr p hs l tg b) (hi : p.ths[k]? = some t) (hf : t.fs = []) : Cr (p.put k { t with fs := [⟨1, 0, []⟩] }) hs l tg b :=
  C.thr hi (t' := { t with fs := [⟨1, 0, []⟩] }) (by unfold relOf; rw [hf]; rfl) (.inr ⟨_, rfl, fun j => by simp [u64R], .inl ⟨rfl, .inl rfl⟩⟩) p.acted (k := p.k) ⟨C.ok.k0, C.ok.k1⟩
/-- .. with a node that it has -/
theorem Cr.push2 (C : Cr p hs l tg b) (hi : p.ths[k]? = some t) (hf : t.fs = []) {x : Int} {r : List Int} (hk : hs[k]? = some (x :: r)) : Cr ({ p with gh := some (tg.set (x - 1).toNat 2, 0, 0) }.put k { t with fs := [⟨2, 0, [x]⟩] }) (hs.set k r) l (tg.set (x - 1).toNat 2) b := by
  have hx : x ∈ hs.flatten := List.mem_flatten.2 ⟨_, List.mem_of_getElem? hk, List.mem_cons_self⟩
  have hrg := C.rg (.inr (.inl hx))
  obtain ⟨-, -, -, -, hN, hse⟩ := C.facts
  have htl := C.tl
  have hxt := C.t1 x hx
  have hrel : relOf { t with fs := [⟨2, 0, [x]⟩] } = [x] := (frel rfl).trans ((if_pos rfl).trans rfl)
  have hrel0 : relOf t = [] := by unfold relOf; rw [hf]
  have hu : u64R x := ⟨by omega, by omega⟩
  have ht0 : (tg.set (x - 1).toNat 2).length = tg.length := List.length_set
  have hlen : p.tagl.length = tg.length := by unfold PS.tagl; rw [C.gh]
  have key : ∀ y, y ≠ x → sentP p.c.A < y → (tg.set (x - 1).toNat 2).getD (y - 1).toNat 0 = tg.getD (y - 1).toNat 0 := fun y h1 h2 => getD_set (by omega)
  have hc1 := C.le1 x
  have hcx := List.count_pos_iff.2 hx
  refine ⟨⟨C.ok.r, ?_, C.ok.k0, C.ok.k1, C.ok.w, C.ok.l⟩, ?_, C.lk, rfl, by rw [ht0]; exact htl, C.bad, ?_, ?_, ?_, ?_, ?_⟩
  · show (tg.set _ _).length ≤ 64
    rw [ht0, ← hlen]; exact C.ok.t
  · show (hs.set _ _).length = (p.ths.set _ _).length
    simp; exact C.hl
  · intro y
    have h1 := C.cnt y
    have h2 := cnt_set y hs k _ r hk
    have h3 := rels_set y (t' := { t with fs := [⟨2, 0, [x]⟩] }) hi
    rw [hrel, hrel0] at h3
    have h4 : List.count y [x] = if x == y then 1 else 0 := by rw [List.count_cons]; simp
    have h5 : List.count y [] = 0 := rfl
    rw [List.count_cons] at h2
    show l.count y + (hs.set k r).flatten.count y + (rels (p.ths.set k { t with fs := [⟨2, 0, [x]⟩] })).count y = if sentP p.c.A < y ∧ y ≤ p.c.N then 1 else 0
    omega
  · intro y hy
    have h1 : y ≠ x := fun h => by
      rw [h] at hy
      have := List.count_pos_iff.2 hy
      omega
    rw [key y h1 (C.rg (.inl hy)).1]
    exact C.t0 y hy
  · intro y hy
    have h2 := cnt_set y hs k _ r hk
    have h6 := List.count_pos_iff.2 hy
    rw [List.count_cons] at h2
    have h1 : y ≠ x := fun h => by
      rw [h] at h2 h6
      rw [if_pos (by simp)] at h2
      omega
    have h7 : y ∈ hs.flatten := List.count_pos_iff.1 (by omega)
    rw [key y h1 (C.rg (.inr (.inl h7))).1]
    exact C.t1 y h7
  · intro y hy
    have h3 := rels_set y (t' := { t with fs := [⟨2, 0, [x]⟩] }) hi
    rw [hrel, hrel0] at h3
    have h4 : List.count y [x] = if x == y then 1 else 0 := by rw [List.count_cons]; simp
    have h5 : List.count y [] = 0 := rfl
    by_cases hyx : y = x
    · rw [hyx, setD_self (by omega)]
    · have h8 : (x == y) = false := by simp; exact fun h => hyx h.symm
      rw [h8] at h4
      have h6 : 0 < (rels (p.ths.set k { t with fs := [⟨2, 0, [x]⟩] })).count y := List.count_pos_iff.2 hy
      have h9 : y ∈ rels p.ths := List.count_pos_iff.1 (by simp at h4; omega)
      rw [key y hyx (C.rg (.inr (.inr h9))).1]
      exact C.t2 y h9
  · intro j u hu'
    rcases set_get hu' with ⟨-, rfl⟩ | ⟨-, h⟩
    · exact .inr ⟨⟨2, 0, [x]⟩, rfl, fun j => by
        cases j with
        | zero => exact hu
        | succ j => simp [u64R], .inr ⟨rfl, ⟨by show 1 ≤ x; omega, hrg.2⟩, .inl rfl⟩⟩
    · exact C.th j u h
end
end Go.Proofs.Ytdomclcokkijjaa

/- ArenaCrowd: what the law holds: a machine, and what each thread has. -/
namespace Go.Proofs.Ytdomclcokkijjaa
open Go.RowKit
attribute [local irreducible] Instr.loadAt Instr.storeAt Instr.fieldAt Instr.indexAt Instr.sliceAt Instr.buildSlice Instr.box Instr.alloc Builtin.append_ Builtin.len_ Builtin.min_ Builtin.max_ Calls Instr.build Instr.makeSlice binSem convert Instr.index Instr.range Instr.next
abbrev obRow (p : Value × List Int) : Ob := obI p.1 p.2
def cqL (g : Nat) (c : Cf) (X : Mc) (av : Value) (vh : List (Value × List Int)) : List Ob := [obBlk g 42 (cf7 c), obAll X.obs, obSl 22 1 av vh.length (vh.map Prod.fst)] ++ vh.map obRow
structure Mq (X : Mc) (c : Cf) (m : Nat) (hs : List (List Int)) (l tg : List Int) (b : Int) : Prop where
  cr : Cr X.abs hs l tg b
  calm : X.s.on = false ∧ X.s.L = []
  m : X.m = m
  cc : X.abs.c = c
  tl : (X.ths.length : Int) = c.T
  ver : verW (X.abs.W.getD 0 0) ≤ b
structure Cq (w w' : World) (g : Nat) (c : Cf) (X : Mc) (av : Value) (vh : List (Value × List Int)) (l tg : List Int) (m : Nat) (b : Int) : Prop where
  h : Held w w' (cqL g c X av vh)
  q : Mq X c m (vh.map Prod.snd) l tg b
theorem Sl.lo1 {w : World} {e g o n c : Nat} {xs : List Value} (h : Sl w e 1 (.slice (some ⟨g, o, none⟩) n c) n xs) (hn : 1 ≤ n) (hc : n ≤ c) : Sl w e 1 (.slice (if c = 1 then some ⟨g, o, none⟩ else (some ⟨g, o, none⟩ : Option Addr).map (·.add (1 * 1))) (n - 1) (c - 1)) (n - 1) (xs.drop 1) := by
  by_cases h1 : c = 1
  · have h2 : n = 1 := by omega
    subst h1; subst h2
    rw [if_pos rfl]
    have h3 : xs.drop 1 = [] := by
      have := h.1
      exact List.drop_eq_nil_of_le (by omega)
    rw [h3]
    exact h.empty_at rfl
  · rw [if_neg h1]
    have := h.drop_ rfl 1 hn
    simpa [Addr.add_lit] using this
theorem own_lo1 (g o n c k : Nat) : (Value.slice (if c = 1 then some ⟨g, o, none⟩ else (some ⟨g, o, none⟩ : Option Addr).map (·.add (1 * 1))) n k).ownBlock.toList = [g] := by
  by_cases h1 : c = 1
  · rw [if_pos h1]; rfl
  · rw [if_neg h1]; rfl
section
variable {w w' w'' : World} {g : Nat} {c : Cf} {X Y : Mc} {av : Value} {vh : List (Value × List Int)} {l tg : List Int} {m : Nat} {b : Int}
theorem cq_conf (h : Held w w' (cqL g c X av vh)) : Blk w' g 42 (cf7 c) := h.at_ (i := 0) (x := obBlk g 42 (cf7 c)) rfl
theorem cq_mach (h : Held w w' (cqL g c X av vh)) : Mach w' X := h.at_ (i := 1) (x := obAll X.obs) rfl
theorem cq_arr (h : Held w w' (cqL g c X av vh)) : Sl w' 22 1 av vh.length (vh.map Prod.fst) := h.at_ (i := 2) (x := obSl 22 1 av vh.length (vh.map Prod.fst)) rfl
theorem cq_at (g : Nat) (c : Cf) (X : Mc) (av : Value) {k : Nat} {p : Value × List Int} (hk : vh[k]? = some p) : (cqL g c X av vh)[3 + k]? = some (obRow p) := by
  unfold cqL
  rw [List.getElem?_append_right (by simp)]
  simp [hk]
theorem cq_row (h : Held w w' (cqL g c X av vh)) {k : Nat} {v : Value} {xs : List Int} (hk : vh[k]? = some (v, xs)) : Sl w' 3 1 v xs.length (xs.map (.int .i64)) := h.at_ (cq_at g c X av hk)
theorem cq_post (h : Held w w' (cqL g c X av vh)) (p : Post w' X w'' Y) : Held w w'' (cqL g c Y av vh) := h.set (i := 1) (x := obAll X.obs) (y := obAll Y.obs) rfl p.ok p.to
/-- a row changes, then the array of rows -/
theorem cq_set1 {w1 : World} (h : Held w w' (cqL g c X av vh)) {k : Nat} {v v' : Value} {xs xs' : List Int} (hk : vh[k]? = some (v, xs)) (h1 : Sl w1 3 1 v' xs'.length (xs'.map (.int .i64))) (ht : To w' v.ownBlock.toList w1 v'.ownBlock.toList) : Held w w1 ((cqL g c X av vh).set (3 + k) (obRow (v', xs'))) :=
  h.set (cq_at g c X av hk) (y := obRow (v', xs')) h1 ht
theorem cq_arr1 {w1 : World} {k : Nat} {v' : Value} {xs' : List Int} (h : Held w w1 ((cqL g c X av vh).set (3 + k) (obRow (v', xs')))) : Sl w1 22 1 av vh.length (vh.map Prod.fst) := h.at_ (i := 2) (x := obSl 22 1 av vh.length (vh.map Prod.fst)) (by
    rw [List.getElem?_set, if_neg (by omega)]; rfl)
theorem cq_mach1 {w1 : World} {k : Nat} {v' : Value} {xs' : List Int} (h : Held w w1 ((cqL g c X av vh).set (3 + k) (obRow (v', xs')))) : Mach w1 X := h.at_ (i := 1) (x := obAll X.obs) (by
    rw [List.getElem?_set, if_neg (by omega)]; rfl)
theorem cq_set2 {w1 w2 : World} {k : Nat} {v' : Value} {xs' : List Int} (h : Held w w1 ((cqL g c X av vh).set (3 + k) (obRow (v', xs')))) (h3 : Sl w2 22 1 av vh.length ((vh.map Prod.fst).set k v')) (h4 : Upd av.ownBlock.toList w1 w2) : Held w w2 (cqL g c X av (vh.set k (v', xs'))) := by
  have e2 := h.set (i := 2) (x := obSl 22 1 av vh.length (vh.map Prod.fst)) (y := obSl 22 1 av vh.length ((vh.map Prod.fst).set k v')) (by rw [List.getElem?_set, if_neg (by omega)]; rfl) h3 ⟨h4, fun _ h => .inl h⟩
  have e3 : ((cqL g c X av vh).set (3 + k) (obRow (v', xs'))).set 2 (obSl 22 1 av vh.length ((vh.map Prod.fst).set k v')) = cqL g c X av (vh.set k (v', xs')) := by
    unfold cqL
    rw [List.set_append_right _ _ (by simp), List.set_append_left _ _ (by simp)]
    simp only [List.length_set, List.map_set, List.length_cons, List.length_nil]
    rw [show 3 + k - (0 + 1 + 1 + 1) = k by omega]
    rfl
  rw [e3] at e2
  exact e2
theorem Cr.nodup {p : PS} {hs : List (List Int)} (C : Cr p hs l tg b) : l.Nodup := List.nodup_iff_count.2 fun x => by have := C.le1 x; omega
theorem Cr.llen {p : PS} {hs : List (List Int)} (C : Cr p hs l tg b) : l.length ≤ 64 ∧ (l.length : Int) ≤ p.c.N := by
  have hN := N_bd C.ok.r
  have := nodup_len p.c.N.toNat l C.nodup (fun x hx => by have := C.lk.mem x hx; omega)
  omega
theorem Cr.rowlen {p : PS} {hs : List (List Int)} (C : Cr p hs l tg b) {xs : List Int} (h : xs ∈ hs) : xs.length ≤ 64 := by
  obtain ⟨-, -, -, -, hN, hse⟩ := C.facts
  have hsub := List.sublist_flatten_of_mem h
  have nd : xs.Nodup := List.nodup_iff_count.2 fun x => by
    have h1 := hsub.count_le x
    have h2 := C.le1 x
    omega
  have := nodup_len p.c.N.toNat xs nd (fun x hx => by have := C.rg (.inr (.inl (hsub.subset hx))); omega)
  omega
theorem Mq.up {hs : List (List Int)} (h : Mq X c m hs l tg b) {b' : Int} (hb : b ≤ b') : Mq X c m hs l tg b' := ⟨h.cr.up hb, h.calm, h.m, h.cc, h.tl, Int.le_trans h.ver hb⟩
theorem Cq.upd0 (h : Cq w w' g c X av vh l tg m b) (hu : Upd [] w' w'') : Cq w w'' g c X av vh l tg m b := ⟨h.h.upd0 hu, h.q⟩
theorem Mq.len (h : Mq X c m (vh.map Prod.snd) l tg b) : vh.length = X.ths.length := by
  have := h.cr.hl
  simpa [Mc.abs] using this
theorem Mq.th (h : Mq X c m (vh.map Prod.snd) l tg b) {k : Nat} (hk : (k : Int) < c.T) : ∃ t, X.ths[k]? = some t ∧ X.abs.ths[k]? = some (absT t) ∧ ∃ p, vh[k]? = some p := by
  have h1 := h.tl
  have h2 := h.len
  have hlt : k < X.ths.length := by omega
  have hX : X.ths[k]? = some X.ths[k] := List.getElem?_eq_getElem hlt
  exact ⟨_, hX, abs_th X hX, _, List.getElem?_eq_getElem (by omega)⟩
theorem Mq.tl100 (h : Mq X c m (vh.map Prod.snd) l tg b) : X.ths.length ≤ 100 := by
  have hr := h.cr.ok.r
  have h1 := h.tl
  rw [h.cc] at hr
  obtain ⟨A, T, N, L, B, P, S⟩ := c
  obtain ⟨b1, b2, b3, b4, -⟩ := plan_bd hr
  have h1 : (X.ths.length : Int) = T := h1
  omega
theorem Mq.good (h : Mq X c m (vh.map Prod.snd) l tg b) : Good X b := ⟨h.cr.ok, h.calm⟩
theorem Mq.bad0 {hs : List (List Int)} (h : Mq X c m hs l tg b) : X.bad = false ∧ faultG X.gs = false := by
  refine ⟨h.cr.bad, ?_⟩
  have h1 : X.gs.map absG = _ := h.cr.gh
  cases hz : X.gs with
  | none => rfl
  | some g =>
    rw [hz] at h1
    have h3 : absG g = _ := Option.some.inj h1
    have h4 : g.k = 0 := congrArg (fun x => x.2.1) h3
    have h5 : g.n = 0 := congrArg (fun x => x.2.2) h3
    show decide (¬ (g.k = 0 ∧ g.n = 0)) = false
    exact decide_eq_false (fun h => h ⟨h4, h5⟩)
theorem topL_at' {p : PS} {i : Nat} {t : PT} (h : p.ths[i]? = some t) : topL p i = t.fs.length := by unfold topL; rw [h]
/-- a step of thread k, which has a frame -/
theorem cq_step (h : Held w w' (cqL g c X av vh)) (q : Mq X c m (vh.map Prod.snd) l tg b) {k : Nat} {t : Th} {f : Fr} (hk : X.ths[k]? = some t) (hf : t.fs = [f]) (hb : b ≤ 900000) :
    Fn Try.prog 47 #[ptrV m, .int .i64 (k : Int), .func (.func 53) #[] #[]] w' fun r w'' => ∃ Y t' hs' l' tg', Held w w'' (cqL g c Y av vh) ∧ Mq Y c m hs' l' tg' (b + 1) ∧ Done X.abs Y.abs (vh.map Prod.snd) b k f ∧ Y.ths[k]? = some t' ∧ t'.g = t.g ∧
      ((r = .bool true ∧ (∃ f', t'.fs = [f']) ∧ hs' = vh.map Prod.snd) ∨
       (r = .bool false ∧ t'.fs = [] ∧ (f.fn ≠ 1 → hs' = vh.map Prod.snd) ∧ ∃ x, t'.r = (x, 0, 0) ∧ (0 ≤ x ∧ x ≤ c.N) ∧ (f.fn = 1 → (x = 0 ∧ hs' = vh.map Prod.snd) ∨ (x ≠ 0 ∧ hs' = (vh.map Prod.snd).set k ((vh.map Prod.snd).getD k [] ++ [x]))))) := by
  have hm := q.m
  have hkA := abs_th X hk
  have hfA : (absT t).fs = [f] := hf
  have fo := q.cr.fr hkA hfA
  have hver := q.ver
  have D := q.cr.step hkA hfA (by omega)
  have := step_ar (i := k) (fs := []) (f := f) (cq_mach h) q.good hb hk (by rw [hf]; rfl) (by simp) q.tl100 fo.1 (.inl (by rcases fo.2 with ⟨e, -⟩ | ⟨e, -⟩ <;> simp [e]))
  rw [hm] at this
  refine this.mono ?_
  rintro e w2 ⟨r, he, hr, Y, p, kn, ha⟩
  have D' := D
  obtain ⟨t', hs', l', tg', e1, e2, C, e3, D⟩ := D
  rw [← ha] at e1 e2 C e3 D D'
  have hkY := kn.g hk
  obtain ⟨u, hu, hug⟩ := hkY
  have hlt : k < X.abs.ths.length := (List.getElem?_eq_some_iff.1 hkA).1
  have hYA : Y.abs.ths[k]? = some t' := by rw [e1, List.getElem?_set, if_pos rfl, if_pos hlt]
  have hut : absT u = t' := by
    have := abs_th Y hu
    rw [hYA] at this
    exact (Option.some.inj this).symm
  have htop : topL Y.abs k = t'.fs.length := topL_at' hYA
  have hufs : u.fs = t'.fs := by rw [← hut]; rfl
  have hur : u.r = t'.r := by rw [← hut]; rfl
  rw [← ha, htop] at hr
  refine ⟨r, he, Y, u, hs', l', tg', cq_post h p, ⟨C, kn.calm q.calm, by rw [kn.m]; exact hm, by rw [e2]; exact q.cc, by rw [kn.len]; exact q.tl, by omega⟩, D', hu, hug, ?_⟩
  rcases D with ⟨f', hf', h1, -, -⟩ | ⟨hf', h1, x, hx, hxr, h2⟩
  · rw [hf'] at hr
    exact .inl ⟨hr, ⟨f', by rw [hufs]; exact hf'⟩, h1⟩
  · rw [hf'] at hr
    rw [q.cc] at hxr
    exact .inr ⟨hr, by rw [hufs]; exact hf', h1, x, by rw [hur]; exact hx, hxr, h2⟩
theorem freeF_count (n : Nat) (x : Int) : ∀ k, k ≤ n → (freeF n k).count x = if ((n - k : Nat) : Int) < x ∧ x ≤ n then 1 else 0
  | 0, _ => by rw [if_neg (by omega)]; rfl
  | k + 1, hk => by
    have ih := freeF_count n x k (by omega)
    show ((((n - k : Nat) : Int)) :: freeF n k).count x = _
    rw [List.count_cons, ih]
    by_cases hx : ((n - k : Nat) : Int) = x
    · rw [if_neg (by omega), if_pos (by simp [hx]), if_pos (by omega)]
    · have h2 : ((((n - k : Nat) : Int)) == x) = false := by simpa using hx
      rw [h2, show (if (false = true) then (1 : Nat) else 0) = 0 from rfl, Nat.add_zero]
      by_cases h3 : ((n - k : Nat) : Int) < x ∧ x ≤ n
      · rw [if_pos h3, if_pos (by omega)]
      · rw [if_neg h3, if_neg (by omega)]
theorem rels_nil {l : List PT} (h : ∀ t ∈ l, t.fs = []) : rels l = [] := by
  unfold rels
  rw [List.flatten_eq_nil_iff]
  intro y hy
  obtain ⟨t, ht, rfl⟩ := List.mem_map.1 hy
  unfold relOf; rw [h t ht]
/-- a machine as at first -/
theorem cr0 {A T N L B P S : Int} (hr : rightC ⟨A, T, N, L, B, P, S⟩) (w : World) : Fn Try.prog 20 #[.agg (cf7 ⟨A, T, N, L, B, P, S⟩), .slice none 0 0, .bool true] w fun r w' =>
    ∃ X, r = .tuple #[ptrV X.m, .int .i64 0] ∧ New w w' X ∧ Mq X ⟨A, T, N, L, B, P, S⟩ X.m (List.replicate T.toNat []) (freeF N.toNat (N.toNat - (sentP A).toNat)) (liveL N.toNat (sentP A).toNat) 200 ∧ (∀ t ∈ X.ths, t.fs = []) := by
  refine (core_new2 (draws := []) true (RdK.nil_ w .u8) (by decide)).mono ?_
  rintro e w1 ⟨r, he, -, hy⟩
  obtain ⟨m, mp, mv, lv, fp, fv, gs, tv, ths, hrt, I, hT, hths, -, hgs⟩ := hy hr
  obtain ⟨gp, gv, rfl⟩ := hgs rfl
  obtain ⟨b1, b2, b3, b4, b5, b6, -⟩ := plan_bd hr
  have hall : ∀ t ∈ ths, t.fs = [] := fun t ht => by
    obtain ⟨g, pv, sv, wv, rfl⟩ := hths t ht
    rfl
  have h0 : ths[0]? = some (ths[0]'(by omega)) := List.getElem?_eq_getElem _
  have hq := layS_q hr
  have R := rep0 (m := m) (mp := mp) (fp := fp) (v := mv) (lv := lv) (fv := fv) (tv := tv) (draws := []) (gp := gp) (gv := gv) hr h0 (hall _ (List.getElem_mem _))
  obtain ⟨t, n, l, sl, wd, nt, se, U⟩ := nums hr
  have q5 := U.b5; have q3 := U.b3; have qe := U.eN; have qs := U.se_
  have eN : N.toNat = n := by omega
  have eS : (sentP A).toNat = se := by omega
  have hrl : rels (ths.map absT) = [] := rels_nil fun t ht => by
    obtain ⟨u, hu, rfl⟩ := List.mem_map.1 ht
    exact hall u hu
  refine ⟨r, he, _, hrt, I, ⟨⟨R.ok, ?_, R.lk, R.gh, R.tl, R.bad, ?_, R.tag, ?_, ?_, ?_⟩, ⟨hq.on, hq.L⟩, rfl, rfl, hT, ?_⟩, hall⟩
  · show (List.replicate T.toNat []).length = (ths.map absT).length
    simp; omega
  · intro x
    show (freeF N.toNat (N.toNat - (sentP A).toNat)).count x + (List.replicate T.toNat ([] : List Int)).flatten.count x + (rels (ths.map absT)).count x = if sentP A < x ∧ x ≤ N then 1 else 0
    rw [hrl, List.flatten_replicate_nil, freeF_count _ _ _ (by omega), eN, eS]
    have : (n - (n - se) : Nat) = se := by omega
    rw [this]
    show _ + 0 + 0 = _
    by_cases hx : sentP A < x ∧ x ≤ N
    · rw [if_pos hx, if_pos (by omega)]
    · rw [if_neg hx, if_neg (by omega)]
  · intro x hx
    rw [List.flatten_replicate_nil] at hx; cases hx
  · intro x hx
    have hx : x ∈ rels (ths.map absT) := hx
    rw [hrl] at hx; cases hx
  · intro k u hu
    have hu : (ths.map absT)[k]? = some u := hu
    obtain ⟨v, hv, rfl⟩ := List.mem_map.1 (List.mem_of_getElem? hu)
    exact .inl (hall v hv)
  · show verW ((layS A T N L (newMS (sizeP A T N L).toNat)).W.getD 0 0) ≤ 200
    rw [W_at hr U 0 (by omega)]
    show verW (firstW A N L (0, 0, 0)) ≤ 200
    rw [fw0, if_pos rfl]
    unfold verW
    omega
end
set_option maxRecDepth 10000 in
theorem chain_f {w : World} {X : Mc} (h : Mach w X) (hr : rightC X.c) (hW : X.s.W.length = (sizeP X.c.A X.c.T X.c.N X.c.L).toNat) (hu : ∀ x ∈ X.s.W, u64R x) :
    Fn Try.prog 54 #[ptrV X.m] w fun r w' => Sl w' 3 1 r (chain X.c X.s.W).length ((chain X.c X.s.W).map (.int .i64)) ∧ Upd [] w w' ∧ ∀ k ∈ r.ownBlock.toList, w.heap.size ≤ k := by
  have hsz := size_bd hr
  have hN := N_bd hr
  have hcl : (chain X.c X.s.W).length ≤ 64 := by have := chn_len X.c X.s.W X.c.N.toNat (ptrW (X.s.W.getD 0 0)); unfold chain; omega
  refine fnr_enter Try.func54 rfl rfl ?_
  refine ptr_eq ?_
  refine al #[.slice none 0 0] (fun _ => by kernel_rfl) fun w1 hb1 hu1 hs1 => ?_
  have hb1 : Blk w1 w.heap.size TIs #[.slice none 0 0] := hb1
  have h1 := h.upd0 hu1
  refine cl (mem_mm h1) ?_
  rintro _ w1 ⟨rfl, rfl⟩
  refine cl (words_c h1.mem (by omega)) ?_
  rintro wv w2 ⟨hs2, hu2, hn2⟩
  have h2 := h1.upd0 hu2
  refine cl (plan_mm h2) ?_
  rintro _ w3 ⟨rfl, hu3⟩
  refine cl (nodes_c (c := X.c) wv w3) ?_
  rintro _ w4 ⟨b1, b2, rfl, hq1, hq2, hu4, hz1, hz2⟩
  obtain ⟨wa, wc, hwv, -⟩ := hs2.form
  have hq1 := hq1 _ _ _ hwv
  have hs4 := (hs2.upd hu3 (by simp)).upd hu4 (by simp)
  have hz12 : w1.heap.size ≤ w2.heap.size := hu2.size
  have hz23 : w2.heap.size ≤ w3.heap.size := hu3.size
  have hd2 : w1.heap.size = w.heap.size + 1 := hs1
  have hU4 : Upd [] w w4 := ((hu1.trans hu2).trans hu3).trans hu4
  have hbl4 := ((hb1.upd hu2 (by simp)).upd hu3 (by simp)).upd hu4 (by simp)
  have hon := nodes_iter (b1 := b1) (b2 := b2) (v := wv) (c := X.c) (W := X.s.W) hr hW hu
  generalize hl : chain X.c X.s.W = l at *
  refine ⟨rfl, range_rule hon (w := w4) ?_ (fun i o => ∃ v', o = obAll [obBlk w.heap.size TIs #[v'], obIn v' (l.take i)]) (fun _ _ _ => False) (obAll [obBlk w.heap.size TIs #[.slice none 0 0], obIn (.slice none 0 0) []]) ⟨.slice none 0 0, rfl⟩ ?_ ?_ (fun va hva => by
      obtain ⟨x, -, rfl⟩ := List.mem_map.1 hva; rfl) (by decide) (fun i va o w5 w6 hva hG ht5 ho5 ht6 ho6 => ?_) (fun r o w5 hG ho5 ht5 hd hr hro => ?_) (fun r c i o w5 hi hGx _ _ _ _ _ => hGx.elim)⟩
  · intro x hx
    simp only [List.mem_cons, List.not_mem_nil, or_false] at hx
    rcases hx with rfl | rfl | rfl
    · exact hq1
    · exact hq2
    · exact hs4
  · exact Sep.cons (Sep.cons (Sep.nil w4) (Sl.nil_ _ _ _) (by simp [feet])) hbl4 (by simp [feet, obSl, Value.ownBlock])
  · intro k hk hm
    have e : k = w.heap.size := by simpa [obAll, feet, obBlk, obSl, Value.ownBlock] using hm
    subst e
    simp only [obEv, feet, obBlk, obSl, List.flatMap_cons, List.flatMap_nil, List.append_nil, List.mem_append, List.mem_singleton] at hk
    rcases hk with h | h | h
    · omega
    · omega
    · have := hn2 _ (by simpa using h); omega
  · obtain ⟨v', rfl⟩ := hG
    have hil : i < l.length := by
      rcases Nat.lt_or_ge i l.length with h | h
      · exact h
      · rw [List.getElem?_eq_none (by simpa using h)] at hva; cases hva
    have hx : va = one1 (l.getD i 0) := by
      rw [List.getElem?_map, List.getElem?_eq_getElem hil] at hva
      have := Option.some.inj hva
      rw [← this]; simp [List.getD, hil]
    subst hx
    have ho6' : Sep w6 [obBlk w.heap.size TIs #[v'], obIn v' (l.take i)] := ho6
    have hblk : Blk w6 w.heap.size TIs #[v'] := ho6'.ok (obBlk w.heap.size TIs #[v']) (by simp)
    have hsl : Sl w6 3 1 v' (l.take i).length ((l.take i).map (.int .i64)) := ho6'.ok (obIn v' (l.take i)) (by simp)
    have hln : (l.take i).length = i := by rw [List.length_take]; omega
    refine ⟨rfl, rfl, rfl, ?_⟩
    refine ldb hblk rfl ?_
    refine bs (one1 (l.getD i 0)) (fun _ => by kernel_rfl) fun w7 hb7 hu7 hs7 => ?_
    refine apg (hsl.upd hu7 (by simp)) hb7 rfl rfl (by decide) (by simp only [maxLen]; omega) (by omega) fun v2 w8 hs8 hG8 => ?_
    have hnb := hsl.blk_ne hblk (by decide)
    have hb8 := (hblk.upd hu7 (by simp)).upd hG8.up (by simpa using hnb)
    obtain ⟨v2a, v2c, rfl, -⟩ := hs8.form
    refine st hb8 (by show 0 < 1; omega) rfl fun w9 hb9 hu9 hs9 => ?_
    obtain ⟨r1, r2⟩ := BoxL.add ho6 hil hu7 hG8 hs8 hb9 hu9
    exact ⟨_, r1, r2, _, rfl⟩
  · obtain ⟨v', rfl⟩ := hG
    have hfull : l.take (l.map one1).length = l := by rw [List.length_map, List.take_length]
    rw [hfull] at ho5 hro ht5
    have ho5' : Sep w5 [obBlk w.heap.size TIs #[v'], obIn v' l] := ho5
    have hblk : Blk w5 w.heap.size TIs #[v'] := ho5'.ok (obBlk w.heap.size TIs #[v']) (by simp)
    have hsl : Sl w5 3 1 v' l.length (l.map (.int .i64)) := ho5'.ok (obIn v' l) (by simp)
    have hfoot0 : (obAll [obBlk w.heap.size TIs #[.slice none 0 0], obIn (.slice none 0 0) []]).foot = [w.heap.size] := by simp [obAll, feet, obBlk, obSl, Value.ownBlock]
    rw [hfoot0] at ht5
    have hU5 : Upd [] w w5 := hU4.step ht5.up (by simp)
    obtain ⟨va', vc', rfl, -⟩ := hsl.form
    refine ldb hblk rfl ?_
    refine ⟨hd, fun w7 hu7 hz7 => ?_⟩
    refine ⟨?_, hU5.step hu7 (by have := hU4.size; simp; omega), fun k hk => ?_⟩
    rotate_left
    · have hk2 : k ∈ (obAll [obBlk w.heap.size TIs #[.slice va' l.length vc'], obIn (.slice va' l.length vc') l]).foot := mem_feet.2 ⟨obIn (.slice va' l.length vc') l, by simp, hk⟩
      have := hU4.size
      rcases ht5.sub k hk2 with e | e
      · have := List.mem_singleton.1 e
        omega
      · omega
    refine hsl.upd hu7 (fun g hg hm => ?_)
    have e : g = r := List.mem_singleton.1 hm
    subst e
    exact hro (mem_feet.2 ⟨obIn (.slice va' l.length vc') l, by simp, by simp [obSl, hg]⟩)
section
variable {w w' w'' : World} {g : Nat} {c : Cf} {X Y : Mc} {av : Value} {vh : List (Value × List Int)} {l tg : List Int} {m : Nat} {b : Int}
/-- .. and a list of counts, and more -/
def oL (g : Nat) (c : Cf) (X : Mc) (av : Value) (vh : List (Value × List Int)) (ov : Value) (ow : List Int) (E : List Ob) : List Ob := cqL g c X av vh ++ obI ov ow :: E
theorem cq_len (g : Nat) (c : Cf) (X : Mc) (av : Value) (vh : List (Value × List Int)) : (cqL g c X av vh).length = 3 + vh.length := by
  unfold cqL; simp; omega
section
variable {ov : Value} {ow : List Int} {E : List Ob}
theorem oL_at (g : Nat) (c : Cf) (X : Mc) (av : Value) (vh : List (Value × List Int)) (ov : Value) (ow : List Int) (E : List Ob) : (oL g c X av vh ov ow E)[3 + vh.length]? = some (obI ov ow) := by
  unfold oL
  rw [List.getElem?_append_right (by rw [cq_len]; omega), cq_len]
  simp
theorem oL_cq (h : Held w w' (oL g c X av vh ov ow E)) : Held w w' (cqL g c X av vh) := h.sub (List.sublist_append_left _ _)
theorem oL_ow (h : Held w w' (oL g c X av vh ov ow E)) : Sl w' 3 1 ov ow.length (ow.map (.int .i64)) := h.at_ (oL_at g c X av vh ov ow E)
theorem oL_set (h : Held w w' (oL g c X av vh ov ow E)) {ow' : List Int} (h1 : Sl w'' 3 1 ov ow'.length (ow'.map (.int .i64))) (hu : Upd ov.ownBlock.toList w' w'') : Held w w'' (oL g c X av vh ov ow' E) := by
  have e := h.set (oL_at g c X av vh ov ow E) (y := obI ov ow') h1 ⟨hu, fun _ h => .inl h⟩
  have e2 : (oL g c X av vh ov ow E).set (3 + vh.length) (obI ov ow') = oL g c X av vh ov ow' E := by
    unfold oL
    rw [List.set_append_right _ _ (by rw [cq_len]; omega), cq_len]
    simp
  rw [e2] at e
  exact e
theorem oL_ext {v : Value} {xs : List Int} (h : Held w w' (oL g c X av vh ov ow [obI v xs])) : Sl w' 3 1 v xs.length (xs.map (.int .i64)) := h.at_ (i := 4 + vh.length) (x := obI v xs) (by
  unfold oL
  rw [List.getElem?_append_right (by rw [cq_len]; omega), cq_len, show 4 + vh.length - (3 + vh.length) = 1 by omega]
  rfl)
theorem oL_add {v : Value} {xs : List Int} (h : Held w w' (oL g c X av vh ov ow [])) (hu : Upd [] w' w'') (h1 : Sl w'' 3 1 v xs.length (xs.map (.int .i64))) (hn : ∀ k ∈ v.ownBlock.toList, w'.heap.size ≤ k) : Held w w'' (oL g c X av vh ov ow [obI v xs]) := by
  have := h.add (y := obI v xs) hu h1 hn
  unfold oL at this ⊢
  simpa using this
end
end
end Go.Proofs.Ytdomclcokkijjaa

/- The law ArenaCrowd: its walk. -/
namespace Go.Proofs.Ytdomclcokkijjaa
open Go.RowKit
attribute [local irreducible] Instr.loadAt Instr.storeAt Instr.fieldAt Instr.indexAt Instr.sliceAt Instr.buildSlice Instr.box Instr.alloc Builtin.append_ Builtin.len_ Builtin.min_ Builtin.max_ Calls Instr.build Instr.makeSlice binSem convert Instr.index Instr.range Instr.next
theorem pick_k (x : Int) {t : Nat} (ht : 0 < t) : ∃ k : Nat, (x.tmod t + t).tmod t = (k : Int) ∧ k < t ∧ -(t : Int) < x.tmod t ∧ x.tmod t < t := by
  have h1 := Int.tmod_lt_of_pos x (show (0 : Int) < t by omega)
  have h2 := Int.lt_tmod_of_pos x (show (0 : Int) < t by omega)
  have h3 := Int.tmod_nonneg (t : Int) (show 0 ≤ x.tmod t + t by omega)
  have h4 := Int.tmod_lt_of_pos (x.tmod t + t) (show (0 : Int) < t by omega)
  obtain ⟨k, hk⟩ := Int.eq_ofNat_of_zero_le h3
  exact ⟨k, hk, by omega, h2, h1⟩
theorem held_nils {w w' : World} {L : List Ob} (h : Held w w' L) : ∀ n, Held w w' (L ++ List.replicate n (obRow (.slice none 0 0, [])))
  | 0 => by simpa using h
  | n + 1 => by
    have := (held_nils h n).add (y := obRow (.slice none 0 0, [])) (Upd.refl _ _) (Sl.nil_ _ _ _) (by simp [obSl, Value.ownBlock])
    rw [List.append_assoc, ← List.replicate_succ'] at this
    exact this
/-- a list of counts: how often each thing is in L -/
structure Own (ow : List Int) (L : List Int) (n : Nat) : Prop where
  l : ow.length = n + 1
  at_ : ∀ x : Nat, x ≤ n → ow.getD x 0 = ((L.count (x : Int) : Nat) : Int)
theorem Own.inc {ow L : List Int} {n : Nat} (h : Own ow L n) {v : Nat} (hv : v ≤ n) : Own (ow.set v (ow.getD v 0 + 1)) (L ++ [(v : Int)]) n := by
  refine ⟨by rw [List.length_set]; exact h.l, fun x hx => ?_⟩
  have hl := h.l
  rw [List.count_append]
  have e : List.count (x : Int) [(v : Int)] = if (v : Int) == (x : Int) then 1 else 0 := by rw [List.count_cons]; simp
  rw [e]
  by_cases hxv : v = x
  · subst hxv
    rw [setD_self (by omega), h.at_ v hv, if_pos (by simp)]; omega
  · rw [getD_set hxv, h.at_ x hx, if_neg (by simp; omega)]; omega
/-- what holds ahead of each round -/
def CrI (w : World) (g : Nat) (c : Cf) (av : Value) (m t len : Nat) (vs : List Value) (w' : World) (mm : Nat) : Prop := ∃ (i nx : Nat) (X : Mc) (vh : List (Value × List Int)) (l tg : List Int), vs = [.int .i64 (nx : Int), .int .i64 (i : Int)] ∧ i ≤ len + 200 * t ∧ mm = len + 200 * t - i ∧ Cq w w' g c X av vh l tg m (200 + (i : Int)) ∧ (len ≤ i → Tl X.abs t len i)
theorem CrI.mk {w : World} {g : Nat} {c : Cf} {av : Value} {m t len : Nat} {w' w'' : World} {X : Mc} {vh : List (Value × List Int)} {l tg : List Int} {i nx : Nat} {b : Int} (hi : i + 1 ≤ len + 200 * t) (H : Held w w' (cqL g c X av vh)) (Q : Mq X c m (vh.map Prod.snd) l tg b) (hu : Upd [] w' w'') (hb : b ≤ 200 + ((i + 1 : Nat) : Int)) (hT : len ≤ i + 1 → Tl X.abs t len (i + 1)) : CrI w g c av m t len [.int .i64 (nx : Int), .int .i64 ((i + 1 : Nat) : Int)] w'' (len + 200 * t - (i + 1)) :=
  ⟨i + 1, nx, X, vh, l, tg, rfl, hi, rfl, ⟨H.upd0 hu, Q.up hb⟩, hT⟩
theorem top_any {w : World} {X : Mc} (h : Mach w X) {i : Nat} {t : Th} (hi : X.ths[i]? = some t) {f : Fr} (hfs : t.fs = [f]) : Fn Try.prog 18 #[ptrV t.g] w fun r w' => (∃ a, r = .pointer (some a)) ∧ Upd [] w w' := by
  obtain ⟨fb, fo, fc, hfv⟩ := h.fr_ hi (by rw [hfs]; simp)
  exact (top_mm (fs := []) h hi (by rw [hfs]; rfl) (by simp) hfv).mono fun _ _ ⟨r, he, h1, h2⟩ => ⟨r, he, ⟨_, h1⟩, by rw [h2]; exact (Upd.refl _ _).drew⟩
set_option maxRecDepth 100000 in
set_option maxHeartbeats 4000000 in
theorem crowd_law {c : Cf} {v1 v2 : Value} {gs ps : List Int} {w : World} (h1 : RdK w .i64 v1 gs) (h2 : RdK w .i64 v2 ps) : Fn Try.prog 8 #[.agg (cf7 c), v1, v2] w fun r w' => r = .bool true ∧ Upd [] w w' := by
  obtain ⟨ga, gc, rfl, hgl1, hgl2⟩ := h1.form
  have hgl : gs.length ≤ 9223372036854775807 := by simp only [maxLen] at hgl2; omega
  clear hgl1 hgl2
  obtain ⟨pa, pc, rfl, -⟩ := h2.form
  obtain ⟨A, T, N, L, B, P, S⟩ := c
  refine fn_enter Try.func8 rfl rfl ?_
  refine bx fun w1 hb1 hu1 hs1 => ?_
  have hb1 : Blk w1 w.heap.size 42 (cf7 ⟨A, T, N, L, B, P, S⟩) := hb1
  refine ldw hb1 rfl ?_
  refine cl (rright_c ⟨A, T, N, L, B, P, S⟩ w1) ?_
  rintro _ w2 ⟨rfl, hu2⟩
  have hU2 := hu1.trans hu2
  by_cases hr : rightC ⟨A, T, N, L, B, P, S⟩
  rotate_left
  · refine cY hr ?_
    refine cl (lives17 _) ?_
    rintro _ wx ⟨rfl, hux⟩
    exact ⟨rfl, hU2.trans hux⟩
  refine cN (fun h => h hr) ?_
  refine len_sl ?_
  by_cases q1 : (ps.length : Int) > 3000
  · refine cY q1 ?_
    refine cl (lives17 _) ?_
    rintro _ wx ⟨rfl, hux⟩
    exact ⟨rfl, hU2.trans hux⟩
  refine cN q1 ?_
  have hb2 := hb1.upd hu2 (by simp)
  refine ldw hb2 rfl ?_
  refine cl (cr0 hr w2) ?_
  rintro _ w3 ⟨X, rfl, H, Q, hall⟩
  refine ptr_eq ?_
  obtain ⟨b1, b2, b3, b4, b5, b6, -⟩ := plan_bd hr
  have S2 : Held w w2 [obBlk w.heap.size 42 (cf7 ⟨A, T, N, L, B, P, S⟩)] := ⟨Sep.cons (Sep.nil w2) hb2 (by simp [feet]), hU2, by simp [feet, obBlk]⟩
  have S3 := S2.add (y := obAll X.obs) H.up H.ok H.fr
  have hb3 := hb2.upd H.up (by simp)
  generalize hg : w.heap.size = g at *
  refine fa ?_
  refine ldb hb3 (v := .int .i64 T) rfl ?_
  obtain ⟨t, rfl⟩ := Int.eq_ofNat_of_zero_le (show 0 ≤ T by omega)
  obtain ⟨n, rfl⟩ := Int.eq_ofNat_of_zero_le (show 0 ≤ N by omega)
  refine mks (m := 1) t rfl rfl (by omega) (by omega) fun w4 hb4 hu4 hs4 => ?_
  rw [made_row1] at hb4
  have S4 := S3.add (y := obSl 22 1 (.slice (some ⟨w3.heap.size, 0, none⟩) t t) t (List.replicate t (.slice none 0 0))) hu4 (by
    show Sl w4 _ 1 _ t (List.replicate t _)
    have := Sl.lit (n := t) hb4 (by simp) (by simp only [maxLen]; omega)
    simpa using this) (by simp [obSl, Value.ownBlock])
  have S5 := held_nils S4 t
  generalize hav : Value.slice (some ⟨w3.heap.size, 0, none⟩) t t = av at *
  have J0 : Cq w w4 g ⟨A, (t : Int), (n : Int), L, B, P, S⟩ X av (List.replicate t (.slice none 0 0, [])) _ _ X.m 200 := ⟨by
    have e : cqL g ⟨A, (t : Int), (n : Int), L, B, P, S⟩ X av (List.replicate t (.slice none 0 0, [])) = [obBlk g 42 (cf7 ⟨A, (t : Int), (n : Int), L, B, P, S⟩), obAll X.obs, obSl 22 1 av t (List.replicate t (.slice none 0 0))] ++ List.replicate t (obRow (.slice none 0 0, [])) := by
      unfold cqL
      simp only [List.length_replicate, List.map_replicate]
    rw [e]; exact S5, by
    have e : (List.replicate t ((.slice none 0 0 : Value), ([] : List Int))).map Prod.snd = List.replicate (t : Int).toNat [] := by rw [List.map_replicate]; rfl
    rw [e]; exact Q⟩
  clear hav S5 S4 S3 S2 hb4
  have htl0 : X.abs.ths.length = t := by
    have := Q.tl
    have e : X.abs.ths.length = X.ths.length := List.length_map ..
    have : (X.ths.length : Int) = (t : Int) := this
    omega
  have hT0 := Tl.start (T := t) Q.cr htl0 (i0 := ps.length)
  generalize hm : X.m = m at *
  have hT6 : 1 ≤ t ∧ t ≤ 6 := by omega
  refine loop_rule [1, 2, 3, 7, 9] [10, 11] (CrI w g ⟨A, (t : Int), (n : Int), L, B, P, S⟩ av m t ps.length) rfl [.int .i64 0, .int .i64 0] (ps.length + 200 * t) rfl
    ⟨0, 0, X, _, _, _, rfl, by omega, rfl, J0, fun h => by rw [show ps.length = 0 by omega] at hT0 ⊢; exact hT0⟩ ?_
  clear J0 hT0 htl0 Q hall H hm X
  rintro _ w5 mm ⟨i, nx, X, vh, l, tg, rfl, hi, rfl, J, hTl⟩
  have hcf := cq_conf J.h
  refine len_sl ?_
  refine fa ?_
  refine ldb hcf (v := .int .i64 (t : Int)) rfl ?_
  refine ar64 (by omega) ?_
  refine ar64 (by omega) ?_
  refine cd (fun hlt => ?_) (fun hlt => ?_)
  · have hlt : i < ps.length + 200 * t := by omega
    refine fa ?_
    refine ldb hcf (v := .int .i64 (t : Int)) rfl ?_
    refine rm (by omega) ?_
    refine val ((i % t : Nat) : Int) (by rw [Int.tmod_eq_emod_of_nonneg (by omega)]; rfl) ?_
    refine len_sl ?_
    refine cond_cut [1, 2, 3, 7, 9, 10, 11] [12] (fun vs wx => ∃ kk : Nat, vs = [.int .i64 (kk : Int)] ∧ kk < t ∧ (ps.length ≤ i → kk = i % t) ∧ Upd [] w5 wx) rfl (fun hb => ?_) (fun hb => ?_) ?_
    · have hip : i < ps.length := by have := of_decide_eq_true hb; omega
      have h2' := h2.upd0 J.h.up
      obtain ⟨pb, po, pcc, hpe, -⟩ := h2'.some_ (by omega)
      cases hpe
      obtain ⟨kk, hkk, hkt, hk1, hk2⟩ := pick_k (ps.getD i 0) (show 0 < t by omega)
      refine draw_all (fun w' => w' = w5.drew) (by decide +kernel) rfl ?_
      refine q_ix i rfl hip ?_
      refine q_ld (v := .int .i64 (ps.getD i 0)) (by rintro _ rfl; exact h2'.at_ rfl i hip) ?_
      refine q_fa ?_
      refine rq (.int .i64 (t : Int)) (by rintro _ rfl; exact ldb hcf.drew rfl ⟨rfl, rfl⟩) ?_
      refine rq (.int .i64 ((ps.getD i 0).tmod (t : Int))) (fun _ _ => rm (by omega) (val _ rfl ⟨rfl, rfl⟩)) ?_
      refine q_fa ?_
      refine rq (.int .i64 (t : Int)) (by rintro _ rfl; exact ldb hcf.drew rfl ⟨rfl, rfl⟩) ?_
      refine q_ar64 (by omega) ?_
      refine q_fa ?_
      refine rq (.int .i64 (t : Int)) (by rintro _ rfl; exact ldb hcf.drew rfl ⟨rfl, rfl⟩) ?_
      refine rq (.int .i64 (kk : Int)) (fun _ _ => rm (by omega) (val _ hkk ⟨rfl, rfl⟩)) ?_
      rintro _ rfl
      exact cut_mk [.int .i64 (kk : Int)] rfl rfl ⟨kk, rfl, hkt, fun h => absurd h (by omega), (Upd.refl _ _).drew⟩
    · exact cut_mk [.int .i64 ((i % t : Nat) : Int)] rfl rfl ⟨i % t, rfl, Nat.mod_lt _ (by omega), fun _ => rfl, Upd.refl _ _⟩
    rintro _ w6 ⟨kk, rfl, hkt, hki, hu6⟩
    have J := J.upd0 hu6
    have hm := J.q.m
    obtain ⟨th, hth, hthA, ⟨hv, hx⟩, hvk⟩ := J.q.th (k := kk) (by show (kk : Int) < (t : Int); omega)
    have hthr := thread_mm (cq_mach J.h) hth J.q.tl100
    rw [hm] at hthr
    refine cl hthr ?_
    rintro _ _ ⟨rfl, rfl⟩
    refine ptr_eq ?_
    have htl : X.abs.ths.length = t := by
      have := J.q.tl
      have e : X.abs.ths.length = X.ths.length := List.length_map ..
      have : (X.ths.length : Int) = (t : Int) := this
      omega
    have hidle := J.q.cr.th kk _ hthA
    have hidle : th.fs = [] ∨ ∃ f, th.fs = [f] ∧ FrOk X.abs.c X.abs.W f := hidle
    rcases hidle with hfs | ⟨f, hfs, hfo⟩
    · refine cl (top_no (cq_mach J.h) hth hfs) ?_
      rintro _ _ ⟨rfl, rfl⟩
      refine ptr_eq0 ?_
      refine len_sl ?_
      refine cd (fun hip => ?_) (fun hip => ?_)
      · have hip : i < ps.length := by omega
        refine len_sl ?_
        refine cd (fun hnx => ?_) (fun hnx => ?_)
        · have hnx : nx < gs.length := by omega
          have h1' := h1.upd0 J.h.up
          obtain ⟨gb, go, gcc, hge, -⟩ := h1'.some_ (by omega)
          have hge0 := hge
          cases hge
          refine ix nx rfl hnx ?_
          refine ld (v := .int .i64 (gs.getD nx 0)) (h1'.at_ rfl nx hnx) ?_
          have hvl : kk < vh.length := (List.getElem?_eq_some_iff.1 hvk).1
          have hae0 := (cq_arr J.h).some_ (show 0 < vh.length by omega)
          obtain ⟨ab, ao, ac, hae, -⟩ := hae0
          have ha6 := cq_arr J.h
          have hcell := (ha6.cells hae (kk * 1) (by omega)).1
          rw [show (vh.map Prod.fst)[kk * 1]? = some hv by simp [hvk]] at hcell
          have hr6 := cq_row J.h hvk
          have hxl : hx.length ≤ 64 := J.q.cr.rowlen (List.mem_map.2 ⟨_, List.mem_of_getElem? hvk, rfl⟩)
          refine cd (fun hpos => ?_) (fun hpos => ?_)
          · rw [hae]
            refine ix kk rfl hvl ?_
            refine ld hcell ?_
            obtain ⟨ra, rc, hre, -⟩ := hr6.form
            rw [hre]
            refine len_sl ?_
            refine cd (fun hl0 => ?_) (fun hl0 => ?_)
            · have hl0 : 0 < hx.length := by omega
              obtain ⟨rb, ro, rc2, hre2, hrc2⟩ := hr6.some_ hl0
              rw [hre] at hre2
              cases hre2
              obtain ⟨y, r, rfl⟩ : ∃ y r, hx = y :: r := by
                cases hx with
                | nil => exact absurd hl0 (Nat.lt_irrefl 0)
                | cons y r => exact ⟨y, r, rfl⟩
              refine ix kk rfl hvl ?_
              refine ld hcell ?_
              rw [hre]
              refine ix 0 rfl (by omega) ?_
              refine ld (v := .int .i64 y) ((hr6.getD_ hre 0 hl0).trans rfl) ?_
              refine ix kk rfl hvl ?_
              refine ld hcell ?_
              rw [hre]
              refine sl_lo 1 rfl (by omega) ?_
              have hlo : Sl _ 3 1 _ _ _ := Sl.lo1 (by rw [← hre]; exact hr6) (by omega) hrc2
              generalize hnv : (Value.slice (if rc = 1 then some ⟨rb, ro, none⟩ else (some ⟨rb, ro, none⟩ : Option Addr).map (·.add (1 * 1))) ((y :: r).length - 1) (rc - 1)) = nv at *
              have hown : nv.ownBlock.toList = hv.ownBlock.toList := by rw [← hnv, own_lo1, hre]; rfl
              have H7 := cq_set1 J.h hvk (v' := nv) (xs' := r) hlo (by rw [hown]; exact To.refl _ _)
              refine ix kk rfl hvl ?_
              refine stS (cq_arr1 H7) hae hvl (by rw [← hnv]; rfl) fun w8 hs8 hu8 hsz8 => ?_
              have H8 := cq_set2 H7 hs8 (by rw [hae]; exact hu8)
              rw [← hae]
              have hgo := gone_p (cq_mach H8) J.q.good y
              rw [hm] at hgo
              refine cl hgo ?_
              rintro _ w9 ⟨Y, p9, k9, a9, t9⟩
              have H9 := cq_post H8 p9
              have hym : y ∈ (vh.map Prod.snd).flatten := List.mem_flatten.2 ⟨_, List.mem_map.2 ⟨_, List.mem_of_getElem? hvk, rfl⟩, List.mem_cons_self⟩
              have hyr := J.q.cr.rg (.inr (.inl hym))
              have hfac := J.q.cr.facts
              have hyN : y ≤ X.abs.c.N ∧ X.abs.c.N ≤ 64 ∧ 1 ≤ y := ⟨hyr.2, hfac.2.2.2.2.1.2, by have := hfac.2.2.2.2.2; omega⟩
              have htlg := J.q.cr.tl
              rw [deed_eq J.q.cr.gh ⟨hyN.2.2, by omega⟩ (J.q.cr.t1 y hym)] at a9
              have hyw : IntKind.u64.wrap y = y := by rw [IntKind.wrap_u64]; omega
              have hth9 : Y.ths[kk]? = some th := by rw [t9]; exact hth
              refine cv ?_
              refine val y hyw ?_
              refine bs #[.int .u64 y] (fun _ => by kernel_rfl) fun w10 hb10 hu10 hs10 => ?_
              have H10 := H9.upd0 hu10
              refine cl (push_mm (cq_mach H10) hth9 (by rw [hfs]; simp) (one_rd hb10) (by simp) 2) ?_
              rintro _ w7 ⟨fv, p7⟩
              have H11 := cq_post H10 p7
              have eY : ({ Y with ths := Y.ths.set kk { th with fv := fv, fs := th.fs ++ [⟨2, 0, [y]⟩] } } : Mc).abs = ({ X.abs with gh := some (tg.set (y - 1).toNat 2, 0, 0) } : PS).put kk { absT th with fs := [⟨2, 0, [y]⟩] } := by
                rw [abs_set, hfs, a9]; rfl
              have Q7 : Mq { Y with ths := Y.ths.set kk { th with fv := fv, fs := th.fs ++ [⟨2, 0, [y]⟩] } } ⟨A, (t : Int), (n : Int), L, B, P, S⟩ m ((vh.set kk (nv, r)).map Prod.snd) l (tg.set (y - 1).toNat 2) (200 + (i : Int)) := by
                have C := J.q.cr.push2 (k := kk) hthA hfs (x := y) (r := r) (by simp [hvk])
                rw [← eY] at C
                refine ⟨by rw [List.map_set]; exact C, k9.calm J.q.calm, by rw [← hm]; exact k9.m, by rw [eY]; exact J.q.cc, ?_, by rw [eY]; exact J.q.ver⟩
                show ((Y.ths.set _ _).length : Int) = _
                rw [List.length_set, t9]; exact J.q.tl
              have hvk9 : (vh.set kk (nv, r))[kk]? = some (nv, r) := by simp [hvl]
              have htl7 : ({ Y with ths := Y.ths.set kk { th with fv := fv, fs := th.fs ++ [⟨2, 0, [y]⟩] } } : Mc).abs.ths.length = t := by
                rw [eY]; show (X.abs.ths.set _ _).length = t; rw [List.length_set]; exact htl
              have hth7 : ({ Y with ths := Y.ths.set kk { th with fv := fv, fs := th.fs ++ [⟨2, 0, [y]⟩] } } : Mc).ths[kk]? = some { th with fv := fv, fs := th.fs ++ [⟨2, 0, [y]⟩] } := set_at (t' := { th with fv := fv, fs := th.fs ++ [⟨2, 0, [y]⟩] }) hth9
              have hfs7 : ({ th with fv := fv, fs := th.fs ++ [⟨2, 0, [y]⟩] } : Th).fs = [⟨2, 0, [y]⟩] := by rw [hfs]; rfl
              have hg7 : th.g = ({ th with fv := fv, fs := th.fs ++ [⟨2, 0, [y]⟩] } : Th).g := rfl
              refine ar64 (by omega) ?_
              have hnx1 : (nx : Int) + 1 = ((nx + 1 : Nat) : Int) := by omega
              rw [hnx1]
              have hT7 : ps.length ≤ i → Tl ({ Y with ths := Y.ths.set kk { th with fv := fv, fs := th.fs ++ [⟨2, 0, [y]⟩] } } : Mc).abs t ps.length i := fun h => absurd h (by omega)
              generalize hth' : ({ th with fv := fv, fs := th.fs ++ [⟨2, 0, [y]⟩] } : Th) = th' at *
              generalize hX' : ({ Y with ths := Y.ths.set kk th' } : Mc) = X' at *
              rw [hg7]
              generalize hf7 : (⟨2, 0, [y]⟩ : Fr) = f at *
              generalize hvh' : vh.set kk (nv, r) = vh' at *
              generalize htg' : tg.set (y - 1).toNat 2 = tg' at *
              have J7 : Cq w w7 g _ _ av vh' l tg' m (200 + (i : Int)) := ⟨H11, Q7⟩
              have hvk := hvk9
              have hf2 : f.fn = 2 := by rw [← hf7]
              clear hvk9 eY a9 t9 k9 p9 p7 H7 H8 H9 H10 H11 Q7 hgo hym hyr hfac hyN htlg hyw hth9 hb10 hu10 hs10 hs8 hu8 hsz8 hown hnv hlo hre hcell ha6 hae hr6 hvl hxl hvh' hX' hth' htg' hf7 J
              obtain ⟨fb, fo, fc, hfv⟩ := (cq_mach (J7).h).fr_ hth7 (by rw [hfs7]; simp)
              refine cl (top_mm (fs := []) (cq_mach (J7).h) hth7 (by rw [hfs7]; rfl) (by simp) hfv) ?_
              rintro _ _ ⟨rfl, rfl⟩
              refine ptr_eq ?_
              have Jd := (J7).upd0 (Upd.refl [] _).drew
              have htop := (cq_mach Jd.h).top hth7 (fs := []) (by rw [hfs7]; rfl) hfv 0 (by omega)
              have hfo := Jd.q.cr.fr (abs_th _ hth7) hfs7
              have hf12 : f.fn = 1 ∨ f.fn = 2 := by rcases hfo.2 with ⟨e, -⟩ | ⟨e, -⟩ <;> simp [e]
              refine fa ?_
              refine ld (v := .int .i64 2) (by rw [← hf2]; exact htop) ?_
              refine cl (cq_step Jd.h Jd.q hth7 hfs7 (by omega)) ?_
              rintro _ w8 ⟨Y, t', hs', l', tg', H8, Q8, D, hY, hg8, hcase⟩
              have hT8 : ps.length ≤ i + 1 → Tl Y.abs t ps.length (i + 1) := fun h => by
                by_cases h2 : ps.length ≤ i
                · have hk := hki h2
                  subst hk
                  exact (hT7 h2).step Jd.q.cr hT6 htl7 (abs_th _ hth7) hfs7 D
                · have h3 : ps.length = i + 1 := by omega
                  have h4 : Y.abs.ths.length = t := by
                    have h5 := Q8.tl
                    have e : Y.abs.ths.length = Y.ths.length := List.length_map ..
                    have h5 : (Y.ths.length : Int) = (t : Int) := h5
                    omega
                  rw [h3]; exact Tl.start Q8.cr h4
              rcases hcase with ⟨rfl, -, rfl⟩ | ⟨rfl, hf8, hn1, x, hxr, hxb, h1x⟩
              · have hfl := fault_mm (cq_mach H8)
                rw [(Q8).m, (Q8).bad0.1, (Q8).bad0.2] at hfl
                refine cl hfl ?_
                rintro _ wf ⟨rfl, huf⟩
                refine ar64 (by omega) ?_
                exact round_mk [.int .i64 (((nx + 1) : Nat) : Int), .int .i64 ((i + 1 : Nat) : Int)] (ps.length + 200 * t - (i + 1)) rfl rfl (CrI.mk (nx := (nx + 1)) (by omega) H8 Q8 huf (by omega) hT8) (by omega)
              · rw [hn1 (by omega)] at Q8
                have hfl := fault_mm (cq_mach H8)
                rw [(Q8).m, (Q8).bad0.1, (Q8).bad0.2] at hfl
                refine cl hfl ?_
                rintro _ wf ⟨rfl, huf⟩
                refine ar64 (by omega) ?_
                exact round_mk [.int .i64 (((nx + 1) : Nat) : Int), .int .i64 ((i + 1 : Nat) : Int)] (ps.length + 200 * t - (i + 1)) rfl rfl (CrI.mk (nx := (nx + 1)) (by omega) H8 Q8 huf (by omega) hT8) (by omega)
            · rw [← hae]
              refine cl (push_mm (cq_mach J.h) hth (by rw [hfs]; simp) (RdK.nil_ _ .u64) (by simp) 1) ?_
              rintro _ w7 ⟨fv, p7⟩
              have H7 := cq_post J.h p7
              have Q7 : Mq { X with ths := X.ths.set kk { th with fv := fv, fs := th.fs ++ [⟨1, 0, []⟩] } } ⟨A, (t : Int), (n : Int), L, B, P, S⟩ m (vh.map Prod.snd) l tg (200 + (i : Int)) := by
                have e : ({ X with ths := X.ths.set kk { th with fv := fv, fs := th.fs ++ [⟨1, 0, []⟩] } } : Mc).abs = X.abs.put kk { absT th with fs := [⟨1, 0, []⟩] } := by
                  rw [abs_set, hfs]; rfl
                have C := J.q.cr.push1 (k := kk) hthA hfs
                rw [← e] at C
                exact ⟨C, J.q.calm, hm, J.q.cc, by show ((X.ths.set _ _).length : Int) = _; rw [List.length_set]; exact J.q.tl, J.q.ver⟩
              have J7 : Cq w w7 g _ _ av vh l tg m (200 + (i : Int)) := ⟨H7, Q7⟩
              have hth7 : ({ X with ths := X.ths.set kk { th with fv := fv, fs := th.fs ++ [⟨1, 0, []⟩] } } : Mc).ths[kk]? = some { th with fv := fv, fs := th.fs ++ [⟨1, 0, []⟩] } := set_at (t' := { th with fv := fv, fs := th.fs ++ [⟨1, 0, []⟩] }) hth
              refine ar64 (by omega) ?_
              have hfs7 : ({ th with fv := fv, fs := th.fs ++ [⟨1, 0, []⟩] } : Th).fs = [⟨1, 0, []⟩] := by rw [hfs]; rfl
              have htl7 : ({ X with ths := X.ths.set kk { th with fv := fv, fs := th.fs ++ [⟨1, 0, []⟩] } } : Mc).abs.ths.length = t := by
                rw [abs_set]; show (X.abs.ths.set _ _).length = t; rw [List.length_set]; exact htl
              have hg7 : th.g = ({ th with fv := fv, fs := th.fs ++ [⟨1, 0, []⟩] } : Th).g := rfl
              have hT7 : ps.length ≤ i → Tl ({ X with ths := X.ths.set kk { th with fv := fv, fs := th.fs ++ [⟨1, 0, []⟩] } } : Mc).abs t ps.length i := fun h => absurd h (by omega)
              have hnx1 : (nx : Int) + 1 = ((nx + 1 : Nat) : Int) := by omega
              rw [hnx1]
              generalize hth' : ({ th with fv := fv, fs := th.fs ++ [⟨1, 0, []⟩] } : Th) = th' at *
              generalize hX' : ({ X with ths := X.ths.set kk th' } : Mc) = X' at *
              rw [hg7]
              generalize hf7 : (⟨1, 0, []⟩ : Fr) = f at *
              have hf1 : f.fn = 1 := by rw [← hf7]
              obtain ⟨fb, fo, fc, hfv⟩ := (cq_mach (J7).h).fr_ hth7 (by rw [hfs7]; simp)
              refine cl (top_mm (fs := []) (cq_mach (J7).h) hth7 (by rw [hfs7]; rfl) (by simp) hfv) ?_
              rintro _ _ ⟨rfl, rfl⟩
              refine ptr_eq ?_
              have Jd := (J7).upd0 (Upd.refl [] _).drew
              have htop := (cq_mach Jd.h).top hth7 (fs := []) (by rw [hfs7]; rfl) hfv 0 (by omega)
              have hfo := Jd.q.cr.fr (abs_th _ hth7) hfs7
              have hf12 : f.fn = 1 ∨ f.fn = 2 := by rcases hfo.2 with ⟨e, -⟩ | ⟨e, -⟩ <;> simp [e]
              refine fa ?_
              refine ld (v := .int .i64 1) (by rw [← hf1]; exact htop) ?_
              refine cl (cq_step Jd.h Jd.q hth7 hfs7 (by omega)) ?_
              rintro _ w8 ⟨Y, t', hs', l', tg', H8, Q8, D, hY, hg8, hcase⟩
              have hT8 : ps.length ≤ i + 1 → Tl Y.abs t ps.length (i + 1) := fun h => by
                by_cases h2 : ps.length ≤ i
                · have hk := hki h2
                  subst hk
                  exact (hT7 h2).step Jd.q.cr hT6 htl7 (abs_th _ hth7) hfs7 D
                · have h3 : ps.length = i + 1 := by omega
                  have h4 : Y.abs.ths.length = t := by
                    have h5 := Q8.tl
                    have e : Y.abs.ths.length = Y.ths.length := List.length_map ..
                    have h5 : (Y.ths.length : Int) = (t : Int) := h5
                    omega
                  rw [h3]; exact Tl.start Q8.cr h4
              rcases hcase with ⟨rfl, -, rfl⟩ | ⟨rfl, hf8, hn1, x, hxr, hxb, h1x⟩
              · have hfl := fault_mm (cq_mach H8)
                rw [(Q8).m, (Q8).bad0.1, (Q8).bad0.2] at hfl
                refine cl hfl ?_
                rintro _ wf ⟨rfl, huf⟩
                refine ar64 (by omega) ?_
                exact round_mk [.int .i64 (((nx + 1) : Nat) : Int), .int .i64 ((i + 1 : Nat) : Int)] (ps.length + 200 * t - (i + 1)) rfl rfl (CrI.mk (nx := (nx + 1)) (by omega) H8 Q8 huf (by omega) hT8) (by omega)
              · rw [← hg8]
                have hblk := ((cq_mach H8).core hY).blk
                rw [hxr] at hblk
                refine fa ?_
                refine ixA 0 rfl (by omega) ?_
                refine ldb hblk (v := .int .u64 x) rfl ?_
                rcases h1x hf1 with ⟨hx0, rfl⟩ | ⟨hx0, rfl⟩
                · subst hx0
                  have hfl := fault_mm (cq_mach H8)
                  rw [(Q8).m, (Q8).bad0.1, (Q8).bad0.2] at hfl
                  refine cl hfl ?_
                  rintro _ wf ⟨rfl, huf⟩
                  refine ar64 (by omega) ?_
                  exact round_mk [.int .i64 (((nx + 1) : Nat) : Int), .int .i64 ((i + 1 : Nat) : Int)] (ps.length + 200 * t - (i + 1)) rfl rfl (CrI.mk (nx := (nx + 1)) (by omega) H8 Q8 huf (by omega) hT8) (by omega)
                · refine cY hx0 ?_
                  have hvl : kk < (vh).length := (List.getElem?_eq_some_iff.1 hvk).1
                  have hxr0 := cq_row H8 hvk
                  have ha8 := cq_arr H8
                  obtain ⟨ab, ao, ac, hae, -⟩ := ha8.some_ (show 0 < (vh).length by omega)
                  have hxl : (hx).length ≤ 64 := Jd.q.cr.rowlen (List.mem_map.2 ⟨_, List.mem_of_getElem? hvk, rfl⟩)
                  have hxb : 0 ≤ x ∧ x ≤ (n : Int) := hxb
                  have hxI : IntKind.i64.wrap x = x := toI_small (by omega)
                  rw [hae]
                  refine draw_mix 14 [(0, true), (1, true), (2, true), (3, true), (4, true), (5, true), (6, true), (7, true), (8, true), (9, true), (10, true), (11, true), (12, false), (13, false)] (fun wx => Sl wx 22 1 (.slice (some ⟨ab, ao, none⟩) (vh).length ac) (vh).length ((vh).map Prod.fst) ∧ Blk wx t'.g TT (thrC (kk : Int) t'.fv (x, 0, 0) t'.pv t'.sv t'.wv t'.rv t'.ov)) (by decide +kernel) ⟨by rw [← hae]; exact ha8, hblk⟩ ?_
                  refine q_ix kk rfl hvl ?_
                  refine q_ld (v := hv) (fun wx hwx => by
                    rw [(hwx.1.cells rfl (kk * 1) (by omega)).1]
                    simp [hvk]) ?_
                  refine q_fa ?_
                  refine q_ixA 0 rfl (by omega) ?_
                  refine rq (.int .u64 x) (fun wx hwx => ldb hwx.2 rfl ⟨rfl, rfl⟩) ?_
                  refine rq (.int .i64 x) (fun wx hwx => cv (val x hxI ⟨rfl, rfl⟩)) ?_
                  refine bs #[.int .i64 x] (fun _ => by kernel_rfl) fun w9 hb9 hu9 hs9 => ?_
                  have hu9' := (Upd.refl [] w8).drew.trans hu9
                  have H9 := H8.upd0 hu9'
                  refine ⟨⟨by rw [← hae]; exact cq_arr H9, hblk.upd hu9' (by simp)⟩, ?_⟩
                  refine apg (cq_row H9 hvk) hb9 rfl rfl (by decide) (by simp only [maxLen]; omega) (by omega) fun v2 w10 hs10 hG10 => ?_
                  have H10 := cq_set1 H9 hvk (v' := v2) (xs' := hx ++ [x]) (by
                    rw [List.length_append, List.map_append]
                    exact hs10) (Upd.own hG10)
                  have hblk10 := ((cq_mach1 H10).core hY).blk
                  rw [hxr] at hblk10
                  have ha10 := cq_arr1 H10
                  refine ⟨⟨by rw [← hae]; exact ha10, hblk10⟩, ?_⟩
                  refine ix kk rfl hvl ?_
                  refine stS ha10 hae hvl (by obtain ⟨_, _, rfl, -⟩ := hs10.form; rfl) fun w11 hs11 hu11 hsz11 => ?_
                  have H11 := cq_set2 H10 hs11 (by rw [hae]; exact hu11)
                  have Q11 : Mq Y ⟨A, (t : Int), (n : Int), L, B, P, S⟩ m (((vh).set kk (v2, hx ++ [x])).map Prod.snd) l' tg' (200 + (i : Int) + 1) := by
                    rw [List.map_set]
                    have e : ((vh).map Prod.snd).getD kk [] = hx := by simp [List.getD, hvk]
                    rw [e] at Q8
                    exact Q8
                  rw [← hae]
                  have hfl := fault_mm (cq_mach H11)
                  rw [(Q11).m, (Q11).bad0.1, (Q11).bad0.2] at hfl
                  refine cl hfl ?_
                  rintro _ wf ⟨rfl, huf⟩
                  refine ar64 (by omega) ?_
                  exact round_mk [.int .i64 (((nx + 1) : Nat) : Int), .int .i64 ((i + 1 : Nat) : Int)] (ps.length + 200 * t - (i + 1)) rfl rfl (CrI.mk (nx := (nx + 1)) (by omega) H11 Q11 huf (by omega) hT8) (by omega)
          · refine cl (push_mm (cq_mach J.h) hth (by rw [hfs]; simp) (RdK.nil_ _ .u64) (by simp) 1) ?_
            rintro _ w7 ⟨fv, p7⟩
            have H7 := cq_post J.h p7
            have Q7 : Mq { X with ths := X.ths.set kk { th with fv := fv, fs := th.fs ++ [⟨1, 0, []⟩] } } ⟨A, (t : Int), (n : Int), L, B, P, S⟩ m (vh.map Prod.snd) l tg (200 + (i : Int)) := by
              have e : ({ X with ths := X.ths.set kk { th with fv := fv, fs := th.fs ++ [⟨1, 0, []⟩] } } : Mc).abs = X.abs.put kk { absT th with fs := [⟨1, 0, []⟩] } := by
                rw [abs_set, hfs]; rfl
              have C := J.q.cr.push1 (k := kk) hthA hfs
              rw [← e] at C
              exact ⟨C, J.q.calm, hm, J.q.cc, by show ((X.ths.set _ _).length : Int) = _; rw [List.length_set]; exact J.q.tl, J.q.ver⟩
            have J7 : Cq w w7 g _ _ av vh l tg m (200 + (i : Int)) := ⟨H7, Q7⟩
            have hth7 : ({ X with ths := X.ths.set kk { th with fv := fv, fs := th.fs ++ [⟨1, 0, []⟩] } } : Mc).ths[kk]? = some { th with fv := fv, fs := th.fs ++ [⟨1, 0, []⟩] } := set_at (t' := { th with fv := fv, fs := th.fs ++ [⟨1, 0, []⟩] }) hth
            refine ar64 (by omega) ?_
            have hfs7 : ({ th with fv := fv, fs := th.fs ++ [⟨1, 0, []⟩] } : Th).fs = [⟨1, 0, []⟩] := by rw [hfs]; rfl
            have htl7 : ({ X with ths := X.ths.set kk { th with fv := fv, fs := th.fs ++ [⟨1, 0, []⟩] } } : Mc).abs.ths.length = t := by
              rw [abs_set]; show (X.abs.ths.set _ _).length = t; rw [List.length_set]; exact htl
            have hg7 : th.g = ({ th with fv := fv, fs := th.fs ++ [⟨1, 0, []⟩] } : Th).g := rfl
            have hT7 : ps.length ≤ i → Tl ({ X with ths := X.ths.set kk { th with fv := fv, fs := th.fs ++ [⟨1, 0, []⟩] } } : Mc).abs t ps.length i := fun h => absurd h (by omega)
            have hnx1 : (nx : Int) + 1 = ((nx + 1 : Nat) : Int) := by omega
            rw [hnx1]
            generalize hth' : ({ th with fv := fv, fs := th.fs ++ [⟨1, 0, []⟩] } : Th) = th' at *
            generalize hX' : ({ X with ths := X.ths.set kk th' } : Mc) = X' at *
            rw [hg7]
            generalize hf7 : (⟨1, 0, []⟩ : Fr) = f at *
            have hf1 : f.fn = 1 := by rw [← hf7]
            obtain ⟨fb, fo, fc, hfv⟩ := (cq_mach (J7).h).fr_ hth7 (by rw [hfs7]; simp)
            refine cl (top_mm (fs := []) (cq_mach (J7).h) hth7 (by rw [hfs7]; rfl) (by simp) hfv) ?_
            rintro _ _ ⟨rfl, rfl⟩
            refine ptr_eq ?_
            have Jd := (J7).upd0 (Upd.refl [] _).drew
            have htop := (cq_mach Jd.h).top hth7 (fs := []) (by rw [hfs7]; rfl) hfv 0 (by omega)
            have hfo := Jd.q.cr.fr (abs_th _ hth7) hfs7
            have hf12 : f.fn = 1 ∨ f.fn = 2 := by rcases hfo.2 with ⟨e, -⟩ | ⟨e, -⟩ <;> simp [e]
            refine fa ?_
            refine ld (v := .int .i64 1) (by rw [← hf1]; exact htop) ?_
            refine cl (cq_step Jd.h Jd.q hth7 hfs7 (by omega)) ?_
            rintro _ w8 ⟨Y, t', hs', l', tg', H8, Q8, D, hY, hg8, hcase⟩
            have hT8 : ps.length ≤ i + 1 → Tl Y.abs t ps.length (i + 1) := fun h => by
              by_cases h2 : ps.length ≤ i
              · have hk := hki h2
                subst hk
                exact (hT7 h2).step Jd.q.cr hT6 htl7 (abs_th _ hth7) hfs7 D
              · have h3 : ps.length = i + 1 := by omega
                have h4 : Y.abs.ths.length = t := by
                  have h5 := Q8.tl
                  have e : Y.abs.ths.length = Y.ths.length := List.length_map ..
                  have h5 : (Y.ths.length : Int) = (t : Int) := h5
                  omega
                rw [h3]; exact Tl.start Q8.cr h4
            rcases hcase with ⟨rfl, -, rfl⟩ | ⟨rfl, hf8, hn1, x, hxr, hxb, h1x⟩
            · have hfl := fault_mm (cq_mach H8)
              rw [(Q8).m, (Q8).bad0.1, (Q8).bad0.2] at hfl
              refine cl hfl ?_
              rintro _ wf ⟨rfl, huf⟩
              refine ar64 (by omega) ?_
              exact round_mk [.int .i64 (((nx + 1) : Nat) : Int), .int .i64 ((i + 1 : Nat) : Int)] (ps.length + 200 * t - (i + 1)) rfl rfl (CrI.mk (nx := (nx + 1)) (by omega) H8 Q8 huf (by omega) hT8) (by omega)
            · rw [← hg8]
              have hblk := ((cq_mach H8).core hY).blk
              rw [hxr] at hblk
              refine fa ?_
              refine ixA 0 rfl (by omega) ?_
              refine ldb hblk (v := .int .u64 x) rfl ?_
              rcases h1x hf1 with ⟨hx0, rfl⟩ | ⟨hx0, rfl⟩
              · subst hx0
                have hfl := fault_mm (cq_mach H8)
                rw [(Q8).m, (Q8).bad0.1, (Q8).bad0.2] at hfl
                refine cl hfl ?_
                rintro _ wf ⟨rfl, huf⟩
                refine ar64 (by omega) ?_
                exact round_mk [.int .i64 (((nx + 1) : Nat) : Int), .int .i64 ((i + 1 : Nat) : Int)] (ps.length + 200 * t - (i + 1)) rfl rfl (CrI.mk (nx := (nx + 1)) (by omega) H8 Q8 huf (by omega) hT8) (by omega)
              · refine cY hx0 ?_
                have hvl : kk < (vh).length := (List.getElem?_eq_some_iff.1 hvk).1
                have hxr0 := cq_row H8 hvk
                have ha8 := cq_arr H8
                obtain ⟨ab, ao, ac, hae, -⟩ := ha8.some_ (show 0 < (vh).length by omega)
                have hxl : (hx).length ≤ 64 := Jd.q.cr.rowlen (List.mem_map.2 ⟨_, List.mem_of_getElem? hvk, rfl⟩)
                have hxb : 0 ≤ x ∧ x ≤ (n : Int) := hxb
                have hxI : IntKind.i64.wrap x = x := toI_small (by omega)
                rw [hae]
                refine draw_mix 14 [(0, true), (1, true), (2, true), (3, true), (4, true), (5, true), (6, true), (7, true), (8, true), (9, true), (10, true), (11, true), (12, false), (13, false)] (fun wx => Sl wx 22 1 (.slice (some ⟨ab, ao, none⟩) (vh).length ac) (vh).length ((vh).map Prod.fst) ∧ Blk wx t'.g TT (thrC (kk : Int) t'.fv (x, 0, 0) t'.pv t'.sv t'.wv t'.rv t'.ov)) (by decide +kernel) ⟨by rw [← hae]; exact ha8, hblk⟩ ?_
                refine q_ix kk rfl hvl ?_
                refine q_ld (v := hv) (fun wx hwx => by
                  rw [(hwx.1.cells rfl (kk * 1) (by omega)).1]
                  simp [hvk]) ?_
                refine q_fa ?_
                refine q_ixA 0 rfl (by omega) ?_
                refine rq (.int .u64 x) (fun wx hwx => ldb hwx.2 rfl ⟨rfl, rfl⟩) ?_
                refine rq (.int .i64 x) (fun wx hwx => cv (val x hxI ⟨rfl, rfl⟩)) ?_
                refine bs #[.int .i64 x] (fun _ => by kernel_rfl) fun w9 hb9 hu9 hs9 => ?_
                have hu9' := (Upd.refl [] w8).drew.trans hu9
                have H9 := H8.upd0 hu9'
                refine ⟨⟨by rw [← hae]; exact cq_arr H9, hblk.upd hu9' (by simp)⟩, ?_⟩
                refine apg (cq_row H9 hvk) hb9 rfl rfl (by decide) (by simp only [maxLen]; omega) (by omega) fun v2 w10 hs10 hG10 => ?_
                have H10 := cq_set1 H9 hvk (v' := v2) (xs' := hx ++ [x]) (by
                  rw [List.length_append, List.map_append]
                  exact hs10) (Upd.own hG10)
                have hblk10 := ((cq_mach1 H10).core hY).blk
                rw [hxr] at hblk10
                have ha10 := cq_arr1 H10
                refine ⟨⟨by rw [← hae]; exact ha10, hblk10⟩, ?_⟩
                refine ix kk rfl hvl ?_
                refine stS ha10 hae hvl (by obtain ⟨_, _, rfl, -⟩ := hs10.form; rfl) fun w11 hs11 hu11 hsz11 => ?_
                have H11 := cq_set2 H10 hs11 (by rw [hae]; exact hu11)
                have Q11 : Mq Y ⟨A, (t : Int), (n : Int), L, B, P, S⟩ m (((vh).set kk (v2, hx ++ [x])).map Prod.snd) l' tg' (200 + (i : Int) + 1) := by
                  rw [List.map_set]
                  have e : ((vh).map Prod.snd).getD kk [] = hx := by simp [List.getD, hvk]
                  rw [e] at Q8
                  exact Q8
                rw [← hae]
                have hfl := fault_mm (cq_mach H11)
                rw [(Q11).m, (Q11).bad0.1, (Q11).bad0.2] at hfl
                refine cl hfl ?_
                rintro _ wf ⟨rfl, huf⟩
                refine ar64 (by omega) ?_
                exact round_mk [.int .i64 (((nx + 1) : Nat) : Int), .int .i64 ((i + 1 : Nat) : Int)] (ps.length + 200 * t - (i + 1)) rfl rfl (CrI.mk (nx := (nx + 1)) (by omega) H11 Q11 huf (by omega) hT8) (by omega)
        · refine cl (top_no (cq_mach J.h) hth hfs) ?_
          rintro _ _ ⟨rfl, rfl⟩
          refine ptr_eq0 ?_
          refine ar64 (by omega) ?_
          exact round_mk [.int .i64 (nx : Int), .int .i64 ((i + 1 : Nat) : Int)] (ps.length + 200 * t - (i + 1)) rfl rfl (CrI.mk (nx := nx) (by omega) J.h J.q (Upd.refl _ _) (by omega) fun h => by
            by_cases h2 : ps.length ≤ i
            · have hk := hki h2
              subst hk
              exact (hTl h2).idle hT6 htl hthA hfs
            · have h3 : ps.length = i + 1 := by omega
              rw [h3]; exact Tl.start J.q.cr htl) (by omega)
      · refine cl (top_no (cq_mach J.h) hth hfs) ?_
        rintro _ _ ⟨rfl, rfl⟩
        refine ptr_eq0 ?_
        refine ar64 (by omega) ?_
        exact round_mk [.int .i64 (nx : Int), .int .i64 ((i + 1 : Nat) : Int)] (ps.length + 200 * t - (i + 1)) rfl rfl (CrI.mk (nx := nx) (by omega) J.h J.q (Upd.refl _ _) (by omega) fun h => by
          by_cases h2 : ps.length ≤ i
          · have hk := hki h2
            subst hk
            exact (hTl h2).idle hT6 htl hthA hfs
          · have h3 : ps.length = i + 1 := by omega
            rw [h3]; exact Tl.start J.q.cr htl) (by omega)
    · refine cl (top_any (cq_mach J.h) hth hfs) ?_
      rintro _ wq ⟨⟨aq, rfl⟩, huq⟩
      refine ptr_eq ?_
      have J := J.upd0 huq
      obtain ⟨fb, fo, fc, hfv⟩ := (cq_mach (J).h).fr_ hth (by rw [hfs]; simp)
      refine cl (top_mm (fs := []) (cq_mach (J).h) hth (by rw [hfs]; rfl) (by simp) hfv) ?_
      rintro _ _ ⟨rfl, rfl⟩
      refine ptr_eq ?_
      have Jd := (J).upd0 (Upd.refl [] _).drew
      have htop := (cq_mach Jd.h).top hth (fs := []) (by rw [hfs]; rfl) hfv 0 (by omega)
      have hfo := Jd.q.cr.fr (abs_th _ hth) hfs
      have hf12 : f.fn = 1 ∨ f.fn = 2 := by rcases hfo.2 with ⟨e, -⟩ | ⟨e, -⟩ <;> simp [e]
      rcases hf12 with hf1 | hf2
      · refine fa ?_
        refine ld (v := .int .i64 1) (by rw [← hf1]; exact htop) ?_
        refine cl (cq_step Jd.h Jd.q hth hfs (by omega)) ?_
        rintro _ w8 ⟨Y, t', hs', l', tg', H8, Q8, D, hY, hg8, hcase⟩
        have hT8 : ps.length ≤ i + 1 → Tl Y.abs t ps.length (i + 1) := fun h => by
          by_cases h2 : ps.length ≤ i
          · have hk := hki h2
            subst hk
            exact (hTl h2).step Jd.q.cr hT6 htl (abs_th _ hth) hfs D
          · have h3 : ps.length = i + 1 := by omega
            have h4 : Y.abs.ths.length = t := by
              have h5 := Q8.tl
              have e : Y.abs.ths.length = Y.ths.length := List.length_map ..
              have h5 : (Y.ths.length : Int) = (t : Int) := h5
              omega
            rw [h3]; exact Tl.start Q8.cr h4
        rcases hcase with ⟨rfl, -, rfl⟩ | ⟨rfl, hf8, hn1, x, hxr, hxb, h1x⟩
        · have hfl := fault_mm (cq_mach H8)
          rw [(Q8).m, (Q8).bad0.1, (Q8).bad0.2] at hfl
          refine cl hfl ?_
          rintro _ wf ⟨rfl, huf⟩
          refine ar64 (by omega) ?_
          exact round_mk [.int .i64 ((nx : Nat) : Int), .int .i64 ((i + 1 : Nat) : Int)] (ps.length + 200 * t - (i + 1)) rfl rfl (CrI.mk (nx := nx) (by omega) H8 Q8 huf (by omega) hT8) (by omega)
        · rw [← hg8]
          have hblk := ((cq_mach H8).core hY).blk
          rw [hxr] at hblk
          refine fa ?_
          refine ixA 0 rfl (by omega) ?_
          refine ldb hblk (v := .int .u64 x) rfl ?_
          rcases h1x hf1 with ⟨hx0, rfl⟩ | ⟨hx0, rfl⟩
          · subst hx0
            have hfl := fault_mm (cq_mach H8)
            rw [(Q8).m, (Q8).bad0.1, (Q8).bad0.2] at hfl
            refine cl hfl ?_
            rintro _ wf ⟨rfl, huf⟩
            refine ar64 (by omega) ?_
            exact round_mk [.int .i64 ((nx : Nat) : Int), .int .i64 ((i + 1 : Nat) : Int)] (ps.length + 200 * t - (i + 1)) rfl rfl (CrI.mk (nx := nx) (by omega) H8 Q8 huf (by omega) hT8) (by omega)
          · refine cY hx0 ?_
            have hvl : kk < (vh).length := (List.getElem?_eq_some_iff.1 hvk).1
            have hxr0 := cq_row H8 hvk
            have ha8 := cq_arr H8
            obtain ⟨ab, ao, ac, hae, -⟩ := ha8.some_ (show 0 < (vh).length by omega)
            have hxl : (hx).length ≤ 64 := Jd.q.cr.rowlen (List.mem_map.2 ⟨_, List.mem_of_getElem? hvk, rfl⟩)
            have hxb : 0 ≤ x ∧ x ≤ (n : Int) := hxb
            have hxI : IntKind.i64.wrap x = x := toI_small (by omega)
            rw [hae]
            refine draw_mix 14 [(0, true), (1, true), (2, true), (3, true), (4, true), (5, true), (6, true), (7, true), (8, true), (9, true), (10, true), (11, true), (12, false), (13, false)] (fun wx => Sl wx 22 1 (.slice (some ⟨ab, ao, none⟩) (vh).length ac) (vh).length ((vh).map Prod.fst) ∧ Blk wx t'.g TT (thrC (kk : Int) t'.fv (x, 0, 0) t'.pv t'.sv t'.wv t'.rv t'.ov)) (by decide +kernel) ⟨by rw [← hae]; exact ha8, hblk⟩ ?_
            refine q_ix kk rfl hvl ?_
            refine q_ld (v := hv) (fun wx hwx => by
              rw [(hwx.1.cells rfl (kk * 1) (by omega)).1]
              simp [hvk]) ?_
            refine q_fa ?_
            refine q_ixA 0 rfl (by omega) ?_
            refine rq (.int .u64 x) (fun wx hwx => ldb hwx.2 rfl ⟨rfl, rfl⟩) ?_
            refine rq (.int .i64 x) (fun wx hwx => cv (val x hxI ⟨rfl, rfl⟩)) ?_
            refine bs #[.int .i64 x] (fun _ => by kernel_rfl) fun w9 hb9 hu9 hs9 => ?_
            have hu9' := (Upd.refl [] w8).drew.trans hu9
            have H9 := H8.upd0 hu9'
            refine ⟨⟨by rw [← hae]; exact cq_arr H9, hblk.upd hu9' (by simp)⟩, ?_⟩
            refine apg (cq_row H9 hvk) hb9 rfl rfl (by decide) (by simp only [maxLen]; omega) (by omega) fun v2 w10 hs10 hG10 => ?_
            have H10 := cq_set1 H9 hvk (v' := v2) (xs' := hx ++ [x]) (by
              rw [List.length_append, List.map_append]
              exact hs10) (Upd.own hG10)
            have hblk10 := ((cq_mach1 H10).core hY).blk
            rw [hxr] at hblk10
            have ha10 := cq_arr1 H10
            refine ⟨⟨by rw [← hae]; exact ha10, hblk10⟩, ?_⟩
            refine ix kk rfl hvl ?_
            refine stS ha10 hae hvl (by obtain ⟨_, _, rfl, -⟩ := hs10.form; rfl) fun w11 hs11 hu11 hsz11 => ?_
            have H11 := cq_set2 H10 hs11 (by rw [hae]; exact hu11)
            have Q11 : Mq Y ⟨A, (t : Int), (n : Int), L, B, P, S⟩ m (((vh).set kk (v2, hx ++ [x])).map Prod.snd) l' tg' (200 + (i : Int) + 1) := by
              rw [List.map_set]
              have e : ((vh).map Prod.snd).getD kk [] = hx := by simp [List.getD, hvk]
              rw [e] at Q8
              exact Q8
            rw [← hae]
            have hfl := fault_mm (cq_mach H11)
            rw [(Q11).m, (Q11).bad0.1, (Q11).bad0.2] at hfl
            refine cl hfl ?_
            rintro _ wf ⟨rfl, huf⟩
            refine ar64 (by omega) ?_
            exact round_mk [.int .i64 ((nx : Nat) : Int), .int .i64 ((i + 1 : Nat) : Int)] (ps.length + 200 * t - (i + 1)) rfl rfl (CrI.mk (nx := nx) (by omega) H11 Q11 huf (by omega) hT8) (by omega)
      · refine fa ?_
        refine ld (v := .int .i64 2) (by rw [← hf2]; exact htop) ?_
        refine cl (cq_step Jd.h Jd.q hth hfs (by omega)) ?_
        rintro _ w8 ⟨Y, t', hs', l', tg', H8, Q8, D, hY, hg8, hcase⟩
        have hT8 : ps.length ≤ i + 1 → Tl Y.abs t ps.length (i + 1) := fun h => by
          by_cases h2 : ps.length ≤ i
          · have hk := hki h2
            subst hk
            exact (hTl h2).step Jd.q.cr hT6 htl (abs_th _ hth) hfs D
          · have h3 : ps.length = i + 1 := by omega
            have h4 : Y.abs.ths.length = t := by
              have h5 := Q8.tl
              have e : Y.abs.ths.length = Y.ths.length := List.length_map ..
              have h5 : (Y.ths.length : Int) = (t : Int) := h5
              omega
            rw [h3]; exact Tl.start Q8.cr h4
        rcases hcase with ⟨rfl, -, rfl⟩ | ⟨rfl, hf8, hn1, x, hxr, hxb, h1x⟩
        · have hfl := fault_mm (cq_mach H8)
          rw [(Q8).m, (Q8).bad0.1, (Q8).bad0.2] at hfl
          refine cl hfl ?_
          rintro _ wf ⟨rfl, huf⟩
          refine ar64 (by omega) ?_
          exact round_mk [.int .i64 ((nx : Nat) : Int), .int .i64 ((i + 1 : Nat) : Int)] (ps.length + 200 * t - (i + 1)) rfl rfl (CrI.mk (nx := nx) (by omega) H8 Q8 huf (by omega) hT8) (by omega)
        · rw [hn1 (by omega)] at Q8
          have hfl := fault_mm (cq_mach H8)
          rw [(Q8).m, (Q8).bad0.1, (Q8).bad0.2] at hfl
          refine cl hfl ?_
          rintro _ wf ⟨rfl, huf⟩
          refine ar64 (by omega) ?_
          exact round_mk [.int .i64 ((nx : Nat) : Int), .int .i64 ((i + 1 : Nat) : Int)] (ps.length + 200 * t - (i + 1)) rfl rfl (CrI.mk (nx := nx) (by omega) H8 Q8 huf (by omega) hT8) (by omega)
  · have hie : i = ps.length + 200 * t := by omega
    subst hie
    have hTe := hTl (by omega)
    have htl : X.abs.ths.length = t := by
      have := J.q.tl
      have e : X.abs.ths.length = X.ths.length := List.length_map ..
      have : (X.ths.length : Int) = (t : Int) := this
      omega
    have hdone := hTe.done J.q.cr hT6
    have hcnt := J.q.cr.end hdone
    have hcc : X.abs.c = ⟨A, (t : Int), (n : Int), L, B, P, S⟩ := J.q.cc
    rw [hcc] at hcnt
    have hcnt : ∀ x : Int, l.count x + (vh.map Prod.snd).flatten.count x = if sentP A < x ∧ x ≤ (n : Int) then 1 else 0 := hcnt
    have hvl := J.q.len
    have hvt : vh.length = t := by
      have := J.q.tl
      have : (X.ths.length : Int) = (t : Int) := this
      omega
    refine fa ?_
    refine ldb hcf (v := .int .i64 (n : Int)) rfl ?_
    refine ar64 (by omega) ?_
    refine mks (m := 1) (n + 1) (by omega) (by omega) (by omega) (by omega) fun w6 hb6 hu6 hs6 => ?_
    rw [made_row1] at hb6
    have J6 := J.upd0 hu6
    have O0 : Own (List.replicate (n + 1) 0) [] n := ⟨by simp, fun x hx => by
      rw [List.getD_eq_getElem?_getD, List.getElem?_replicate]
      split <;> rfl⟩
    have hO : Held w w6 (oL g ⟨A, (t : Int), (n : Int), L, B, P, S⟩ X av vh (.slice (some ⟨w5.heap.size, 0, none⟩) (n + 1) (n + 1)) (List.replicate (n + 1) 0) []) := J.h.add hu6 (by
      show Sl w6 _ 1 _ (List.replicate (n + 1) (0 : Int)).length ((List.replicate (n + 1) (0 : Int)).map (.int .i64))
      rw [List.length_replicate, List.map_replicate]
      have := Sl.lit (n := n + 1) hb6 (by simp) (by simp only [maxLen]; omega)
      simpa using this) (by simp [obSl, Value.ownBlock])
    obtain ⟨ov, hove⟩ : ∃ ov, ov = Value.slice (some ⟨w5.heap.size, 0, none⟩) (n + 1) (n + 1) := ⟨_, rfl⟩
    rw [← hove] at hO ⊢
    generalize w5.heap.size = og at hove
    have Q := J.q
    clear J J6 hb6 hTl hTe
    have hmem : ∀ x ∈ (vh.map Prod.snd).flatten, 1 ≤ x ∧ x ≤ (n : Int) := fun x hx => by
      have h1 := hcnt x
      have h2 := List.count_pos_iff.2 hx
      by_cases h3 : sentP A < x ∧ x ≤ (n : Int)
      · omega
      · rw [if_neg h3] at h1; omega
    have hle1 : ∀ x : Int, l.count x + (vh.map Prod.snd).flatten.count x ≤ 1 := fun x => by
      rw [hcnt x]; split <;> omega
    have hhl : (vh.map Prod.snd).length = t := by rw [List.length_map]; exact hvt
    refine loop_rule [3, 7, 9, 17] [18] (fun vs w' mm => ∃ (k : Nat) (ow : List Int), vs = [.int .i64 (k : Int)] ∧ k ≤ t ∧ mm = t - k ∧ Held w w' (oL g ⟨A, (t : Int), (n : Int), L, B, P, S⟩ X av vh ov ow []) ∧ Own ow ((vh.map Prod.snd).take k).flatten n) rfl [.int .i64 0] t rfl
      ⟨0, _, rfl, by omega, rfl, hO, O0⟩ ?_
    clear hO O0
    rintro _ w7 mm ⟨k, ow, rfl, hk, rfl, hO, hOw⟩
    refine fa ?_
    refine ldb (cq_conf (oL_cq hO)) (v := .int .i64 (t : Int)) rfl ?_
    refine cd (fun hkt => ?_) (fun hkt => ?_)
    · have hkt : k < t := by omega
      obtain ⟨th, hth, hthA, ⟨hv, hx⟩, hvk⟩ := Q.th (k := k) (by show (k : Int) < (t : Int); omega)
      have hm := Q.m
      have hthr := thread_mm (cq_mach (oL_cq hO)) hth Q.tl100
      rw [hm] at hthr
      refine cl hthr ?_
      rintro _ _ ⟨rfl, rfl⟩
      refine cl (top_no (cq_mach (oL_cq hO)) hth (hdone k _ hthA)) ?_
      rintro _ w7 ⟨rfl, rfl⟩
      refine ptr_ne0 ?_
      have hxm : (vh.map Prod.snd)[k]? = some hx := by simp [hvk]
      have hxl : hx.length ≤ 64 := Q.cr.rowlen (List.mem_of_getElem? hxm)
      have htk : ((vh.map Prod.snd).take (k + 1)).flatten = ((vh.map Prod.snd).take k).flatten ++ hx := by
        rw [List.take_add_one, hxm]; simp
      have hkv : k < vh.length := by omega
      refine loop_rule [3, 7, 9, 17, 18] [19] (fun vs w' mm => ∃ (j : Nat) (ow : List Int), vs = [.int .i64 (j : Int)] ∧ j ≤ hx.length ∧ mm = hx.length - j ∧ Held w w' (oL g ⟨A, (t : Int), (n : Int), L, B, P, S⟩ X av vh ov ow []) ∧ Own ow (((vh.map Prod.snd).take k).flatten ++ hx.take j) n) rfl [.int .i64 0] hx.length rfl
        ⟨0, ow, rfl, by omega, rfl, hO, by simpa using hOw⟩ ?_
      clear hO hOw ow
      rintro _ w8 mm ⟨j, ow, rfl, hj, rfl, hO, hOw⟩
      have ha := cq_arr (oL_cq hO)
      obtain ⟨ab, ao, ac, hae, -⟩ := ha.some_ (by omega)
      have hcell := (ha.cells hae (k * 1) (by omega)).1
      rw [show (vh.map Prod.fst)[k * 1]? = some hv by simp [hvk]] at hcell
      have hrow := cq_row (oL_cq hO) hvk
      obtain ⟨ra, rc, hre, -⟩ := hrow.form
      rw [hae]
      refine ix k rfl hkv ?_
      refine ld hcell ?_
      rw [hre]
      refine len_sl ?_
      refine cd (fun hjl => ?_) (fun hjl => ?_)
      · have hjl : j < hx.length := by omega
        obtain ⟨rb, ro, rc2, hre2, -⟩ := hrow.some_ (by omega)
        have hmx : hx.getD j 0 ∈ (vh.map Prod.snd).flatten := List.mem_flatten.2 ⟨_, List.mem_of_getElem? hxm, by simp [List.getD, hjl]⟩
        obtain ⟨v, hve⟩ := Int.eq_ofNat_of_zero_le (show 0 ≤ hx.getD j 0 by have := hmem _ hmx; omega)
        have hvn : v ≤ n := by have := hmem _ hmx; omega
        have hoa := hOw.at_ v hvn
        have hol := hOw.l
        have hsub : (((vh.map Prod.snd).take k).flatten ++ hx.take j).Sublist (vh.map Prod.snd).flatten := by
          have h1 : (((vh.map Prod.snd).take k).flatten ++ hx.take j).Sublist ((vh.map Prod.snd).take (k + 1)).flatten := by
            rw [htk]; exact (List.Sublist.refl _).append (List.take_sublist _ _)
          have h2 : (vh.map Prod.snd).flatten = ((vh.map Prod.snd).take (k + 1)).flatten ++ ((vh.map Prod.snd).drop (k + 1)).flatten := by rw [← List.flatten_append, List.take_append_drop]
          rw [h2]
          exact h1.trans (List.sublist_append_left _ _)
        have hc1 := hsub.count_le (v : Int)
        have hc2 := hle1 (v : Int)
        obtain ⟨z, hz, hz0, hz1⟩ : ∃ z : Int, ow.getD v 0 = z ∧ 0 ≤ z ∧ z ≤ 1 := ⟨_, hoa, Int.natCast_nonneg _, by omega⟩
        refine ix k rfl hkv ?_
        refine ld hcell ?_
        rw [hre2]
        refine ix j rfl hjl ?_
        refine ld (v := .int .i64 (v : Int)) (by rw [← hve]; exact hrow.getD_ hre2 j hjl) ?_
        rw [hove]
        have hos := oL_ow hO
        refine ix (len := n + 1) v rfl (by omega) ?_
        refine ld (v := .int .i64 z) (by rw [← hz]; exact hos.getD_ (by rw [hol]; exact hove) v (by omega)) ?_
        refine ar64 (by omega) ?_
        refine ix (len := n + 1) v rfl (by omega) ?_
        refine stS hos (by rw [hol]; exact hove) (by omega) rfl fun w9 hs9 hu9 hz9 => ?_
        have hO9 := oL_set hO (ow' := ow.set v (z + 1)) (by rw [List.length_set, List.map_set]; exact hs9) (by rw [hove]; exact hu9)
        have hOw9 := hOw.inc hvn
        rw [hz] at hOw9
        refine ar64 (by omega) ?_
        rw [← hove, ← hae]
        refine round_mk [.int .i64 ((j + 1 : Nat) : Int)] (hx.length - (j + 1)) rfl rfl ⟨j + 1, _, rfl, by omega, rfl, hO9, ?_⟩ (by omega)
        rw [getD_take hx j hjl, ← List.append_assoc, hve]
        exact hOw9
      · have hje : j = hx.length := by omega
        subst hje
        rw [List.take_length, ← htk] at hOw
        refine ar64 (by omega) ?_
        rw [← hae]
        exact round_mk [.int .i64 ((k + 1 : Nat) : Int)] (t - (k + 1)) rfl rfl ⟨k + 1, _, rfl, by omega, rfl, hO, hOw⟩ (by omega)
    · have hke : k = t := by omega
      subst hke
      rw [List.take_of_length_le (by omega)] at hOw
      have hm := Q.m
      have hch := chain_f (cq_mach (oL_cq hO)) Q.cr.ok.r Q.cr.ok.l Q.cr.ok.w
      have hll := Q.cr.llen
      have hce : chain X.c X.s.W = l := Lk.chn Q.cr.ok.r _ (by have : (l.length : Int) ≤ X.c.N := hll.2; omega) Q.cr.lk
      rw [hce, hm] at hch
      refine cl hch ?_
      rintro cv w8 ⟨hs8, hu8, hn8⟩
      have hO8 := oL_add hO hu8 hs8 hn8
      obtain ⟨ca, cc, hcve, -⟩ := hs8.form
      have hlr : ∀ x ∈ l, 1 ≤ x ∧ x ≤ (n : Int) := fun x hx => by
        have h1 := hcnt x
        have h2 := List.count_pos_iff.2 hx
        by_cases h3 : sentP A < x ∧ x ≤ (n : Int)
        · omega
        · rw [if_neg h3] at h1; omega
      refine loop_rule [3, 17, 20] [21] (fun vs w' mm => ∃ (j : Nat) (ow : List Int), vs = [.int .i64 (j : Int)] ∧ j ≤ l.length ∧ mm = l.length - j ∧ Held w w' (oL g ⟨A, (k : Int), (n : Int), L, B, P, S⟩ X av vh ov ow [obI cv l]) ∧ Own ow ((vh.map Prod.snd).flatten ++ l.take j) n) rfl [.int .i64 0] l.length rfl
        ⟨0, ow, rfl, by omega, rfl, hO8, by simpa using hOw⟩ ?_
      clear hO hOw hO8 hs8 hu8 hn8 ow
      rintro _ w9 mm ⟨j, ow, rfl, hj, rfl, hO, hOw⟩
      have hcs := oL_ext hO
      have hcf := cq_conf (oL_cq hO)
      rw [hcve]
      refine len_sl ?_
      refine cd (fun hjl => ?_) (fun hjl => ?_)
      · have hjl : j < l.length := by omega
        obtain ⟨cb, co, cc2, hcv2, -⟩ := hcs.some_ (by omega)
        rw [← hcve, hcv2]
        have hmx : l.getD j 0 ∈ l := by simp [List.getD, hjl]
        have hrx := hlr _ hmx
        obtain ⟨v, hve⟩ := Int.eq_ofNat_of_zero_le (show 0 ≤ l.getD j 0 by omega)
        have hvn : v ≤ n := by omega
        have hoa := hOw.at_ v hvn
        have hol := hOw.l
        have hsub : ((vh.map Prod.snd).flatten ++ l.take j).Sublist ((vh.map Prod.snd).flatten ++ l) := (List.Sublist.refl _).append (List.take_sublist _ _)
        have hc1 := hsub.count_le (v : Int)
        rw [List.count_append (l₁ := (vh.map Prod.snd).flatten) (l₂ := l)] at hc1
        have hc2 := hle1 (v : Int)
        obtain ⟨z, hz, hz0, hz1⟩ : ∃ z : Int, ow.getD v 0 = z ∧ 0 ≤ z ∧ z ≤ 1 := ⟨_, hoa, Int.natCast_nonneg _, by omega⟩
        have hvc : w9.cell? ⟨cb, co + j * 1, none⟩ = some (.int .i64 (v : Int)) := by rw [← hve]; exact hcs.getD_ hcv2 j hjl
        refine draw_all (fun w' => w' = w9.drew) (by decide +kernel) rfl ?_
        refine q_ix j rfl hjl ?_
        refine q_ld (v := .int .i64 (v : Int)) (by rintro _ rfl; exact hvc) ?_
        refine cN (show ¬ (v : Int) < 1 by omega) ?_
        refine q_ix j rfl hjl ?_
        refine q_ld (v := .int .i64 (v : Int)) (by rintro _ rfl; exact hvc) ?_
        refine q_fa ?_
        refine rq (.int .i64 (n : Int)) (by rintro _ rfl; exact ldb hcf.drew rfl ⟨rfl, rfl⟩) ?_
        rintro _ rfl
        refine cN (show ¬ (v : Int) > (n : Int) by omega) ?_
        refine ix j rfl hjl ?_
        refine ld (v := .int .i64 (v : Int)) hvc ?_
        rw [hove]
        have hos := oL_ow (hO.upd0 (Upd.refl [] w9).drew)
        refine ix (len := n + 1) v rfl (by omega) ?_
        refine ld (v := .int .i64 z) (by rw [← hz]; exact hos.getD_ (by rw [hol]; exact hove) v (by omega)) ?_
        refine ar64 (by omega) ?_
        refine ix (len := n + 1) v rfl (by omega) ?_
        refine stS hos (by rw [hol]; exact hove) (by omega) rfl fun w10 hs10 hu10 hz10 => ?_
        have hO10 := oL_set (hO.upd0 (Upd.refl [] w9).drew) (ow' := ow.set v (z + 1)) (by rw [List.length_set, List.map_set]; exact hs10) (by rw [hove]; exact hu10)
        have hOw10 := hOw.inc hvn
        rw [hz] at hOw10
        refine ar64 (by omega) ?_
        rw [← hove, ← hcv2]
        refine round_mk [.int .i64 ((j + 1 : Nat) : Int)] (l.length - (j + 1)) rfl rfl ⟨j + 1, _, rfl, by omega, rfl, hO10, ?_⟩ (by omega)
        rw [getD_take l j hjl, ← List.append_assoc, hve]
        exact hOw10
      · have hje : j = l.length := by omega
        subst hje
        rw [List.take_length] at hOw
        refine ldw hcf rfl ?_
        refine cl (rsent_c ⟨A, (k : Int), (n : Int), L, B, P, S⟩ w9) ?_
        rintro _ w10 ⟨rfl, hu10⟩
        have hO10 := hO.upd0 hu10
        obtain ⟨se, hse⟩ := Int.eq_ofNat_of_zero_le (show 0 ≤ sentP A by omega)
        have hseA : (if A = 0 then (0 : Int) else 2) = (se : Int) := hse
        have hsw : IntKind.i64.wrap ((if A = 0 then (0 : Int) else 2) + 1) = ((se + 1 : Nat) : Int) := by
          rw [hseA, IntWalk.i64_in _ (by omega)]; omega
        refine val ((se + 1 : Nat) : Int) hsw ?_
        refine loop_rule [3, 17] [22] (fun vs w' mm => ∃ i : Nat, vs = [.int .i64 (i : Int)] ∧ se + 1 ≤ i ∧ i ≤ n + 1 ∧ mm = n + 1 - i ∧ Upd [] w10 w') rfl [.int .i64 ((se + 1 : Nat) : Int)] (n + 1 - (se + 1)) rfl
          ⟨se + 1, rfl, by omega, by omega, rfl, Upd.refl _ _⟩ ?_
        rintro _ w11 mm ⟨i, rfl, hi1, hi2, rfl, hu11⟩
        have hO11 := hO10.upd0 hu11
        refine fa ?_
        refine ldb (cq_conf (oL_cq hO11)) (v := .int .i64 (n : Int)) rfl ?_
        refine cd (fun hin => ?_) (fun hin => ?_)
        · have hin : i ≤ n := by omega
          have hoa := hOw.at_ i hin
          have hol := hOw.l
          have hci := hcnt (i : Int)
          rw [if_pos (show sentP A < (i : Int) ∧ (i : Int) ≤ (n : Int) from ⟨by omega, by omega⟩)] at hci
          rw [List.count_append] at hoa
          have hos := oL_ow hO11
          rw [hove]
          refine ix (len := n + 1) i rfl (by omega) ?_
          refine ld (v := .int .i64 1) (by
            have := hos.getD_ (by rw [hol]; exact hove) i (by omega)
            rw [hoa] at this
            rw [this]
            exact congrArg (fun z => some (Value.int .i64 z)) (by rw [Int.natCast_add]; omega)) ?_
          refine ar64 (by omega) ?_
          rw [← hove]
          exact round_mk [.int .i64 ((i + 1 : Nat) : Int)] (n + 1 - (i + 1)) rfl rfl ⟨i + 1, rfl, by omega, by omega, rfl, hu11⟩ (by omega)
        · refine cl (lives17 w11) ?_
          rintro _ wx ⟨rfl, hux⟩
          exact ⟨rfl, hO11.up.trans hux⟩
theorem ArenaCrowd_walk (w : World) (l : List Int) (wl : Fits [.i64, .i64, .i64, .i64, .i64, .i64, .i64] l) (v1 : Value) (l1 : List (List Int)) (h1 : SlRows w w.heap.size [.i64] v1 l1) (v2 : Value) (l2 : List (List Int)) (h2 : SlRows w w.heap.size [.i64] v2 l2) :
    Calls Try.prog 8 #[.agg (mkInts [.i64, .i64, .i64, .i64, .i64, .i64, .i64] l).toArray, v1, v2] w fun e w' => e = .returned (.bool true) ∧ Below w.heap.size w w' := by
  obtain ⟨⟨A, T, N, L, B, P, S⟩, rfl⟩ := cf_of wl
  exact (crowd_law (c := ⟨A, T, N, L, B, P, S⟩) (RdK.of_ints h1.ints (Nat.le_refl _)) (RdK.of_ints h2.ints (Nat.le_refl _))).mono fun _ _ ⟨_, he, hv, hu⟩ => ⟨by rw [he, hv], hu.below⟩
end Go.Proofs.Ytdomclcokkijjaa

