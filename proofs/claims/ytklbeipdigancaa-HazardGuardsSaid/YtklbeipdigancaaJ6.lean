/- Joined: Ka Kb Na Nb Nc Nd Ne Nf Ng Nh. -/
import Derived.Test.YtklbeipdigancaaJ3
import Derived.Test.YtklbeipdigancaaJ4
import Derived.Test.YtklbeipdigancaaJ5
/- ArenaCrowd: versions of words. -/
namespace Go.Proofs.Ytklbeipdigancaa
open Go.RowKit
attribute [local irreducible] Instr.loadAt Instr.storeAt Instr.fieldAt Instr.indexAt Instr.sliceAt Instr.buildSlice Instr.box Instr.alloc Builtin.append_ Builtin.len_ Builtin.min_ Builtin.max_ Calls Instr.build Instr.makeSlice binSem convert Instr.index Instr.range Instr.next
def verW (x : Int) : Int := x / 131072
theorem ver_next {x n : Int} (hx : 0 ≤ verW x ∧ verW x < 1000000) : verW (nextW x n) = verW x + 1 := by
  unfold verW nextW at *
  have h := Int.emod_nonneg (n % 18446744073709551616) (show (65536 : Int) ≠ 0 by decide)
  have h2 := Int.emod_lt_of_pos (n % 18446744073709551616) (show (0 : Int) < 65536 by decide)
  have e : (x / 131072 + 1) % 140737488355328 = x / 131072 + 1 := Int.emod_eq_of_lt (by omega) (by omega)
  rw [e]
  omega
/-- a snapshot of the list's word: it is the word, or an older one -/
def Snap (W0 r : Int) : Prop := 0 ≤ verW r ∧ verW r ≤ verW W0 ∧ (verW r = verW W0 → r = W0)
theorem Snap.self {W0 : Int} (h : 0 ≤ verW W0) : Snap W0 W0 := ⟨h, Int.le_refl _, fun _ => rfl⟩
theorem Snap.next {W0 r n : Int} (h : Snap W0 r) (hv : 0 ≤ verW W0 ∧ verW W0 < 1000000) : Snap (nextW W0 n) r ∧ r ≠ nextW W0 n := by
  obtain ⟨h0, h1, h2⟩ := h
  have e := ver_next (n := n) hv
  refine ⟨⟨h0, by omega, fun h => by omega⟩, fun h => ?_⟩
  rw [← h] at e; omega
end Go.Proofs.Ytklbeipdigancaa

/- ArenaCrowd: many threads at the free list: what each step keeps. -/
namespace Go.Proofs.Ytklbeipdigancaa
open Go.RowKit
attribute [local irreducible] Instr.loadAt Instr.storeAt Instr.fieldAt Instr.indexAt Instr.sliceAt Instr.buildSlice Instr.box Instr.alloc Builtin.append_ Builtin.len_ Builtin.min_ Builtin.max_ Calls Instr.build Instr.makeSlice binSem convert Instr.index Instr.range Instr.next
theorem tchd_eq {p : PS} {x : Int} (hw : (p.c.where_ x).1 ≠ 3) : p.tchd [x] = p.gh := by
  unfold PS.tchd
  simp only [List.foldl_cons, List.foldl_nil]
  cases p.gh with
  | none => rfl
  | some g => simp only [Option.map_some]; rw [if_neg hw]
theorem ld_eq {p : PS} {x : Int} (hx : p.okP x) (hw : (p.c.where_ x).1 ≠ 3) : p.load x = { p with acted := true, k := p.k + 1 } := by
  unfold PS.load
  rw [tchd_eq hw, if_pos hx, decide_eq_true hx]; simp
theorem st_eq {p : PS} {x y : Int} (hx : p.okP x) (hw : (p.c.where_ x).1 ≠ 3) : p.store x y = { p with acted := true, W := p.W.set x.toNat y, k := p.k + 1 } := by
  unfold PS.store
  rw [tchd_eq hw, if_pos hx, if_pos hx, decide_eq_true hx]; simp
theorem cas_t {p : PS} {x o n : Int} (hx : p.okP x) (hw : (p.c.where_ x).1 ≠ 3) (ho : p.rd x = o) : p.cas x o n = { p with acted := true, W := p.W.set x.toNat n, k := p.k + 1 } := by
  unfold PS.cas
  rw [tchd_eq hw, if_pos hx, if_pos ⟨hx, ho⟩, decide_eq_true hx]; simp
theorem cas_f {p : PS} {x o n : Int} (hx : p.okP x) (hw : (p.c.where_ x).1 ≠ 3) (ho : p.rd x ≠ o) : p.cas x o n = { p with acted := true, k := p.k + 1 } := by
  unfold PS.cas
  rw [tchd_eq hw, if_pos hx, if_neg (fun h => ho h.2), decide_eq_true hx]; simp
theorem deed_eq {p : PS} {tg : List Int} {i frm to kind : Int} (hg : p.gh = some (tg, 0, 0)) (hi : 1 ≤ i ∧ i ≤ tg.length) (hf : tg.getD (i - 1).toNat 0 = frm) : p.deed i frm to kind = { p with gh := some (tg.set (i - 1).toNat to, 0, 0) } := by
  unfold PS.deed
  rw [hg]
  show ({ p with gh := some (gt tg 0 0 i frm to kind).2 } : PS) = _
  unfold gt
  rw [if_neg (by omega), if_pos hf]
def relOf (t : PT) : List Int := match t.fs with
  | [] => []
  | f :: _ => if f.fn = 2 then [f.R.getD 0 0] else []
def rels (l : List PT) : List Int := (l.map relOf).flatten
theorem cnt_set (x : Int) : ∀ (L : List (List Int)) (i : Nat) (u v : List Int), L[i]? = some u → (L.set i v).flatten.count x + u.count x = L.flatten.count x + v.count x
  | [], _, _, _, h => by simp at h
  | a :: L, 0, u, v, h => by
    have : a = u := by simpa using h
    subst this
    simp only [List.set_cons_zero, List.flatten_cons, List.count_append]; omega
  | a :: L, i + 1, u, v, h => by
    have := cnt_set x L i u v (by simpa using h)
    simp only [List.set_cons_succ, List.flatten_cons, List.count_append]; omega
theorem rels_set (x : Int) {l : List PT} {i : Nat} {t t' : PT} (h : l[i]? = some t) : (rels (l.set i t')).count x + (relOf t).count x = (rels l).count x + (relOf t').count x := by
  unfold rels
  rw [List.map_set]
  exact cnt_set x (l.map relOf) i (relOf t) (relOf t') (by simp [h])
theorem rels_mem {l : List PT} {i : Nat} {t : PT} (h : l[i]? = some t) {x : Int} (hx : x ∈ relOf t) : x ∈ rels l := by
  unfold rels
  exact List.mem_flatten.2 ⟨_, List.mem_map.2 ⟨t, List.mem_of_getElem? h, rfl⟩, hx⟩
/-- what two threads put back counts twice -/
theorem rels_two {l : List PT} {i j : Nat} {t u : PT} (hi : l[i]? = some t) (hj : l[j]? = some u) (hij : i ≠ j) {x : Int} (h1 : x ∈ relOf t) (h2 : x ∈ relOf u) : 2 ≤ (rels l).count x := by
  have h := rels_set x (t' := ⟨[], (0, 0, 0), [], [], [], [], []⟩) hi
  have h3 : (l.set i ⟨[], (0, 0, 0), [], [], [], [], []⟩)[j]? = some u := by rw [List.getElem?_set, if_neg hij]; exact hj
  have h4 := List.count_pos_iff.2 (rels_mem h3 h2)
  have h5 := List.count_pos_iff.2 h1
  have h6 : (relOf ⟨[], (0, 0, 0), [], [], [], [], []⟩).count x = 0 := rfl
  omega
/-- a frame of a thread that is at the list -/
def FrOk (c : Cf) (W : List Int) (f : Fr) : Prop :=
  (∀ j, u64R (f.R.getD j 0)) ∧
  ((f.fn = 1 ∧ (f.pc = 0 ∨ (Snap (W.getD 0 0) (f.R.getD 0 0) ∧ (1 ≤ ptrW (f.R.getD 0 0) ∧ ptrW (f.R.getD 0 0) ≤ c.N) ∧ (f.pc = 1 ∨ (f.pc = 2 ∧ (f.R.getD 0 0 = W.getD 0 0 → f.R.getD 1 0 = W.getD (c.link (ptrW (f.R.getD 0 0))).toNat 0))))))
  ∨ (f.fn = 2 ∧ (1 ≤ f.R.getD 0 0 ∧ f.R.getD 0 0 ≤ c.N) ∧ (f.pc = 0 ∨ (Snap (W.getD 0 0) (f.R.getD 1 0) ∧ (f.pc = 1 ∨ (f.pc = 2 ∧ W.getD (c.link (f.R.getD 0 0)).toNat 0 = ptrW (f.R.getD 1 0)))))))
theorem FrOk.next {c : Cf} {W : List Int} {f : Fr} (h : FrOk c W f) (hr : rightC c) (hl : 0 < W.length) (n : Int) (hv : 0 ≤ verW (W.getD 0 0) ∧ verW (W.getD 0 0) < 1000000) : FrOk c (W.set 0 (nextW (W.getD 0 0) n)) f := by
  have e0 : (W.set 0 (nextW (W.getD 0 0) n)).getD 0 0 = nextW (W.getD 0 0) n := setD_self hl
  refine ⟨h.1, ?_⟩
  rw [e0]
  rcases h.2 with ⟨h1, h2⟩ | ⟨h1, h2, h3⟩
  · left
    refine ⟨h1, ?_⟩
    rcases h2 with h2 | ⟨h2, h3, h4⟩
    · exact .inl h2
    · obtain ⟨s1, s2⟩ := h2.next (n := n) hv
      refine .inr ⟨s1, h3, ?_⟩
      rcases h4 with h4 | ⟨h4, -⟩
      · exact .inl h4
      · exact .inr ⟨h4, fun e => absurd e s2⟩
  · right
    refine ⟨h1, h2, ?_⟩
    rcases h3 with h3 | ⟨h3, h4⟩
    · exact .inl h3
    · obtain ⟨s1, s2⟩ := h3.next (n := n) hv
      refine .inr ⟨s1, ?_⟩
      rcases h4 with h4 | ⟨h4, h5⟩
      · exact .inl h4
      · refine .inr ⟨h4, ?_⟩
        have := (where_link hr h2).2
        rw [getD_set (by omega)]; exact h5
theorem FrOk.store {c : Cf} {W : List Int} {f : Fr} (h : FrOk c W f) (hr : rightC c) {x : Int} (hx : 1 ≤ x ∧ x ≤ c.N) (v : Int) (hA : ptrW (W.getD 0 0) ≠ x) (hB : f.fn = 2 → f.R.getD 0 0 ≠ x) : FrOk c (W.set (c.link x).toNat v) f := by
  have hlx := (where_link hr hx).2
  have e0 : (W.set (c.link x).toNat v).getD 0 0 = W.getD 0 0 := getD_set (by omega)
  have hne : ∀ y, 1 ≤ y ∧ y ≤ c.N → y ≠ x → (c.link x).toNat ≠ (c.link y).toNat := fun y hy hyx e => by
    have h1 := (where_link hr hy).2
    exact hyx (link_inj hy hx (by omega))
  refine ⟨h.1, ?_⟩
  rw [e0]
  rcases h.2 with ⟨h1, h2⟩ | ⟨h1, h2, h3⟩
  · left
    refine ⟨h1, ?_⟩
    rcases h2 with h2 | ⟨h2, h3, h4⟩
    · exact .inl h2
    · refine .inr ⟨h2, h3, ?_⟩
      rcases h4 with h4 | ⟨h4, h5⟩
      · exact .inl h4
      · refine .inr ⟨h4, fun e => ?_⟩
        rw [getD_set (hne _ h3 (by rw [e]; exact hA))]
        exact h5 e
  · right
    refine ⟨h1, h2, ?_⟩
    rcases h3 with h3 | ⟨h3, h4⟩
    · exact .inl h3
    · refine .inr ⟨h3, ?_⟩
      rcases h4 with h4 | ⟨h4, h5⟩
      · exact .inl h4
      · refine .inr ⟨h4, ?_⟩
        rw [getD_set (hne _ h2 (hB h1))]; exact h5
structure Cr (p : PS) (hs : List (List Int)) (l tg : List Int) (b : Int) : Prop where
  ok : p.Ok b
  hl : hs.length = p.ths.length
  lk : Lk p.c p.W (ptrW (p.W.getD 0 0)) l
  gh : p.gh = some (tg, 0, 0)
  tl : (tg.length : Int) = p.c.N
  bad : p.bad = false
  cnt : ∀ x, l.count x + hs.flatten.count x + (rels p.ths).count x = if sentP p.c.A < x ∧ x ≤ p.c.N then 1 else 0
  t0 : ∀ x ∈ l, tg.getD (x - 1).toNat 0 = 0
  t1 : ∀ x ∈ hs.flatten, tg.getD (x - 1).toNat 0 = 1
  t2 : ∀ x ∈ rels p.ths, tg.getD (x - 1).toNat 0 = 2
  th : ∀ (k : Nat) t, p.ths[k]? = some t → t.fs = [] ∨ ∃ f, t.fs = [f] ∧ FrOk p.c p.W f
section
variable {p : PS} {hs : List (List Int)} {l tg : List Int} {b : Int} {i : Nat} {t : PT} {f : Fr}
theorem Cr.calm (C : Cr p hs l tg b) : Cr (calm0 p) hs l tg b := ⟨C.ok.calm, C.hl, C.lk, C.gh, C.tl, C.bad, C.cnt, C.t0, C.t1, C.t2, C.th⟩
theorem Cr.up (C : Cr p hs l tg b) {b' : Int} (h : b ≤ b') : Cr p hs l tg b' := ⟨C.ok.up h, C.hl, C.lk, C.gh, C.tl, C.bad, C.cnt, C.t0, C.t1, C.t2, C.th⟩
theorem Cr.rg (C : Cr p hs l tg b) {x : Int} (h : x ∈ l ∨ x ∈ hs.flatten ∨ x ∈ rels p.ths) : sentP p.c.A < x ∧ x ≤ p.c.N := by
  have h1 := C.cnt x
  have h2 : 0 < l.count x + hs.flatten.count x + (rels p.ths).count x := by
    rcases h with h | h | h
    · have := List.count_pos_iff.2 h; omega
    · have := List.count_pos_iff.2 h; omega
    · have := List.count_pos_iff.2 h; omega
  rw [h1] at h2
  by_cases h3 : sentP p.c.A < x ∧ x ≤ p.c.N
  · exact h3
  · rw [if_neg h3] at h2; exact absurd h2 (Nat.lt_irrefl 0)
theorem Cr.le1 (C : Cr p hs l tg b) (x : Int) : l.count x + hs.flatten.count x + (rels p.ths).count x ≤ 1 := by
  rw [C.cnt x]; split <;> omega
theorem set_get {α : Type} {L : List α} {i k : Nat} {u v : α} (h : (L.set i v)[k]? = some u) : (i = k ∧ u = v) ∨ (i ≠ k ∧ L[k]? = some u) := by
  rw [List.getElem?_set] at h
  by_cases hik : i = k
  · subst hik
    rw [if_pos rfl] at h
    split at h
    · exact .inl ⟨rfl, (Option.some.inj h).symm⟩
    · cases h
  · rw [if_neg hik] at h; exact .inr ⟨hik, h⟩
theorem rels_count {x : Int} {l : List PT} {i : Nat} {t t' : PT} (h : l[i]? = some t) (hr : relOf t' = relOf t) : (rels (l.set i t')).count x = (rels l).count x := by
  have := rels_set x (t' := t') h
  rw [hr] at this; omega
theorem rels_same {l : List PT} {i : Nat} {t t' : PT} (h : l[i]? = some t) (hr : relOf t' = relOf t) : rels (l.set i t') = rels l := by
  unfold rels
  rw [List.map_set, hr]
  congr 1
  apply List.ext_getElem?
  intro j
  rw [List.getElem?_set]
  by_cases hj : i = j
  · subst hj
    rw [if_pos rfl, List.getElem?_map, h]
    split
    · rfl
    · rename_i hn
      exact absurd (by rw [List.length_map]; exact (List.getElem?_eq_some_iff.1 h).1) hn
  · rw [if_neg hj]
/-- only a thread's frames change -/
theorem Cr.thr (C : Cr p hs l tg b) (hi : p.ths[i]? = some t) {t' : PT} (hrel : relOf t' = relOf t) (hok : t'.fs = [] ∨ ∃ f, t'.fs = [f] ∧ FrOk p.c p.W f) (a : Bool) {k b' : Int} (hk : 0 ≤ k ∧ k ≤ b') : Cr { p with acted := a, k := k, ths := p.ths.set i t' } hs l tg b' :=
  ⟨⟨C.ok.r, C.ok.t, hk.1, hk.2, C.ok.w, C.ok.l⟩, by rw [C.hl]; simp, C.lk, C.gh, C.tl, C.bad, fun x => by
    have := C.cnt x
    show l.count x + hs.flatten.count x + (rels (p.ths.set i t')).count x = _
    rw [rels_same hi hrel]; exact this, C.t0, C.t1, fun x hx => C.t2 x (by
      have hx : x ∈ rels (p.ths.set i t') := hx
      rw [rels_same hi hrel] at hx; exact hx), fun k u hu => by
    rcases set_get hu with ⟨-, rfl⟩ | ⟨-, h⟩
    · exact hok
    · exact C.th k u h⟩
theorem W0_bd (C : Cr p hs l tg b) : u64R (p.W.getD 0 0) := u64_getD C.ok.w 0
theorem ver0 {x : Int} (h : u64R x) : 0 ≤ verW x := by unfold verW; have := h.1; omega
theorem Cr.facts (C : Cr p hs l tg b) : p.okP 0 ∧ (p.c.where_ 0).1 ≠ 3 ∧ 0 < p.W.length ∧ (∀ x, 1 ≤ x ∧ x ≤ p.c.N → p.okP (p.c.link x)) ∧ (1 ≤ p.c.N ∧ p.c.N ≤ 64) ∧ 0 ≤ sentP p.c.A := by
  have hr := C.ok.r
  have hz := size_bd hr
  have hW := C.ok.l
  have hs0 : 0 ≤ sentP p.c.A := by unfold sentP; split <;> omega
  refine ⟨⟨by omega, by omega⟩, where_0 hr, by omega, fun x hx => ?_, N_bd hr, hs0⟩
  obtain ⟨w1, w2, w3⟩ := where_link hr hx
  exact ⟨by omega, by omega⟩
/-- how far a thread is from its end, if no other one gets ahead of it -/
def dm (W0 : Int) (f : Fr) : Nat := if f.pc = 0 then 3 else if (if f.fn = 1 then f.R.getD 0 0 else f.R.getD 1 0) = W0 then (3 - f.pc).toNat else (6 - f.pc).toNat
theorem dm_0 {W0 : Int} {f : Fr} (h : f.pc = 0) : dm W0 f = 3 := by unfold dm; rw [if_pos h]
theorem dm_a {W0 : Int} {f : Fr} (h : f.fn = 1) (h0 : f.pc ≠ 0) : dm W0 f = if f.R.getD 0 0 = W0 then (3 - f.pc).toNat else (6 - f.pc).toNat := by unfold dm; rw [if_neg h0, if_pos h]
theorem dm_r {W0 : Int} {f : Fr} (h : f.fn = 2) (h0 : f.pc ≠ 0) : dm W0 f = if f.R.getD 1 0 = W0 then (3 - f.pc).toNat else (6 - f.pc).toNat := by unfold dm; rw [if_neg h0, if_neg (show ¬ f.fn = 1 by omega)]
/-- what a step of a thread at the list does -/
def Done (p q : PS) (hs : List (List Int)) (b : Int) (i : Nat) (f : Fr) : Prop :=
  ∃ t' hs' l' tg', q.ths = p.ths.set i t' ∧ q.c = p.c ∧ Cr q hs' l' tg' (b + 1) ∧ verW (q.W.getD 0 0) ≤ verW (p.W.getD 0 0) + 1 ∧
    ((∃ f', t'.fs = [f'] ∧ hs' = hs ∧ q.W.getD 0 0 = p.W.getD 0 0 ∧ dm (p.W.getD 0 0) f' + 1 ≤ dm (p.W.getD 0 0) f) ∨
     (t'.fs = [] ∧ (f.fn ≠ 1 → hs' = hs) ∧ ∃ x, t'.r = (x, 0, 0) ∧ (0 ≤ x ∧ x ≤ p.c.N) ∧ (f.fn = 1 → (x = 0 ∧ hs' = hs) ∨ (x ≠ 0 ∧ hs' = hs.set i (hs.getD i [] ++ [x])))))
theorem Lk.zero {c : Cf} {W : List Int} {n : Int} : ∀ {l : List Int}, Lk c W n l → (1 ≤ n) → ∃ l', l = n :: l' ∧ Lk c W (toI (W.getD (c.link n).toNat 0)) l'
  | [], h, hn => by have : n = 0 := h; omega
  | x :: l', h, _ => by
    obtain ⟨h1, h2, h3⟩ := h
    subst h1
    exact ⟨l', rfl, h3⟩
theorem frel {t : PT} {f : Fr} (hf : t.fs = [f]) : relOf t = if f.fn = 2 then [f.R.getD 0 0] else [] := by unfold relOf; rw [hf]
theorem Cr.step1 (C : Cr p hs l tg b) (hi : p.ths[i]? = some t) (hf : t.fs = [f]) (hfn : f.fn = 1) (hv : verW (p.W.getD 0 0) < 1000000) (fo : FrOk p.c p.W f) : Done p (arDo p i t [] f) hs b i f := by
  obtain ⟨o0, w0, l0, ol, hN, hse⟩ := C.facts
  have hr := C.ok.r
  have hk0 := C.ok.k0
  have hk1 := C.ok.k1
  have hk' : 0 ≤ p.k + 1 ∧ p.k + 1 ≤ b + 1 := by omega
  have hu0 := W0_bd C
  have hv0 := ver0 hu0
  have e0 : p.ldv 0 = p.W.getD 0 0 := by unfold PS.ldv; rw [if_pos o0]; rfl
  have rt : relOf t = [] := by rw [frel hf, if_neg (by omega)]
  obtain ⟨fr, fo⟩ := fo
  rcases fo with ⟨-, fo⟩ | ⟨h2, -⟩
  case inr => omega
  unfold arDo
  rw [if_pos hfn]
  unfold arAlloc
  by_cases h0 : f.pc = 0
  · rw [if_pos h0, e0, ld_eq o0 w0]
    by_cases hz : ptrW (p.W.getD 0 0) = 0
    · rw [if_pos hz]
      refine ⟨{ t with fs := [], r := (0, 0, 0) }, hs, l, tg, rfl, rfl, C.thr hi (by rw [rt]; rfl) (.inl rfl) true hk', by show verW (p.W.getD 0 0) ≤ _; omega, .inr ⟨rfl, fun h => rfl, 0, rfl, by omega, fun _ => .inl ⟨rfl, rfl⟩⟩⟩
    · rw [if_neg hz]
      have hp := ptrW_bd (x := p.W.getD 0 0)
      obtain ⟨l', hl', -⟩ := Lk.zero C.lk (by omega)
      have hx := C.rg (x := ptrW (p.W.getD 0 0)) (.inl (by rw [hl']; exact List.mem_cons_self))
      have g0 : (regI f.R 0 (p.W.getD 0 0)).getD 0 0 = p.W.getD 0 0 := by rw [regI_at _ _ _ _ (by omega)]; rfl
      have hF : FrOk p.c p.W ⟨f.fn, 1, regI f.R 0 (p.W.getD 0 0)⟩ := ⟨regs_I fr hu0, .inl ⟨hfn, .inr (by
        show Snap _ ((regI f.R 0 (p.W.getD 0 0)).getD 0 0) ∧ (1 ≤ ptrW ((regI f.R 0 (p.W.getD 0 0)).getD 0 0) ∧ _) ∧ _
        rw [g0]
        exact ⟨.self hv0, by omega, .inl rfl⟩)⟩⟩
      refine ⟨{ t with fs := [⟨f.fn, 1, regI f.R 0 (p.W.getD 0 0)⟩] }, hs, l, tg, rfl, rfl, C.thr hi (by rw [rt, frel rfl]; exact if_neg (by show ¬ f.fn = 2; omega)) (.inr ⟨_, rfl, hF⟩) true hk', by show verW (p.W.getD 0 0) ≤ _; omega, .inl ⟨_, rfl, rfl, rfl, ?_⟩⟩
      unfold dm
      rw [if_pos h0, if_neg (by show ¬ (1 : Int) = 0; decide)]
      show (if (if f.fn = 1 then (regI f.R 0 (p.W.getD 0 0)).getD 0 0 else _) = p.W.getD 0 0 then (3 - (1 : Int)).toNat else _) + 1 ≤ 3
      rw [if_pos hfn, if_pos g0]; decide
  · rw [if_neg h0]
    rcases fo with h | ⟨sn, hx, hpc⟩
    · exact absurd h h0
    have ox := ol _ hx
    obtain ⟨wx, lx1, lx2⟩ := where_link hr hx
    by_cases h1 : f.pc = 1
    · rw [if_pos h1, ld_eq ox wx]
      have e1 : p.ldv (p.c.link (ptrW (f.R.getD 0 0))) = p.W.getD (p.c.link (ptrW (f.R.getD 0 0))).toNat 0 := by unfold PS.ldv; rw [if_pos ox]; rfl
      rw [e1]
      have hu1 := u64_getD C.ok.w (p.c.link (ptrW (f.R.getD 0 0))).toNat
      generalize hg1 : p.W.getD (p.c.link (ptrW (f.R.getD 0 0))).toNat 0 = z at *
      have g0 : (regI f.R 1 z).getD 0 0 = f.R.getD 0 0 := by rw [regI_at _ _ _ _ (by omega)]; rfl
      have g1 : (regI f.R 1 z).getD 1 0 = z := by rw [regI_at _ _ _ _ (by omega)]; rfl
      have hF : FrOk p.c p.W ⟨f.fn, 2, regI f.R 1 z⟩ := ⟨regs_I fr hu1, .inl ⟨hfn, .inr (by
        show Snap _ ((regI f.R 1 z).getD 0 0) ∧ (1 ≤ ptrW ((regI f.R 1 z).getD 0 0) ∧ ptrW ((regI f.R 1 z).getD 0 0) ≤ _) ∧ (_ ∨ (_ ∧ ((regI f.R 1 z).getD 0 0 = _ → (regI f.R 1 z).getD 1 0 = p.W.getD (p.c.link (ptrW ((regI f.R 1 z).getD 0 0))).toNat 0)))
        rw [g0, g1]
        exact ⟨sn, hx, .inr ⟨rfl, fun _ => hg1.symm⟩⟩)⟩⟩
      refine ⟨{ t with fs := [⟨f.fn, 2, regI f.R 1 z⟩] }, hs, l, tg, rfl, rfl, C.thr hi (by rw [rt, frel rfl]; exact if_neg (by show ¬ f.fn = 2; omega)) (.inr ⟨_, rfl, hF⟩) true hk', by show verW (p.W.getD 0 0) ≤ _; omega, .inl ⟨_, rfl, rfl, rfl, ?_⟩⟩
      unfold dm
      rw [if_neg h0, if_neg (by show ¬ (2 : Int) = 0; decide), h1]
      show (if (if f.fn = 1 then (regI f.R 1 z).getD 0 0 else _) = p.W.getD 0 0 then (3 - (2 : Int)).toNat else (6 - (2 : Int)).toNat) + 1 ≤ _
      rw [if_pos hfn, if_pos hfn, g0]
      split <;> decide
    · rw [if_neg h1]
      rcases hpc with h | ⟨h2, hlk⟩
      · exact absurd h h1
      by_cases hc : p.W.getD 0 0 = f.R.getD 0 0
      · have hcv : p.casv 0 (f.R.getD 0 0) = true := decide_eq_true ⟨o0, hc⟩
        rw [if_pos hcv, cas_t o0 w0 hc]
        have hlk := hlk hc.symm
        rw [← hc] at hlk hx ⊢
        obtain ⟨l', hl', hlk'⟩ := Lk.zero C.lk hx.1
        have hmem : ptrW (p.W.getD 0 0) ∈ l := by rw [hl']; exact List.mem_cons_self
        have hrg := C.rg (.inl hmem)
        have htl := C.tl
        rw [hlk]
        generalize hn : toI (p.W.getD (p.c.link (ptrW (p.W.getD 0 0))).toNat 0) = nx at *
        have hsm := hlk'.small hr
        have hD := deed_eq (p := { p with acted := true, W := p.W.set (0 : Int).toNat (nextW (p.W.getD 0 0) nx), k := p.k + 1 }) (to := 1) (kind := 1) C.gh (i := ptrW (p.W.getD 0 0)) (frm := 0) ⟨by omega, by omega⟩ (C.t0 _ hmem)
        rw [hD]
        have hW' : ∀ z ∈ p.W.set 0 (nextW (p.W.getD 0 0) nx), u64R z := mem_set_ C.ok.w nextW_bd
        have e0' : (p.W.set 0 (nextW (p.W.getD 0 0) nx)).getD 0 0 = nextW (p.W.getD 0 0) nx := setD_self l0
        have hvn := ver_next (x := p.W.getD 0 0) (n := nx) ⟨hv0, hv⟩
        generalize hxe : ptrW (p.W.getD 0 0) = x at *
        subst hl'
        have hilt := (List.getElem?_eq_some_iff.1 hi).1
        have hhi : hs[i]? = some (hs.getD i []) := by
          have : i < hs.length := by rw [C.hl]; exact hilt
          simp [List.getD, this]
        have hc1 := C.le1
        refine ⟨{ t with fs := [], r := (x, 0, 0) }, hs.set i (hs.getD i [] ++ [x]), l', tg.set (x - 1).toNat 1, rfl, rfl, ⟨⟨hr, ?_, by show 0 ≤ p.k + 1; omega, by show p.k + 1 ≤ b + 1; omega, hW', ?_⟩, ?_, ?_, rfl, ?_, C.bad, ?_, ?_, ?_, ?_, ?_⟩, ?_, .inr ⟨rfl, fun h => absurd hfn h, x, rfl, by omega, fun _ => .inr ⟨by omega, rfl⟩⟩⟩
        · show (tg.set _ _).length ≤ 64; simp; omega
        · show (p.W.set _ _).length = _; rw [List.length_set]; exact C.ok.l
        · show (hs.set _ _).length = (p.ths.set _ _).length
          simp; exact C.hl
        · show Lk p.c (p.W.set 0 (nextW (p.W.getD 0 0) nx)) (ptrW ((p.W.set 0 (nextW (p.W.getD 0 0) nx)).getD 0 0)) l'
          rw [e0', ptr_next hsm]
          exact hlk'.set fun z hz => by
            have := (where_link hr (hlk'.mem z hz)).2
            omega
        · show ((tg.set _ _).length : Int) = _; simp; exact htl
        · intro y
          have h1 := C.cnt y
          have h2 := cnt_set y hs i _ (hs.getD i [] ++ [x]) hhi
          have h3 : (rels (p.ths.set i { t with fs := [], r := (x, 0, 0) })).count y = (rels p.ths).count y := rels_count hi (by rw [rt]; rfl)
          rw [List.count_append] at h2
          rw [List.count_cons] at h1
          have h4 : List.count y [x] = if x == y then 1 else 0 := by rw [List.count_cons]; simp
          show l'.count y + (hs.set i (hs.getD i [] ++ [x])).flatten.count y + (rels (p.ths.set i { t with fs := [], r := (x, 0, 0) })).count y = if sentP p.c.A < y ∧ y ≤ p.c.N then 1 else 0
          omega
        · intro y hy
          have h1 := hc1 x
          have h2 : y ≠ x := fun e => by
            rw [List.count_cons_self] at h1
            have := List.count_pos_iff.2 (by rw [← e]; exact hy : x ∈ l')
            omega
          have := hlk'.mem y hy
          rw [getD_set (by omega)]
          exact C.t0 y (List.mem_cons_of_mem _ hy)
        · intro y hy
          have h2 := cnt_set y hs i _ (hs.getD i [] ++ [x]) hhi
          have h3 := List.count_pos_iff.2 hy
          rw [List.count_append] at h2
          have h4 : List.count y [x] = if x == y then 1 else 0 := by rw [List.count_cons]; simp
          by_cases hyx : y = x
          · rw [hyx, setD_self (by omega)]
          · have h5 : (x == y) = false := by simp; exact fun h => hyx h.symm
            rw [h5] at h4
            have h6 : y ∈ hs.flatten := List.count_pos_iff.1 (by simp at h4; omega)
            have := C.rg (.inr (.inl h6))
            rw [getD_set (by omega)]
            exact C.t1 y h6
        · intro y hy
          have h3 : y ∈ rels p.ths := by
            have h3 := rels_count (x := y) hi (t' := { t with fs := [], r := (x, 0, 0) }) (by rw [rt]; rfl)
            have h4 := List.count_pos_iff.2 hy
            exact List.count_pos_iff.1 (by rw [← h3]; exact h4)
          have h1 := hc1 x
          have h2 : y ≠ x := fun e => by
            rw [List.count_cons_self] at h1
            have := List.count_pos_iff.2 (by rw [← e]; exact h3 : x ∈ rels p.ths)
            omega
          have := C.rg (.inr (.inr h3))
          rw [getD_set (by omega)]
          exact C.t2 y h3
        · intro k u hu
          rcases set_get hu with ⟨-, rfl⟩ | ⟨-, h⟩
          · exact .inl rfl
          · rcases C.th k u h with h | ⟨g, h, hg⟩
            · exact .inl h
            · exact .inr ⟨g, h, hg.next hr l0 nx ⟨hv0, hv⟩⟩
        · show verW ((p.W.set 0 (nextW (p.W.getD 0 0) nx)).getD 0 0) ≤ _
          rw [e0', hvn]; exact Int.le_refl _
      · have hcv : p.casv 0 (f.R.getD 0 0) = false := decide_eq_false (fun h => hc h.2)
        rw [hcv, if_neg (by decide), cas_f o0 w0 hc]
        refine ⟨{ t with fs := [{ f with pc := 0 }] }, hs, l, tg, rfl, rfl, C.thr hi (by rw [rt, frel rfl]; exact if_neg (by show ¬ f.fn = 2; omega)) (.inr ⟨({ f with pc := 0 } : Fr), rfl, fr, .inl ⟨hfn, .inl rfl⟩⟩) true hk', by show verW (p.W.getD 0 0) ≤ _; omega, .inl ⟨_, rfl, rfl, rfl, ?_⟩⟩
        unfold dm
        rw [if_pos rfl, if_neg h0, if_pos hfn, if_neg (fun h => hc h.symm), h2]; decide
theorem Cr.step2 (C : Cr p hs l tg b) (hi : p.ths[i]? = some t) (hf : t.fs = [f]) (hfn : f.fn = 2) (hv : verW (p.W.getD 0 0) < 1000000) (fo : FrOk p.c p.W f) : Done p (arDo p i t [] f) hs b i f := by
  obtain ⟨o0, w0, l0, ol, hN, hse⟩ := C.facts
  have hr := C.ok.r
  have hk0 := C.ok.k0
  have hk1 := C.ok.k1
  have hk' : 0 ≤ p.k + 1 ∧ p.k + 1 ≤ b + 1 := by omega
  have hu0 := W0_bd C
  have hv0 := ver0 hu0
  have e0 : p.ldv 0 = p.W.getD 0 0 := by unfold PS.ldv; rw [if_pos o0]; rfl
  have rt : relOf t = [f.R.getD 0 0] := by rw [frel hf, if_pos hfn]
  obtain ⟨fr, fo⟩ := fo
  rcases fo with ⟨h1, -⟩ | ⟨-, hx, fo⟩
  case inl => omega
  have hmem : f.R.getD 0 0 ∈ rels p.ths := rels_mem hi (by rw [rt]; exact List.mem_cons_self)
  have htag := C.t2 _ hmem
  have hxI : toI (f.R.getD 0 0) = f.R.getD 0 0 := toI_small (by omega)
  have hxw : IntKind.u64.wrap (f.R.getD 0 0) = f.R.getD 0 0 := by rw [IntKind.wrap_u64]; omega
  have hc1 := C.le1
  have hcm := List.count_pos_iff.2 hmem
  have hnl : f.R.getD 0 0 ∉ l := fun h => by
    have := List.count_pos_iff.2 h
    have := hc1 (f.R.getD 0 0)
    omega
  have hnh : f.R.getD 0 0 ∉ hs.flatten := fun h => by
    have := List.count_pos_iff.2 h
    have := hc1 (f.R.getD 0 0)
    omega
  have ox := ol _ hx
  obtain ⟨wx, lx1, lx2⟩ := where_link hr hx
  have hpu : ∀ z, u64R (ptrW z) := fun z => by
    have := ptrW_bd (x := z)
    exact ⟨by omega, by omega⟩
  unfold arDo
  rw [if_neg (by omega), if_pos hfn]
  unfold arRelease
  by_cases h0 : f.pc = 0
  · rw [if_pos h0, e0, ld_eq o0 w0]
    have g0 : (regI f.R 1 (p.W.getD 0 0)).getD 0 0 = f.R.getD 0 0 := by rw [regI_at _ _ _ _ (by omega)]; rfl
    have g1 : (regI f.R 1 (p.W.getD 0 0)).getD 1 0 = p.W.getD 0 0 := by rw [regI_at _ _ _ _ (by omega)]; rfl
    have hF : FrOk p.c p.W ⟨f.fn, 1, regI f.R 1 (p.W.getD 0 0)⟩ := ⟨regs_I fr hu0, .inr ⟨hfn, by
      show 1 ≤ (regI f.R 1 (p.W.getD 0 0)).getD 0 0 ∧ _
      rw [g0]; exact hx, .inr ⟨by
      show Snap _ ((regI f.R 1 (p.W.getD 0 0)).getD 1 0)
      rw [g1]; exact .self hv0, .inl rfl⟩⟩⟩
    refine ⟨{ t with fs := [⟨f.fn, 1, regI f.R 1 (p.W.getD 0 0)⟩] }, hs, l, tg, rfl, rfl, C.thr hi (by rw [rt, frel rfl, if_pos hfn]; show [(regI f.R 1 (p.W.getD 0 0)).getD 0 0] = _; rw [g0]) (.inr ⟨_, rfl, hF⟩) true hk', by show verW (p.W.getD 0 0) ≤ _; omega, .inl ⟨_, rfl, rfl, rfl, ?_⟩⟩
    rw [dm_0 h0, dm_r (f := ⟨f.fn, 1, regI f.R 1 (p.W.getD 0 0)⟩) hfn (show (1 : Int) ≠ 0 by decide), if_pos g1]
    exact (by decide : (3 - (1 : Int)).toNat + 1 ≤ 3)
  · rw [if_neg h0]
    rcases fo with h | ⟨sn, hpc⟩
    · exact absurd h h0
    by_cases h1 : f.pc = 1
    · rw [if_pos h1, hxI, st_eq ox wx]
      have e0' : (p.W.set (p.c.link (f.R.getD 0 0)).toNat (ptrW (f.R.getD 1 0))).getD 0 0 = p.W.getD 0 0 := getD_set (by omega)
      have hlw : (p.c.link (f.R.getD 0 0)).toNat < p.W.length := by have := ox.2; have := ox.1; omega
      have hA : ptrW (p.W.getD 0 0) ≠ f.R.getD 0 0 := fun e => by
        obtain ⟨l', hl', -⟩ := Lk.zero C.lk (by rw [e]; exact hx.1)
        exact hnl (by rw [hl', e]; exact List.mem_cons_self)
      refine ⟨{ t with fs := [{ f with pc := 2 }] }, hs, l, tg, rfl, rfl, ⟨⟨hr, C.ok.t, hk'.1, hk'.2, mem_set_ C.ok.w (hpu _), ?_⟩, ?_, ?_, C.gh, C.tl, C.bad, ?_, C.t0, C.t1, ?_, ?_⟩, ?_, .inl ⟨_, rfl, rfl, e0', ?_⟩⟩
      · show (p.W.set _ _).length = _; rw [List.length_set]; exact C.ok.l
      · show hs.length = (p.ths.set _ _).length
        simp; exact C.hl
      · show Lk p.c (p.W.set (p.c.link (f.R.getD 0 0)).toNat (ptrW (f.R.getD 1 0))) (ptrW ((p.W.set (p.c.link (f.R.getD 0 0)).toNat (ptrW (f.R.getD 1 0))).getD 0 0)) l
        rw [e0']
        exact C.lk.set fun z hz e => by
          have h1 := C.lk.mem z hz
          have h2 := (where_link hr h1).2
          have := link_inj h1 hx (by omega)
          exact hnl (by rw [← this]; exact hz)
      · intro y
        show l.count y + hs.flatten.count y + (rels (p.ths.set i { t with fs := [{ f with pc := 2 }] })).count y = if sentP p.c.A < y ∧ y ≤ p.c.N then 1 else 0
        rw [rels_same hi (by rw [rt, frel rfl, if_pos (show ({ f with pc := 2 } : Fr).fn = 2 from hfn)])]
        exact C.cnt y
      · intro y hy
        have hy : y ∈ rels (p.ths.set i { t with fs := [{ f with pc := 2 }] }) := hy
        rw [rels_same hi (by rw [rt, frel rfl, if_pos (show ({ f with pc := 2 } : Fr).fn = 2 from hfn)])] at hy
        exact C.t2 y hy
      · intro k u hu
        rcases set_get hu with ⟨-, rfl⟩ | ⟨hik, h⟩
        · refine .inr ⟨({ f with pc := 2 } : Fr), rfl, fr, .inr ⟨hfn, hx, .inr ⟨?_, .inr ⟨rfl, ?_⟩⟩⟩⟩
          · show Snap ((p.W.set (p.c.link (f.R.getD 0 0)).toNat (ptrW (f.R.getD 1 0))).getD 0 0) _
            rw [e0']; exact sn
          · exact setD_self hlw
        · rcases C.th k u h with h2 | ⟨g, h2, hg⟩
          · exact .inl h2
          · refine .inr ⟨g, h2, hg.store hr hx _ hA fun hg2 e => ?_⟩
            have := rels_two hi h hik (x := f.R.getD 0 0) (by rw [rt]; exact List.mem_cons_self) (by rw [frel h2, if_pos hg2, e]; exact List.mem_cons_self)
            have := hc1 (f.R.getD 0 0)
            omega
      · show verW ((p.W.set (p.c.link (f.R.getD 0 0)).toNat (ptrW (f.R.getD 1 0))).getD 0 0) ≤ _
        rw [e0']; omega
      · rw [dm_r hfn h0, dm_r (show ({ f with pc := 2 } : Fr).fn = 2 from hfn) (show (2 : Int) ≠ 0 by decide), h1]
        by_cases hq : f.R.getD 1 0 = p.W.getD 0 0
        · rw [if_pos hq, if_pos hq]; exact (by decide : (3 - (2 : Int)).toNat + 1 ≤ (3 - (1 : Int)).toNat)
        · rw [if_neg hq, if_neg hq]; exact (by decide : (6 - (2 : Int)).toNat + 1 ≤ (6 - (1 : Int)).toNat)
    · rw [if_neg h1]
      rcases hpc with h | ⟨h2, hlk⟩
      · exact absurd h h1
      by_cases hc : p.W.getD 0 0 = f.R.getD 1 0
      · have hcv : p.casv 0 (f.R.getD 1 0) = true := decide_eq_true ⟨o0, hc⟩
        rw [if_pos hcv, cas_t o0 w0 hc, hxI, hxw]
        rw [← hc] at hlk ⊢
        have htl := C.tl
        have hD := deed_eq (p := { p with acted := true, W := p.W.set (0 : Int).toNat (nextW (p.W.getD 0 0) (f.R.getD 0 0)), k := p.k + 1 }) (to := 0) (kind := 3) C.gh (i := f.R.getD 0 0) (frm := 2) ⟨by omega, by omega⟩ htag
        rw [hD]
        have hW' : ∀ z ∈ p.W.set 0 (nextW (p.W.getD 0 0) (f.R.getD 0 0)), u64R z := mem_set_ C.ok.w nextW_bd
        have e0' : (p.W.set 0 (nextW (p.W.getD 0 0) (f.R.getD 0 0))).getD 0 0 = nextW (p.W.getD 0 0) (f.R.getD 0 0) := setD_self l0
        have hvn := ver_next (x := p.W.getD 0 0) (n := f.R.getD 0 0) ⟨hv0, hv⟩
        have hsm := C.lk.small hr
        generalize hxe : f.R.getD 0 0 = x at *
        have hrs : ∀ y, (rels (p.ths.set i { t with fs := [], r := (x, 0, 0) })).count y + (if x == y then 1 else 0) = (rels p.ths).count y := fun y => by
          have h3 := rels_set y (t' := { t with fs := [], r := (x, 0, 0) }) hi
          rw [rt] at h3
          have h4 : List.count y [x] = if x == y then 1 else 0 := by rw [List.count_cons]; simp
          have h5 : (relOf { t with fs := [], r := (x, 0, 0) }).count y = 0 := rfl
          omega
        refine ⟨{ t with fs := [], r := (x, 0, 0) }, hs, x :: l, tg.set (x - 1).toNat 0, rfl, rfl, ⟨⟨hr, ?_, hk'.1, hk'.2, hW', ?_⟩, ?_, ?_, rfl, ?_, C.bad, ?_, ?_, ?_, ?_, ?_⟩, ?_, .inr ⟨rfl, fun _ => rfl, x, rfl, by omega, fun h => by omega⟩⟩
        · show (tg.set _ _).length ≤ 64; simp; omega
        · show (p.W.set _ _).length = _; rw [List.length_set]; exact C.ok.l
        · show hs.length = (p.ths.set _ _).length
          simp; exact C.hl
        · show Lk p.c (p.W.set 0 (nextW (p.W.getD 0 0) x)) (ptrW ((p.W.set 0 (nextW (p.W.getD 0 0) x)).getD 0 0)) (x :: l)
          rw [e0', ptr_next (by omega)]
          refine ⟨rfl, hx, ?_⟩
          rw [getD_set (by omega), hlk, toI_small hsm]
          exact C.lk.set fun z hz => by
            have := (where_link hr (C.lk.mem z hz)).2
            omega
        · show ((tg.set _ _).length : Int) = _; simp; exact htl
        · intro y
          have h1 := C.cnt y
          have h3 := hrs y
          show (x :: l).count y + hs.flatten.count y + (rels (p.ths.set i { t with fs := [], r := (x, 0, 0) })).count y = if sentP p.c.A < y ∧ y ≤ p.c.N then 1 else 0
          rw [List.count_cons]
          omega
        · intro y hy
          rcases List.mem_cons.1 hy with e | e
          · rw [e, setD_self (by omega)]
          · have := C.lk.mem y e
            have h2 : y ≠ x := fun h => hnl (by rw [← h]; exact e)
            rw [getD_set (by omega)]
            exact C.t0 y e
        · intro y hy
          have := C.rg (.inr (.inl hy))
          have h2 : y ≠ x := fun h => hnh (by rw [← h]; exact hy)
          rw [getD_set (by omega)]
          exact C.t1 y hy
        · intro y hy
          have h3 := hrs y
          have h4 := List.count_pos_iff.2 hy
          have h5 : y ∈ rels p.ths := List.count_pos_iff.1 (by
            have h4 : 0 < (rels (p.ths.set i { t with fs := [], r := (x, 0, 0) })).count y := h4
            omega)
          have h6 : y ≠ x := fun h => by
            have h4 : 0 < (rels (p.ths.set i { t with fs := [], r := (x, 0, 0) })).count y := h4
            have h7 := hc1 x
            rw [h] at h3 h4
            rw [if_pos (by simp)] at h3
            omega
          have := C.rg (.inr (.inr h5))
          rw [getD_set (by omega)]
          exact C.t2 y h5
        · intro k u hu
          rcases set_get hu with ⟨-, rfl⟩ | ⟨-, h⟩
          · exact .inl rfl
          · rcases C.th k u h with h | ⟨g, h, hg⟩
            · exact .inl h
            · exact .inr ⟨g, h, hg.next hr l0 x ⟨hv0, hv⟩⟩
        · show verW ((p.W.set 0 (nextW (p.W.getD 0 0) x)).getD 0 0) ≤ _
          rw [e0', hvn]; exact Int.le_refl _
      · have hcv : p.casv 0 (f.R.getD 1 0) = false := decide_eq_false (fun h => hc h.2)
        rw [hcv, if_neg (by decide), cas_f o0 w0 hc]
        refine ⟨{ t with fs := [{ f with pc := 0 }] }, hs, l, tg, rfl, rfl, C.thr hi (by rw [rt, frel rfl, if_pos (show ({ f with pc := 0 } : Fr).fn = 2 from hfn)]) (.inr ⟨({ f with pc := 0 } : Fr), rfl, fr, .inr ⟨hfn, hx, .inl rfl⟩⟩) true hk', by show verW (p.W.getD 0 0) ≤ _; omega, .inl ⟨_, rfl, rfl, rfl, ?_⟩⟩
        rw [dm_0 rfl, dm_r hfn h0, if_neg (fun h => hc h.symm), h2]; decide
theorem Cr.step (C : Cr p hs l tg b) (hi : p.ths[i]? = some t) (hf : t.fs = [f]) (hv : verW (p.W.getD 0 0) < 1000000) : Done p (arDo (calm0 p) i t [] f) hs b i f := by
  have hfo : FrOk p.c p.W f := by
    rcases C.th i t hi with h | ⟨g, h, hg⟩
    · rw [h] at hf; cases hf
    · rw [h] at hf; cases hf; exact hg
  rcases hfo.2 with ⟨h, -⟩ | ⟨h, -⟩
  · exact C.calm.step1 hi hf h hv hfo
  · exact C.calm.step2 hi hf h hv hfo
end
end Go.Proofs.Ytklbeipdigancaa

/- HazardGuards: where nodes are (plain). -/
namespace Go.Proofs.Ytklbeipdigancaa
open Go.RowKit
attribute [local irreducible] Instr.loadAt Instr.storeAt Instr.fieldAt Instr.indexAt Instr.sliceAt Instr.buildSlice Instr.box Instr.alloc Builtin.append_ Builtin.len_ Builtin.min_ Builtin.max_ Calls Instr.build Instr.makeSlice binSem convert Instr.index Instr.range Instr.next
def tot (f : PT → List Int) (l : List PT) : List Int := (l.map f).flatten
theorem tot_set (f : PT → List Int) (x : Int) {l : List PT} {i : Nat} {t t' : PT} (h : l[i]? = some t) : (tot f (l.set i t')).count x + (f t).count x = (tot f l).count x + (f t').count x := by
  unfold tot
  rw [List.map_set]
  exact cnt_set x (l.map f) i (f t) (f t') (by simp [h])
theorem tot_le (f : PT → List Int) (x : Int) {l : List PT} {i : Nat} {t : PT} (h : l[i]? = some t) : (f t).count x ≤ (tot f l).count x := by
  have h1 := tot_set f x (t' := t) h
  have e : l.set i t = l := by
    apply List.ext_getElem?
    intro j
    rw [List.getElem?_set]
    by_cases hj : i = j
    · subst hj; rw [if_pos rfl, if_pos (List.getElem?_eq_some_iff.1 h).1, h]
    · rw [if_neg hj]
  -- remove thread i's part
  have h2 := tot_set f x (t' := ⟨[], (0, 0, 0), [], [], [], [], []⟩) h
  rcases Nat.lt_or_ge ((tot f l).count x) ((f t).count x) with hlt | hge
  · exfalso
    have h3 : (f t).count x ≤ (tot f l).count x := by
      unfold tot
      have hm : f t ∈ l.map f := List.mem_map.2 ⟨t, List.mem_of_getElem? h, rfl⟩
      obtain ⟨a, b, hab⟩ := List.append_of_mem hm
      rw [hab, List.flatten_append, List.flatten_cons, List.count_append, List.count_append]
      omega
    omega
  · exact hge
theorem tot_mem (f : PT → List Int) {x : Int} {l : List PT} (hx : x ∈ tot f l) : ∃ (k : Nat) (t : PT), l[k]? = some t ∧ x ∈ f t := by
  unfold tot at hx
  obtain ⟨L, hL, hx⟩ := List.mem_flatten.1 hx
  obtain ⟨t, ht, rfl⟩ := List.mem_map.1 hL
  obtain ⟨k, hk⟩ := List.mem_iff_getElem?.1 ht
  exact ⟨k, t, hk, hx⟩
theorem mem_tot (f : PT → List Int) {x : Int} {l : List PT} {k : Nat} {t : PT} (h : l[k]? = some t) (hx : x ∈ f t) : x ∈ tot f l := by
  unfold tot
  exact List.mem_flatten.2 ⟨_, List.mem_map.2 ⟨t, List.mem_of_getElem? h, rfl⟩, hx⟩
/-- what the place points to -/
def plc (W : List Int) : List Int := if ptrW (W.getD 3 0) = 0 then [] else [ptrW (W.getD 3 0)]
/-- what a thread took and has still -/
def own1 (t : PT) : List Int := match t.fs with
  | [] => if t.W.getD 0 0 = 1 ∧ t.r.1 ≠ 0 then [t.r.1] else []
  | [f] => if f.fn = 5 then [f.R.getD 0 0] else []
  | _ => []
def relN (all : Nat) (t : PT) : List Int := match t.fs with
  | [f] => if f.fn = 6 ∧ f.pc = (all : Int) + 1 then t.O else []
  | [_, g] => t.O ++ [g.R.getD 0 0]
  | _ => []
/-- what a thread retired and didn't free yet -/
def own2 (all : Nat) (t : PT) : List Int := t.R ++ relN all t
/-- a thread's frames -/
def FrG (c : Cf) (W : List Int) (all : Nat) (k : Nat) (t : PT) : Prop :=
  if k = 0 then (t.R = [] ∧ t.O = [] ∧ t.W.getD 0 0 = 0) ∧ (t.fs = [] ∨ ∃ f, t.fs = [f] ∧ f.fn = 3 ∧ (∀ j, u64R (f.R.getD j 0)) ∧ f.R.getD 0 0 = 0 ∧ f.R.getD 1 0 = 3 ∧ (f.pc = 0 ∨ f.pc = 1 ∨ (f.pc = 2 ∧ W.getD 8 0 = ptrW (f.R.getD 2 0))))
  else t.fs = [] ∨ (∃ f, t.fs = [f] ∧ f.fn = 5 ∧ f.pc = 0 ∧ (∀ j, u64R (f.R.getD j 0)) ∧ (1 ≤ f.R.getD 0 0 ∧ f.R.getD 0 0 ≤ c.N)) ∨ (∃ f, t.fs = [f] ∧ f.fn = 1 ∧ t.W.getD 0 0 = 1 ∧ FrOk c W f) ∨ (∃ f, t.fs = [f] ∧ f.fn = 6 ∧ (∀ j, u64R (f.R.getD j 0)) ∧ 0 ≤ f.pc ∧ f.pc ≤ (all : Int) + 1) ∨
    (∃ f g, t.fs = [f, g] ∧ f.fn = 6 ∧ (∀ j, u64R (f.R.getD j 0)) ∧ f.pc = (all : Int) + 1 ∧ g.fn = 2 ∧ FrOk c W g)
/-- a thread that holds a node keeps it as long as it is named -/
def Kp (all : Nat) (h : Int) (t : PT) : Prop := h ∈ own1 t ∨ h ∈ t.R ∧ ∀ f, t.fs = [f] → f.fn = 6 → 1 ≤ f.pc → f.pc ≤ (all : Int) → h ∈ t.O
def HeldOk (p : PS) (all : Nat) (h : Int) : Prop :=
  h = 0 ∨ (1 ≤ h ∧ p.W.getD 8 0 = h ∧ (∃ t, p.ths[0]? = some t ∧ t.fs = []) ∧ (h ∈ plc p.W ∨ ∃ (k : Nat) (t : PT), p.ths[k]? = some t ∧ Kp all h t))
structure GI (p : PS) (all : Nat) (l tg : List Int) (h : Int) (n : Nat) : Prop where
  ok : p.Ok (2000 + 4 * n)
  al : (all : Int) = p.c.slots * p.c.T
  T : 2 ≤ p.c.T
  tn : (p.ths.length : Int) = p.c.T
  lk : Lk p.c p.W (ptrW (p.W.getD 0 0)) l
  gh : p.gh = some (tg, 0, 0)
  tl : (tg.length : Int) = p.c.N
  bad : p.bad = false
  cnt : ∀ x, l.count x + (plc p.W).count x + (tot own1 p.ths).count x + (tot (own2 all) p.ths).count x = if sentP p.c.A < x ∧ x ≤ p.c.N then 1 else 0
  t0 : ∀ x ∈ l, tg.getD (x - 1).toNat 0 = 0
  tp : ∀ x ∈ plc p.W, tg.getD (x - 1).toNat 0 = 1
  t1 : ∀ x ∈ tot own1 p.ths, tg.getD (x - 1).toNat 0 = 1
  t2 : ∀ x ∈ tot (own2 all) p.ths, tg.getD (x - 1).toNat 0 = 2
  th : ∀ (k : Nat) t, p.ths[k]? = some t → FrG p.c p.W all k t ∧ (t.P.length = t.W.length ∧ t.S.length = t.W.length ∧ 1 ≤ t.W.length) ∧ t.R.length ≤ n ∧ t.O.length ≤ n + 100
  hd : HeldOk p all h
  ver : verW (p.W.getD 0 0) ≤ n
  vp : verW (p.W.getD 3 0) ≤ n
section
variable {p q : PS} {all : Nat} {l l' tg tg' : List Int} {h h' : Int} {n i : Nat} {t t' : PT}
theorem GI.le1 (G : GI p all l tg h n) (x : Int) : l.count x + (plc p.W).count x + (tot own1 p.ths).count x + (tot (own2 all) p.ths).count x ≤ 1 := by
  rw [G.cnt x]; split <;> omega
theorem GI.rg (G : GI p all l tg h n) {x : Int} (hx : x ∈ l ∨ x ∈ plc p.W ∨ x ∈ tot own1 p.ths ∨ x ∈ tot (own2 all) p.ths) : sentP p.c.A < x ∧ x ≤ p.c.N := by
  have h1 := G.cnt x
  have h2 : 0 < l.count x + (plc p.W).count x + (tot own1 p.ths).count x + (tot (own2 all) p.ths).count x := by
    rcases hx with h | h | h | h <;> (have := List.count_pos_iff.2 h; omega)
  rw [h1] at h2
  by_cases h3 : sentP p.c.A < x ∧ x ≤ p.c.N
  · exact h3
  · rw [if_neg h3] at h2; exact absurd h2 (Nat.lt_irrefl 0)
theorem GI.s0 (G : GI p all l tg h n) : 0 ≤ sentP p.c.A := by unfold sentP; split <;> omega
/-- one thread, and perhaps memory and tags, change -/
theorem GI.upd (G : GI p all l tg h n) (hi : p.ths[i]? = some t) (hc : q.c = p.c) (hth : q.ths = p.ths.set i t') (hb : q.bad = false) (hok : q.Ok (2000 + 4 * ((n + 1 : Nat) : Int))) (hgh : q.gh = some (tg', 0, 0)) (htl : tg'.length = tg.length)
    (hlk : Lk p.c q.W (ptrW (q.W.getD 0 0)) l')
    (hcn : ∀ x, l'.count x + (plc q.W).count x + (own1 t').count x + (own2 all t').count x = l.count x + (plc p.W).count x + (own1 t).count x + (own2 all t).count x)
    (htg : ∀ x, sentP p.c.A < x → x ≤ p.c.N → (x ∈ l' → tg'.getD (x - 1).toNat 0 = 0) ∧ (x ∈ plc q.W → tg'.getD (x - 1).toNat 0 = 1) ∧ (x ∈ own1 t' → tg'.getD (x - 1).toNat 0 = 1) ∧ (x ∈ own2 all t' → tg'.getD (x - 1).toNat 0 = 2) ∧
      (tg'.getD (x - 1).toNat 0 = tg.getD (x - 1).toNat 0 ∨ 1 ≤ l.count x + (plc p.W).count x + (own1 t).count x + (own2 all t).count x))
    (hfr : FrG p.c q.W all i t') (hln : (t'.P.length = t'.W.length ∧ t'.S.length = t'.W.length ∧ 1 ≤ t'.W.length) ∧ t'.R.length ≤ n + 1 ∧ t'.O.length ≤ n + 1 + 100)
    (hot : ∀ (k : Nat) u, k ≠ i → p.ths[k]? = some u → FrG p.c p.W all k u → FrG p.c q.W all k u) (hhd : HeldOk q all h') (hv : verW (q.W.getD 0 0) ≤ ((n + 1 : Nat) : Int)) (hvp : verW (q.W.getD 3 0) ≤ ((n + 1 : Nat) : Int)) : GI q all l' tg' h' (n + 1) := by
  have key : ∀ x, l'.count x + (plc q.W).count x + (tot own1 q.ths).count x + (tot (own2 all) q.ths).count x = if sentP p.c.A < x ∧ x ≤ p.c.N then 1 else 0 := fun x => by
    have a1 := tot_set own1 x (t' := t') hi
    have a2 := tot_set (own2 all) x (t' := t') hi
    have a3 := hcn x
    have a4 := G.cnt x
    rw [hth]; omega
  have rg : ∀ x, (x ∈ l' ∨ x ∈ plc q.W ∨ x ∈ tot own1 q.ths ∨ x ∈ tot (own2 all) q.ths) → sentP p.c.A < x ∧ x ≤ p.c.N := fun x hx => by
    have h1 := key x
    have h2 : 0 < l'.count x + (plc q.W).count x + (tot own1 q.ths).count x + (tot (own2 all) q.ths).count x := by
      rcases hx with h | h | h | h <;> (have := List.count_pos_iff.2 h; omega)
    by_cases h3 : sentP p.c.A < x ∧ x ≤ p.c.N
    · exact h3
    · rw [if_neg h3] at h1; omega
  have oth : ∀ (f : PT → List Int) (v : Int), (f = own1 ∨ f = own2 all) → (∀ x ∈ tot f p.ths, tg.getD (x - 1).toNat 0 = v) → (∀ x, sentP p.c.A < x → x ≤ p.c.N → x ∈ f t' → tg'.getD (x - 1).toNat 0 = v) → ∀ x ∈ tot f q.ths, sentP p.c.A < x ∧ x ≤ p.c.N → tg'.getD (x - 1).toNat 0 = v := fun f v hf hold hnew x hx hr => by
    by_cases hm : x ∈ f t'
    · exact hnew x hr.1 hr.2 hm
    · have a1 := tot_set f x (t' := t') hi
      rw [hth] at hx
      have a2 := List.count_pos_iff.2 hx
      have a3 : (f t').count x = 0 := List.count_eq_zero.2 hm
      have a4 : x ∈ tot f p.ths := List.count_pos_iff.1 (by omega)
      rcases (htg x hr.1 hr.2).2.2.2.2 with e | e
      · rw [e]; exact hold x a4
      · exfalso
        have b1 := G.le1 x
        have b2 := tot_le own1 x hi
        have b3 := tot_le (own2 all) x hi
        rcases hf with rfl | rfl <;> omega
  refine ⟨hok, by rw [hc]; exact G.al, by rw [hc]; exact G.T, by rw [hth, hc]; simp; exact G.tn, by rw [hc]; exact hlk, hgh, by rw [hc, htl]; exact G.tl, hb, by rw [hc]; exact key,
    fun x hx => (htg x (rg x (.inl hx)).1 (rg x (.inl hx)).2).1 hx, fun x hx => (htg x (rg x (.inr (.inl hx))).1 (rg x (.inr (.inl hx))).2).2.1 hx,
    fun x hx => oth own1 1 (.inl rfl) G.t1 (fun y h1 h2 hy => (htg y h1 h2).2.2.1 hy) x hx (rg x (.inr (.inr (.inl hx)))),
    fun x hx => oth (own2 all) 2 (.inr rfl) G.t2 (fun y h1 h2 hy => (htg y h1 h2).2.2.2.1 hy) x hx (rg x (.inr (.inr (.inr hx)))), fun k u hu => ?_, hhd, hv, hvp⟩
  rw [hth] at hu
  rcases set_get hu with ⟨rfl, rfl⟩ | ⟨hne, hu⟩
  · exact ⟨by rw [hc]; exact hfr, hln.1, by omega, by omega⟩
  · obtain ⟨a1, a2, a3, a4⟩ := G.th k u hu
    exact ⟨by rw [hc]; exact hot k u (fun e => hne e.symm) hu a1, a2, by omega, by omega⟩
/-- nothing moves -/
theorem GI.same (G : GI p all l tg h n) (hi : p.ths[i]? = some t) (hc : q.c = p.c) (hth : q.ths = p.ths.set i t') (hb : q.bad = false) (hok : q.Ok (2000 + 4 * ((n + 1 : Nat) : Int))) (hgh : q.gh = some (tg, 0, 0))
    (hlk : Lk p.c q.W (ptrW (q.W.getD 0 0)) l) (hp : q.W.getD 3 0 = p.W.getD 3 0) (h1 : ∀ x, (own1 t').count x = (own1 t).count x) (h2 : ∀ x, (own2 all t').count x = (own2 all t).count x)
    (hfr : FrG p.c q.W all i t') (hln : (t'.P.length = t'.W.length ∧ t'.S.length = t'.W.length ∧ 1 ≤ t'.W.length) ∧ t'.R.length ≤ n + 1 ∧ t'.O.length ≤ n + 1 + 100)
    (hot : ∀ (k : Nat) u, k ≠ i → p.ths[k]? = some u → FrG p.c p.W all k u → FrG p.c q.W all k u) (hhd : HeldOk q all h') (hv : verW (q.W.getD 0 0) ≤ ((n + 1 : Nat) : Int)) : GI q all l tg h' (n + 1) := by
  have hpl : plc q.W = plc p.W := by unfold plc; rw [hp]
  have m1 : ∀ x, x ∈ own1 t' → x ∈ own1 t := fun x hx => List.count_pos_iff.1 (by rw [← h1]; exact List.count_pos_iff.2 hx)
  have m2 : ∀ x, x ∈ own2 all t' → x ∈ own2 all t := fun x hx => List.count_pos_iff.1 (by rw [← h2]; exact List.count_pos_iff.2 hx)
  exact G.upd hi hc hth hb hok hgh rfl hlk (fun x => by rw [hpl, h1, h2]) (fun x _ _ => ⟨G.t0 x, fun hx => G.tp x (by rw [← hpl]; exact hx), fun hx => G.t1 x (mem_tot own1 hi (m1 x hx)), fun hx => G.t2 x (mem_tot (own2 all) hi (m2 x hx)), .inl rfl⟩) hfr hln hot hhd hv (by rw [hp]; have := G.vp; omega)
/-- a node moves -/
theorem GI.move (G : GI p all l tg h n) (hi : p.ths[i]? = some t) (hc : q.c = p.c) (hth : q.ths = p.ths.set i t') (hb : q.bad = false) (hok : q.Ok (2000 + 4 * ((n + 1 : Nat) : Int))) {y v : Int} (hgh : q.gh = some (tg.set (y - 1).toNat v, 0, 0)) (hy : sentP p.c.A < y ∧ y ≤ p.c.N)
    (hlk : Lk p.c q.W (ptrW (q.W.getD 0 0)) l')
    (hcn : ∀ x, l'.count x + (plc q.W).count x + (own1 t').count x + (own2 all t').count x = l.count x + (plc p.W).count x + (own1 t).count x + (own2 all t).count x)
    (hyc : 1 ≤ l.count y + (plc p.W).count y + (own1 t).count y + (own2 all t).count y)
    (hyt : (y ∈ l' → v = 0) ∧ (y ∈ plc q.W → v = 1) ∧ (y ∈ own1 t' → v = 1) ∧ (y ∈ own2 all t' → v = 2))
    (hot' : ∀ x, x ≠ y → (x ∈ l' → x ∈ l) ∧ (x ∈ plc q.W → x ∈ plc p.W ∨ x ∈ own1 t) ∧ (x ∈ own1 t' → x ∈ own1 t) ∧ (x ∈ own2 all t' → x ∈ own2 all t))
    (hfr : FrG p.c q.W all i t') (hln : (t'.P.length = t'.W.length ∧ t'.S.length = t'.W.length ∧ 1 ≤ t'.W.length) ∧ t'.R.length ≤ n + 1 ∧ t'.O.length ≤ n + 1 + 100)
    (hot : ∀ (k : Nat) u, k ≠ i → p.ths[k]? = some u → FrG p.c p.W all k u → FrG p.c q.W all k u) (hhd : HeldOk q all h') (hv : verW (q.W.getD 0 0) ≤ ((n + 1 : Nat) : Int)) (hvp : verW (q.W.getD 3 0) ≤ ((n + 1 : Nat) : Int)) : GI q all l' (tg.set (y - 1).toNat v) h' (n + 1) := by
  have hs0 := G.s0
  have htl := G.tl
  refine G.upd hi hc hth hb hok hgh (by simp) hlk hcn (fun x hx1 hx2 => ?_) hfr hln hot hhd hv hvp
  by_cases hxy : x = y
  · subst hxy
    rw [setD_self (by omega)]
    exact ⟨hyt.1, hyt.2.1, hyt.2.2.1, hyt.2.2.2, .inr hyc⟩
  · rw [getD_set (by omega)]
    obtain ⟨b1, b2, b3, b4⟩ := hot' x hxy
    exact ⟨fun hx => G.t0 x (b1 hx), fun hx => by rcases b2 hx with h | h; exact G.tp x h; exact G.t1 x (mem_tot own1 hi h), fun hx => G.t1 x (mem_tot own1 hi (b3 hx)), fun hx => G.t2 x (mem_tot (own2 all) hi (b4 hx)), .inl rfl⟩
end
end Go.Proofs.Ytklbeipdigancaa

/- HazardGuards: what a step of a thread keeps: taking a node (plain). -/
namespace Go.Proofs.Ytklbeipdigancaa
open Go.RowKit
attribute [local irreducible] Instr.loadAt Instr.storeAt Instr.fieldAt Instr.indexAt Instr.sliceAt Instr.buildSlice Instr.box Instr.alloc Builtin.append_ Builtin.len_ Builtin.min_ Builtin.max_ Calls Instr.build Instr.makeSlice binSem convert Instr.index Instr.range Instr.next
theorem own1_f {t : PT} {f : Fr} (h : t.fs = [f]) (hf : f.fn ≠ 5) : own1 t = [] := by unfold own1; rw [h]; simp only; rw [if_neg hf]
theorem own1_5 {t : PT} {f : Fr} (h : t.fs = [f]) (hf : f.fn = 5) : own1 t = [f.R.getD 0 0] := by unfold own1; rw [h]; simp only; rw [if_pos hf]
theorem own1_2 {t : PT} {f g : Fr} (h : t.fs = [f, g]) : own1 t = [] := by unfold own1; rw [h]
theorem own1_z {t : PT} (hf : t.fs = []) (h : t.r.1 = 0) : own1 t = [] := by unfold own1; rw [hf]; simp only; rw [if_neg (fun hh => hh.2 h)]
theorem own1_w {t : PT} (hf : t.fs = []) (h : t.W.getD 0 0 ≠ 1) : own1 t = [] := by unfold own1; rw [hf]; simp only; rw [if_neg (fun hh => h hh.1)]
theorem own1_x {t : PT} {x : Int} (h : t.fs = []) (hw : t.W.getD 0 0 = 1) (hr : t.r.1 = x) (hx : x ≠ 0) : own1 t = [x] := by unfold own1; rw [h]; simp only; rw [if_pos ⟨hw, by rw [hr]; exact hx⟩, hr]
theorem own2_0 {all : Nat} {t : PT} (h : t.fs = []) : own2 all t = t.R := by unfold own2 relN; rw [h]; simp
theorem own2_1 {all : Nat} {t : PT} {f : Fr} (h : t.fs = [f]) (hf : ¬ (f.fn = 6 ∧ f.pc = (all : Int) + 1)) : own2 all t = t.R := by unfold own2 relN; rw [h]; simp only; rw [if_neg hf]; simp
theorem own2_e {all : Nat} {t : PT} {f : Fr} (h : t.fs = [f]) (hf : f.fn = 6 ∧ f.pc = (all : Int) + 1) : own2 all t = t.R ++ t.O := by unfold own2 relN; rw [h]; simp only; rw [if_pos hf]
theorem own2_2 {all : Nat} {t : PT} {f g : Fr} (h : t.fs = [f, g]) : own2 all t = t.R ++ (t.O ++ [g.R.getD 0 0]) := by unfold own2 relN; rw [h]
theorem FrOk.congr {c : Cf} {W W' : List Int} {f : Fr} (h : FrOk c W f) (h0 : W'.getD 0 0 = W.getD 0 0) (hl : ∀ x, 1 ≤ x ∧ x ≤ c.N → W'.getD (c.link x).toNat 0 = W.getD (c.link x).toNat 0) : FrOk c W' f := by
  refine ⟨h.1, ?_⟩
  rw [h0]
  rcases h.2 with ⟨h1, h2⟩ | ⟨h1, h2, h3⟩
  · left
    refine ⟨h1, ?_⟩
    rcases h2 with h2 | ⟨h2, h3, h4⟩
    · exact .inl h2
    · refine .inr ⟨h2, h3, ?_⟩
      rw [hl _ h3]; exact h4
  · right
    refine ⟨h1, h2, ?_⟩
    rcases h3 with h3 | ⟨h3, h4⟩
    · exact .inl h3
    · refine .inr ⟨h3, ?_⟩
      rw [hl _ h2]; exact h4
theorem FrG.imp {c : Cf} {W W' : List Int} {all k : Nat} {t : PT} (h : FrG c W all k t) (h8 : k = 0 → W'.getD 8 0 = W.getD 8 0) (hf : k ≠ 0 → ∀ f, f ∈ t.fs → FrOk c W f → FrOk c W' f) : FrG c W' all k t := by
  unfold FrG at *
  by_cases hk : k = 0
  · rw [if_pos hk] at h ⊢
    rw [h8 hk]; exact h
  · rw [if_neg hk] at h ⊢
    rcases h with h | h | ⟨f, h1, h2, h3, h4⟩ | ⟨f, h1, h2⟩ | ⟨f, g, h1, h2, h3, h4, h5, h6⟩
    · exact .inl h
    · exact .inr (.inl h)
    · exact .inr (.inr (.inl ⟨f, h1, h2, h3, hf hk f (by rw [h1]; simp) h4⟩))
    · exact .inr (.inr (.inr (.inl ⟨f, h1, h2⟩)))
    · exact .inr (.inr (.inr (.inr ⟨f, g, h1, h2, h3, h4, h5, hf hk g (by rw [h1]; simp) h6⟩)))
theorem FrG.congr {c : Cf} {W W' : List Int} {all k : Nat} {t : PT} (h : FrG c W all k t) (h8 : k = 0 → W'.getD 8 0 = W.getD 8 0) (h0 : W'.getD 0 0 = W.getD 0 0) (hl : ∀ x, 1 ≤ x ∧ x ≤ c.N → W'.getD (c.link x).toNat 0 = W.getD (c.link x).toNat 0) : FrG c W' all k t :=
  h.imp h8 fun _ f _ hf => hf.congr h0 hl
section
variable {p q : PS} {all : Nat} {l l' tg tg' : List Int} {h h' : Int} {n i : Nat} {t t' : PT} {f : Fr}
theorem GI.calm (G : GI p all l tg h n) : GI (calm0 p) all l tg h n := ⟨G.ok.calm, G.al, G.T, G.tn, G.lk, G.gh, G.tl, G.bad, G.cnt, G.t0, G.tp, G.t1, G.t2, G.th, G.hd, G.ver, G.vp⟩
theorem GI.bse (G : GI p all l tg h n) : 1 ≤ all ∧ all ≤ 84 ∧ 8 + (all : Int) = linksP p.c.A p.c.T p.c.L := by
  have hr := G.ok.r
  have hT := G.T
  have hal := G.al
  generalize p.c = c at *
  obtain ⟨A, T, N, L, B, P, S⟩ := c
  obtain ⟨b1, -, -, b4, -⟩ := plan_bd hr
  have e : (all : Int) = slotsP A L * T := hal
  have hT : 2 ≤ T := hT
  have hml := mul_bd (a := slotsP A L) (b := T) (x := 14) (y := 6) (by omega) (by omega)
  have h2 : 2 * 1 ≤ slotsP A L * T := Int.mul_le_mul b1.1 (by omega) (by omega) (by omega)
  have hlk : linksP A T L = 8 + T * slotsP A L := rfl
  have hcm : T * slotsP A L = slotsP A L * T := Int.mul_comm _ _
  refine ⟨by omega, by omega, ?_⟩
  show 8 + (all : Int) = linksP A T L
  omega
theorem GI.facts (G : GI p all l tg h n) : p.okP 0 ∧ (p.c.where_ 0).1 ≠ 3 ∧ 9 < p.W.length ∧ (∀ x, 1 ≤ x ∧ x ≤ p.c.N → p.okP (p.c.link x) ∧ (p.c.where_ (p.c.link x)).1 ≠ 3 ∧ 10 ≤ p.c.link x) ∧ (1 ≤ p.c.N ∧ p.c.N ≤ 64) := by
  have hr := G.ok.r
  have hz := size_bd hr
  have hW := G.ok.l
  refine ⟨⟨by omega, by omega⟩, where_0 hr, by omega, fun x hx => ?_, N_bd hr⟩
  obtain ⟨w1, w2, w3⟩ := where_link hr hx
  exact ⟨⟨by omega, by omega⟩, w1, w2⟩
theorem GI.okq (G : GI p all l tg h n) {W' tg' : List Int} {a : Bool} {ths : List PT} {k' : Int} (hu : ∀ x ∈ W', u64R x) (hl : W'.length = p.W.length) (ht : tg'.length = tg.length) (hk : p.k ≤ k' ∧ k' ≤ p.k + 2) : (⟨p.c, W', k', some (tg', 0, 0), a, p.bad, ths⟩ : PS).Ok (2000 + 4 * ((n + 1 : Nat) : Int)) := by
  have h1 := G.ok
  have htl := G.tl
  have hN := G.facts.2.2.2.2
  exact ⟨h1.r, by show tg'.length ≤ 64; omega, by have := h1.k0; show 0 ≤ k'; omega, by have := h1.k1; show k' ≤ _; omega, hu, hl.trans h1.l⟩
theorem tot_two (f : PT → List Int) {l : List PT} {i j : Nat} {t u : PT} (hi : l[i]? = some t) (hj : l[j]? = some u) (hij : i ≠ j) {x : Int} (h1 : x ∈ f t) (h2 : x ∈ f u) : 2 ≤ (tot f l).count x := by
  have h := tot_set f x (t' := u) hi
  have h3 : (l.set i u)[j]? = some u := by rw [List.getElem?_set, if_neg hij]; exact hj
  -- remove thread i's part by a thread without any
  have hm := tot_le f x h3
  have h5 := List.count_pos_iff.2 h1
  have h6 := List.count_pos_iff.2 h2
  -- (tot (set)) ≥ count u (at i) + count u (at j)
  have key : ∀ (L : List (List Int)) (i j : Nat) (a b : List Int), L[i]? = some a → L[j]? = some b → i ≠ j → a.count x + b.count x ≤ L.flatten.count x := by
    intro L
    induction L with
    | nil => intro i j a b h; cases h
    | cons c L ih =>
      intro i j a b ha hb hne
      rw [List.flatten_cons, List.count_append]
      cases i with
      | zero =>
        have ha : c = a := Option.some.inj ha
        subst ha
        cases j with
        | zero => exact absurd rfl hne
        | succ j =>
          have hb : L[j]? = some b := hb
          have : b.count x ≤ L.flatten.count x := by
            obtain ⟨s, r, e⟩ := List.append_of_mem (List.mem_of_getElem? hb)
            rw [e, List.flatten_append, List.flatten_cons, List.count_append, List.count_append]; omega
          omega
      | succ i =>
        have ha : L[i]? = some a := ha
        cases j with
        | zero =>
          have hb : c = b := Option.some.inj hb
          subst hb
          have : a.count x ≤ L.flatten.count x := by
            obtain ⟨s, r, e⟩ := List.append_of_mem (List.mem_of_getElem? ha)
            rw [e, List.flatten_append, List.flatten_cons, List.count_append, List.count_append]; omega
          omega
        | succ j => have := ih i j a b ha hb (fun e => hne (by rw [e])); omega
  have := key (l.map f) i j (f t) (f u) (by simp [hi]) (by simp [hj]) hij
  unfold tot
  omega
theorem HeldOk.step (H : HeldOk p all h) (hi : p.ths[i]? = some t) (h0 : i ≠ 0) (hth : q.ths = p.ths.set i t') (h8 : q.W.getD 8 0 = p.W.getD 8 0) (hp : 1 ≤ h → p.W.getD 8 0 = h → h ∈ plc p.W → h ∈ plc q.W ∨ Kp all h t') (hk : 1 ≤ h → p.W.getD 8 0 = h → Kp all h t → Kp all h t') : HeldOk q all h := by
  rcases H with rfl | ⟨a1, a2, ⟨u, a3, a4⟩, a5⟩
  · exact .inl rfl
  · have hii : (p.ths.set i t')[i]? = some t' := by rw [List.getElem?_set, if_pos rfl, if_pos (List.getElem?_eq_some_iff.1 hi).1]
    refine .inr ⟨a1, by rw [h8]; exact a2, ⟨u, by rw [hth, List.getElem?_set, if_neg h0]; exact a3, a4⟩, ?_⟩
    rcases a5 with a5 | ⟨k, v, b1, b2⟩
    · rcases hp a1 a2 a5 with b | b
      · exact .inl b
      · exact .inr ⟨i, t', by rw [hth]; exact hii, b⟩
    · right
      by_cases hki : i = k
      · subst hki
        rw [hi] at b1
        obtain rfl := Option.some.inj b1
        exact ⟨i, t', by rw [hth]; exact hii, hk a1 a2 b2⟩
      · exact ⟨k, v, by rw [hth, List.getElem?_set, if_neg hki]; exact b1, b2⟩
theorem GI.ver0 (G : GI p all l tg h n) (hn : n ≤ 100000) : 0 ≤ verW (p.W.getD 0 0) ∧ verW (p.W.getD 0 0) < 1000000 := by
  have hu := u64_getD G.ok.w 0
  have := G.ver
  refine ⟨?_, by omega⟩
  unfold verW
  have := hu.1
  omega
set_option maxHeartbeats 1000000 in
/-- a thread that takes a node -/
theorem GI.alloc (G : GI p all l tg h n) (hn : n ≤ 100000) (h0 : i ≠ 0) (hi : p.ths[i]? = some t) (hf : t.fs = [f]) (hfn : f.fn = 1) (hw : t.W.getD 0 0 = 1) (fo : FrOk p.c p.W f) : ∃ l' tg', GI (arDo p i t [] f) all l' tg' h (n + 1) ∧ (arDo p i t [] f).acted = true := by
  obtain ⟨o0, w0, l0, ol, hN⟩ := G.facts
  have hr := G.ok.r
  have hu0 := u64_getD G.ok.w 0
  have hv0 := G.ver0 hn
  have hver := G.ver
  obtain ⟨g1, g2, g3, g4⟩ := G.th i t hi
  have e0 : p.ldv 0 = p.W.getD 0 0 := by unfold PS.ldv; rw [if_pos o0]; rfl
  have ho1 : own1 t = [] := own1_f hf (by omega)
  have ho2 : own2 all t = t.R := own2_1 hf (fun h => by omega)
  obtain ⟨fr, fo⟩ := fo
  rcases fo with ⟨-, fo⟩ | ⟨h2, -⟩
  case inr => omega
  have hgh := G.gh
  have hbad := G.bad
  -- nothing moves, the thread's frames change
  have same : ∀ (t' : PT) (k' : Int), t'.P = t.P → t'.S = t.S → t'.W = t.W → t'.R = t.R → t'.O = t.O → own1 t' = [] → own2 all t' = t.R → FrG p.c p.W all i t' → (p.k ≤ k' ∧ k' ≤ p.k + 2) → (∀ f, t'.fs = [f] → f.fn = 6 → False) → GI { p with acted := true, k := k', ths := p.ths.set i t' } all l tg h (n + 1) := fun t' k' e1 e2 e3 e4 e5 e6 e7 hfr hk hn6 => by
    refine G.same (t' := t') hi rfl rfl hbad ?_ hgh G.lk rfl (fun x => by rw [e6, ho1]) (fun x => by rw [e7, ho2]) hfr ⟨by rw [e1, e2, e3]; exact g2, by rw [e4]; omega, by rw [e5]; omega⟩ (fun _ _ _ _ hh => hh) (G.hd.step hi h0 rfl rfl (fun _ _ hh => .inl hh) (fun _ _ hh => (by rcases hh with hh | hh; rw [ho1] at hh; cases hh; exact .inr ⟨by rw [e4]; exact hh.1, fun f hf h6 => absurd h6 (fun h6 => hn6 f hf h6)⟩))) (by show verW (p.W.getD 0 0) ≤ _; omega)
    have := G.okq (a := true) (ths := p.ths.set i t') G.ok.w rfl rfl hk
    rw [← hgh] at this
    exact this
  have fr1 : ∀ f' : Fr, f'.fn = 1 → FrOk p.c p.W f' → FrG p.c p.W all i { t with fs := [f'] } := fun f' h1 h2 => by
    unfold FrG; rw [if_neg h0]; exact .inr (.inr (.inl ⟨f', rfl, h1, hw, h2⟩))
  have no6 : ∀ f' : Fr, f'.fn = 1 → ∀ f, ({ t with fs := [f'] } : PT).fs = [f] → f.fn = 6 → False := fun f' h1 f hf h6 => by
    have : f' = f := by simpa using hf
    subst this; omega
  unfold arDo
  rw [if_pos hfn]
  unfold arAlloc
  by_cases hp0 : f.pc = 0
  · rw [if_pos hp0, e0, ld_eq o0 w0]
    by_cases hz : ptrW (p.W.getD 0 0) = 0
    · rw [if_pos hz]
      exact ⟨l, tg, same { t with fs := [], r := (0, 0, 0) } (p.k + 1) rfl rfl rfl rfl rfl (own1_z rfl rfl) (own2_0 rfl) (by unfold FrG; rw [if_neg h0]; exact .inl rfl) ⟨by omega, by omega⟩ (fun f hf => by cases hf), rfl⟩
    · rw [if_neg hz]
      have hp := ptrW_bd (x := p.W.getD 0 0)
      obtain ⟨l', hl', -⟩ := Lk.zero G.lk (by omega)
      have hx := G.rg (x := ptrW (p.W.getD 0 0)) (.inl (by rw [hl']; exact List.mem_cons_self))
      have hs0 := G.s0
      have g0 : (regI f.R 0 (p.W.getD 0 0)).getD 0 0 = p.W.getD 0 0 := by rw [regI_at _ _ _ _ (by omega)]; rfl
      have hF : FrOk p.c p.W ⟨f.fn, 1, regI f.R 0 (p.W.getD 0 0)⟩ := ⟨regs_I fr hu0, .inl ⟨hfn, .inr (by
        show Snap _ ((regI f.R 0 (p.W.getD 0 0)).getD 0 0) ∧ (1 ≤ ptrW ((regI f.R 0 (p.W.getD 0 0)).getD 0 0) ∧ _) ∧ _
        rw [g0]
        exact ⟨.self hv0.1, by omega, .inl rfl⟩)⟩⟩
      exact ⟨l, tg, same { t with fs := [⟨f.fn, 1, regI f.R 0 (p.W.getD 0 0)⟩] } (p.k + 1) rfl rfl rfl rfl rfl (own1_f rfl (show f.fn ≠ 5 by omega)) (own2_1 rfl (fun h => by have := h.1; have : f.fn = 6 := this; omega)) (fr1 _ hfn hF) ⟨by omega, by omega⟩ (no6 _ hfn), rfl⟩
  · rw [if_neg hp0]
    rcases fo with h | ⟨sn, hx, hpc⟩
    · exact absurd h hp0
    obtain ⟨ox, wx, lx1⟩ := ol _ hx
    by_cases h1 : f.pc = 1
    · rw [if_pos h1, ld_eq ox wx]
      have e1 : p.ldv (p.c.link (ptrW (f.R.getD 0 0))) = p.W.getD (p.c.link (ptrW (f.R.getD 0 0))).toNat 0 := by unfold PS.ldv; rw [if_pos ox]; rfl
      rw [e1]
      have hu1 := u64_getD G.ok.w (p.c.link (ptrW (f.R.getD 0 0))).toNat
      generalize hg1 : p.W.getD (p.c.link (ptrW (f.R.getD 0 0))).toNat 0 = z at *
      have g0 : (regI f.R 1 z).getD 0 0 = f.R.getD 0 0 := by rw [regI_at _ _ _ _ (by omega)]; rfl
      have g1 : (regI f.R 1 z).getD 1 0 = z := by rw [regI_at _ _ _ _ (by omega)]; rfl
      have hF : FrOk p.c p.W ⟨f.fn, 2, regI f.R 1 z⟩ := ⟨regs_I fr hu1, .inl ⟨hfn, .inr (by
        show Snap _ ((regI f.R 1 z).getD 0 0) ∧ (1 ≤ ptrW ((regI f.R 1 z).getD 0 0) ∧ ptrW ((regI f.R 1 z).getD 0 0) ≤ _) ∧ (_ ∨ (_ ∧ ((regI f.R 1 z).getD 0 0 = _ → (regI f.R 1 z).getD 1 0 = p.W.getD (p.c.link (ptrW ((regI f.R 1 z).getD 0 0))).toNat 0)))
        rw [g0, g1]
        exact ⟨sn, hx, .inr ⟨rfl, fun _ => hg1.symm⟩⟩)⟩⟩
      exact ⟨l, tg, same { t with fs := [⟨f.fn, 2, regI f.R 1 z⟩] } (p.k + 1) rfl rfl rfl rfl rfl (own1_f rfl (show f.fn ≠ 5 by omega)) (own2_1 rfl (fun h => by have := h.1; have : f.fn = 6 := this; omega)) (fr1 _ hfn hF) ⟨by omega, by omega⟩ (no6 _ hfn), rfl⟩
    · rw [if_neg h1]
      rcases hpc with h | ⟨h2, hlk⟩
      · exact absurd h h1
      by_cases hc : p.W.getD 0 0 = f.R.getD 0 0
      · have hcv : p.casv 0 (f.R.getD 0 0) = true := decide_eq_true ⟨o0, hc⟩
        rw [if_pos hcv, cas_t o0 w0 hc]
        have hlk := hlk hc.symm
        rw [← hc] at hlk hx ⊢
        obtain ⟨l', hl', hlk'⟩ := Lk.zero G.lk hx.1
        have hmem : ptrW (p.W.getD 0 0) ∈ l := by rw [hl']; exact List.mem_cons_self
        have hrg := G.rg (.inl hmem)
        have htl := G.tl
        have hs0 := G.s0
        rw [hlk]
        generalize hnx : toI (p.W.getD (p.c.link (ptrW (p.W.getD 0 0))).toNat 0) = nx at *
        have hsm := hlk'.small hr
        have hD := deed_eq (p := { p with acted := true, W := p.W.set (0 : Int).toNat (nextW (p.W.getD 0 0) nx), k := p.k + 1 }) (to := 1) (kind := 1) hgh (i := ptrW (p.W.getD 0 0)) (frm := 0) ⟨by omega, by omega⟩ (G.t0 _ hmem)
        rw [hD]
        have hW' : ∀ z ∈ p.W.set 0 (nextW (p.W.getD 0 0) nx), u64R z := mem_set_ G.ok.w nextW_bd
        have e0' : (p.W.set 0 (nextW (p.W.getD 0 0) nx)).getD 0 0 = nextW (p.W.getD 0 0) nx := setD_self (by omega)
        have e3' : (p.W.set 0 (nextW (p.W.getD 0 0) nx)).getD 3 0 = p.W.getD 3 0 := getD_set (by omega)
        have e8' : (p.W.set 0 (nextW (p.W.getD 0 0) nx)).getD 8 0 = p.W.getD 8 0 := getD_set (by omega)
        have hpl : plc (p.W.set 0 (nextW (p.W.getD 0 0) nx)) = plc p.W := by unfold plc; rw [e3']
        have hvn := ver_next (x := p.W.getD 0 0) (n := nx) hv0
        generalize hxe : ptrW (p.W.getD 0 0) = x at *
        have hc1 := G.le1 x
        have hlc : l.count x = l'.count x + 1 := by rw [hl', List.count_cons_self]
        have hx0 : x ≠ 0 := by omega
        have hoN : own1 ({ t with fs := [], r := (x, 0, 0) } : PT) = [x] := own1_x rfl hw rfl hx0
        have hoN2 : own2 all ({ t with fs := [], r := (x, 0, 0) } : PT) = t.R := own2_0 rfl
        have hRx := tot_le (own2 all) x hi
        rw [ho2] at hRx
        have hxl : x ∉ l' := fun hm => by have := List.count_pos_iff.2 hm; omega
        have hxp : x ∉ plc p.W := fun hm => by have := List.count_pos_iff.2 hm; omega
        have hxR : x ∉ t.R := fun hm => by have := List.count_pos_iff.2 hm; omega
        refine ⟨l', tg.set (x - 1).toNat 1, ?_, rfl⟩
        refine G.move (q := ⟨p.c, p.W.set 0 (nextW (p.W.getD 0 0) nx), p.k + 1, some (tg.set (x - 1).toNat 1, 0, 0), true, p.bad, p.ths.set i { t with fs := [], r := (x, 0, 0) }⟩) (t' := { t with fs := [], r := (x, 0, 0) }) (y := x) (v := 1) hi rfl rfl hbad (G.okq (a := true) hW' (by simp) (by simp) ⟨by omega, by omega⟩) rfl hrg ?_ (fun z => ?_) (by omega) ⟨fun hm => absurd hm hxl, fun _ => rfl, fun _ => rfl, fun hm => absurd (by rw [← hoN2]; exact hm) hxR⟩ (fun z hz => ⟨fun hm => by rw [hl']; exact List.mem_cons_of_mem _ hm, fun hm => .inl (by rw [← hpl]; exact hm), fun hm => ?_, fun hm => by rw [hoN2] at hm; rw [ho2]; exact hm⟩) (by unfold FrG; rw [if_neg h0]; exact .inl rfl) ⟨g2, by show t.R.length ≤ n + 1; omega, by show t.O.length ≤ n + 1 + 100; omega⟩ (fun k u hk hu hfu => hfu.imp (fun _ => e8') fun _ f _ hf => hf.next hr (by omega) nx hv0) (G.hd.step hi h0 rfl e8' (fun _ _ hm => .inl (by rw [← hpl] at hm; exact hm)) (fun _ _ hh => (by rcases hh with hh | hh; rw [ho1] at hh; cases hh; exact .inr ⟨hh.1, fun f hf => by cases hf⟩))) ?_ (by rw [show (_ : List Int).getD 3 0 = p.W.getD 3 0 from e3']; have := G.vp; omega)
        · show Lk p.c (p.W.set 0 (nextW (p.W.getD 0 0) nx)) (ptrW ((p.W.set 0 (nextW (p.W.getD 0 0) nx)).getD 0 0)) l'
          rw [e0', ptr_next hsm]
          exact hlk'.set fun z hz => by
            have := (where_link hr (hlk'.mem z hz)).2
            omega
        · show l'.count z + (plc (p.W.set 0 (nextW (p.W.getD 0 0) nx))).count z + (own1 { t with fs := [], r := (x, 0, 0) }).count z + (own2 all { t with fs := [], r := (x, 0, 0) }).count z = _
          rw [hpl, hoN, hoN2, ho1, ho2, hl']
          simp only [List.count_cons, List.count_nil]
          omega
        · rw [hoN] at hm
          exact absurd (List.mem_singleton.1 hm) hz
        · show verW ((p.W.set 0 (nextW (p.W.getD 0 0) nx)).getD 0 0) ≤ _
          rw [e0', hvn]; omega
      · have hcv : p.casv 0 (f.R.getD 0 0) = false := decide_eq_false (fun h => hc h.2)
        rw [hcv, if_neg (by decide), cas_f o0 w0 hc]
        exact ⟨l, tg, same { t with fs := [{ f with pc := 0 }] } (p.k + 1) rfl rfl rfl rfl rfl (own1_f rfl (show f.fn ≠ 5 by omega)) (own2_1 rfl (fun h => by have := h.1; have : f.fn = 6 := this; omega)) (fr1 _ hfn ⟨fr, .inl ⟨hfn, .inl rfl⟩⟩) ⟨by omega, by omega⟩ (no6 _ hfn), rfl⟩
end
end Go.Proofs.Ytklbeipdigancaa

/- HazardGuards: what a step of a thread keeps: giving back a node under a scan (plain). -/
namespace Go.Proofs.Ytklbeipdigancaa
open Go.RowKit
attribute [local irreducible] Instr.loadAt Instr.storeAt Instr.fieldAt Instr.indexAt Instr.sliceAt Instr.buildSlice Instr.box Instr.alloc Builtin.append_ Builtin.len_ Builtin.min_ Builtin.max_ Calls Instr.build Instr.makeSlice binSem convert Instr.index Instr.range Instr.next
section
variable {p q : PS} {all : Nat} {l l' tg tg' : List Int} {h h' : Int} {n i : Nat} {t t' : PT} {f g : Fr}
theorem GI.up (G : GI p all l tg h n) {m : Nat} (hm : n ≤ m) : GI p all l tg h m := ⟨G.ok.up (by omega), G.al, G.T, G.tn, G.lk, G.gh, G.tl, G.bad, G.cnt, G.t0, G.tp, G.t1, G.t2, fun k u hu => by
  obtain ⟨a1, a2, a3, a4⟩ := G.th k u hu
  exact ⟨a1, a2, by omega, by omega⟩, G.hd, by have := G.ver; omega, by have := G.vp; omega⟩
theorem GI.sen (G : GI p all l tg h n) : 0 ≤ sentP p.c.A := G.s0
theorem deed_put {p : PS} {tg : List Int} {j frm to kind : Int} {i : Nat} {t : PT} (hg : p.gh = some (tg, 0, 0)) (hi : 1 ≤ j ∧ j ≤ tg.length) (hf : tg.getD (j - 1).toNat 0 = frm) : (p.deed j frm to kind).put i t = ⟨p.c, p.W, p.k, some (tg.set (j - 1).toNat to, 0, 0), p.acted, p.bad, p.ths.set i t⟩ := by
  rw [deed_eq hg hi hf]; rfl
/-- nothing moves, memory stays -/
theorem GI.still (G : GI p all l tg h n) (h0 : i ≠ 0) (hi : p.ths[i]? = some t) (a : Bool) (k' : Int) (hk : p.k ≤ k' ∧ k' ≤ p.k + 2) (e123 : t'.P = t.P ∧ t'.S = t.S ∧ t'.W.length = t.W.length) (hR : t'.R.length ≤ n + 1) (hO : t'.O.length ≤ n + 1 + 100) (h1 : ∀ x, (own1 t').count x = (own1 t).count x) (h2 : ∀ x, (own2 all t').count x = (own2 all t).count x)
    (hfr : FrG p.c p.W all i t') (hkp : 1 ≤ h → p.W.getD 8 0 = h → Kp all h t → Kp all h t') : GI { p with acted := a, k := k', ths := p.ths.set i t' } all l tg h (n + 1) := by
  have hgh := G.gh
  obtain ⟨g1, g2, g3, g4⟩ := G.th i t hi
  have hver := G.ver
  refine G.same (t' := t') hi rfl rfl G.bad ?_ hgh G.lk rfl h1 h2 hfr ⟨by rw [e123.1, e123.2.1, e123.2.2]; exact g2, hR, hO⟩ (fun _ _ _ _ hh => hh) (G.hd.step hi h0 rfl rfl (fun _ _ hh => .inl hh) hkp) (by show verW (p.W.getD 0 0) ≤ _; omega)
  have := G.okq (a := a) (ths := p.ths.set i t') G.ok.w rfl rfl hk
  rw [← hgh] at this
  exact this
theorem own2_fr {u : PT} {c : Cf} {W : List Int} {k : Nat} {f : Fr} {x : Int} (hk : k ≠ 0) (hu : FrG c W all k u) (hf : f ∈ u.fs) (h2 : f.fn = 2) (hx : f.R.getD 0 0 = x) : x ∈ own2 all u := by
  unfold FrG at hu
  rw [if_neg hk] at hu
  have one : ∀ a : Fr, u.fs = [a] → a.fn ≠ 2 → x ∈ own2 all u := fun a h1 hne => by
    rw [h1] at hf
    obtain rfl := List.mem_singleton.1 hf
    exact absurd h2 hne
  rcases hu with hu | ⟨a, h1, h3, -⟩ | ⟨a, h1, h3, -⟩ | ⟨a, h1, h3, -⟩ | ⟨a, b, h1, h3, -, -, h5, -⟩
  · rw [hu] at hf; cases hf
  · exact one a h1 (by omega)
  · exact one a h1 (by omega)
  · exact one a h1 (by omega)
  · rw [h1] at hf
    rw [own2_2 h1]
    rcases List.mem_cons.1 hf with e | e
    · rw [e] at h2; omega
    · rw [List.mem_singleton.1 e] at hx
      rw [hx]; simp
set_option maxHeartbeats 1000000 in
/-- a thread that gives back a node under a scan -/
theorem GI.rel (G : GI p all l tg h n) (hn : n ≤ 100000) (h0 : i ≠ 0) (hi : p.ths[i]? = some t) (hf : t.fs = [f, g]) (hf6 : f.fn = 6) (hfr : ∀ j, u64R (f.R.getD j 0)) (hpc : f.pc = (all : Int) + 1) (hfn : g.fn = 2) (fo : FrOk p.c p.W g) : ∃ l' tg', GI (arRelease p i t [f] g) all l' tg' h (n + 1) ∧ (arRelease p i t [f] g).acted = true := by
  obtain ⟨o0, w0, l0, ol, hN⟩ := G.facts
  have hr := G.ok.r
  have hu0 := u64_getD G.ok.w 0
  have hv0 := G.ver0 hn
  have hver := G.ver
  obtain ⟨g1, g2, g3, g4⟩ := G.th i t hi
  have e0 : p.ldv 0 = p.W.getD 0 0 := by unfold PS.ldv; rw [if_pos o0]; rfl
  have ho1 : own1 t = [] := own1_2 hf
  have ho2 : own2 all t = t.R ++ (t.O ++ [g.R.getD 0 0]) := own2_2 hf
  have foW := fo
  obtain ⟨fr, fo⟩ := fo
  rcases fo with ⟨h2, -⟩ | ⟨-, hx, fo⟩
  case inl => omega
  have hgh := G.gh
  have hbad := G.bad
  have hmem : g.R.getD 0 0 ∈ tot (own2 all) p.ths := mem_tot _ hi (by rw [ho2]; simp)
  have htag := G.t2 _ hmem
  have hrg := G.rg (.inr (.inr (.inr hmem)))
  have hxI : toI (g.R.getD 0 0) = g.R.getD 0 0 := toI_small (by omega)
  have hxw : IntKind.u64.wrap (g.R.getD 0 0) = g.R.getD 0 0 := by rw [IntKind.wrap_u64]; omega
  have hc1 := G.le1 (g.R.getD 0 0)
  have hcm := List.count_pos_iff.2 hmem
  have hcmt := tot_le (own2 all) (g.R.getD 0 0) hi
  have hct : t.R.count (g.R.getD 0 0) + (t.O.count (g.R.getD 0 0) + 1) ≤ 1 := by
    rw [ho2, List.count_append, List.count_append, List.count_cons_self, List.count_nil] at hcmt; omega
  have hnl : g.R.getD 0 0 ∉ l := fun h => by
    have := List.count_pos_iff.2 h
    omega
  have hnp : g.R.getD 0 0 ∉ plc p.W := fun h => by
    have := List.count_pos_iff.2 h
    omega
  obtain ⟨ox, wx, lx1⟩ := ol _ hx
  have hpu : ∀ z, u64R (ptrW z) := fun z => by
    have := ptrW_bd (x := z)
    exact ⟨by omega, by omega⟩
  have frG : ∀ (W' : List Int) (t' : PT) (g' : Fr), t'.fs = [f, g'] → g'.fn = 2 → FrOk p.c W' g' → FrG p.c W' all i t' := fun W' t' g' h1 h2 h3 => by
    unfold FrG; rw [if_neg h0]
    exact .inr (.inr (.inr (.inr ⟨f, g', h1, hf6, hfr, hpc, h2, h3⟩)))
  have kp2 : ∀ (t' : PT) (g' : Fr), t'.fs = [f, g'] → t'.R = t.R → Kp all h t → Kp all h t' := fun t' g' h1 h2 hh => by
    rcases hh with hh | hh
    · rw [ho1] at hh; cases hh
    · exact .inr ⟨by rw [h2]; exact hh.1, fun a ha => by rw [h1] at ha; cases ha⟩
  have still : ∀ (g' : Fr), g'.fn = 2 → g'.R.getD 0 0 = g.R.getD 0 0 → FrOk p.c p.W g' → GI { p with acted := true, k := p.k + 1, ths := p.ths.set i { t with fs := [f, g'] } } all l tg h (n + 1) := fun g' h1 h2 h3 =>
    G.still h0 hi true (p.k + 1) ⟨by omega, by omega⟩ ⟨rfl, rfl, rfl⟩ (by show t.R.length ≤ _; omega) (by show t.O.length ≤ _; omega) (fun x => by rw [ho1, own1_2 (t := { t with fs := [f, g'] }) rfl]) (fun x => by rw [ho2, own2_2 (t := { t with fs := [f, g'] }) rfl, h2]) (frG _ _ g' rfl h1 h3) (fun _ _ hh => kp2 _ g' rfl rfl hh)
  unfold arRelease
  by_cases hp0 : g.pc = 0
  · rw [if_pos hp0, e0, ld_eq o0 w0]
    have q0 : (regI g.R 1 (p.W.getD 0 0)).getD 0 0 = g.R.getD 0 0 := by rw [regI_at _ _ _ _ (by omega)]; rfl
    have q1 : (regI g.R 1 (p.W.getD 0 0)).getD 1 0 = p.W.getD 0 0 := by rw [regI_at _ _ _ _ (by omega)]; rfl
    have hF : FrOk p.c p.W ⟨g.fn, 1, regI g.R 1 (p.W.getD 0 0)⟩ := ⟨regs_I fr hu0, .inr ⟨hfn, by
      show 1 ≤ (regI g.R 1 (p.W.getD 0 0)).getD 0 0 ∧ _
      rw [q0]; exact hx, .inr ⟨by
      show Snap _ ((regI g.R 1 (p.W.getD 0 0)).getD 1 0)
      rw [q1]; exact .self hv0.1, .inl rfl⟩⟩⟩
    exact ⟨l, tg, still ⟨g.fn, 1, regI g.R 1 (p.W.getD 0 0)⟩ hfn q0 hF, rfl⟩
  · rw [if_neg hp0]
    rcases fo with h | ⟨sn, hpc2⟩
    · exact absurd h hp0
    by_cases h1 : g.pc = 1
    · rw [if_pos h1, hxI, st_eq ox wx]
      have e0' : (p.W.set (p.c.link (g.R.getD 0 0)).toNat (ptrW (g.R.getD 1 0))).getD 0 0 = p.W.getD 0 0 := getD_set (by omega)
      have e3' : (p.W.set (p.c.link (g.R.getD 0 0)).toNat (ptrW (g.R.getD 1 0))).getD 3 0 = p.W.getD 3 0 := getD_set (by omega)
      have e8' : (p.W.set (p.c.link (g.R.getD 0 0)).toNat (ptrW (g.R.getD 1 0))).getD 8 0 = p.W.getD 8 0 := getD_set (by omega)
      have hlw : (p.c.link (g.R.getD 0 0)).toNat < p.W.length := by have := ox.2; have := ox.1; omega
      have hA : ptrW (p.W.getD 0 0) ≠ g.R.getD 0 0 := fun e => by
        obtain ⟨l', hl', -⟩ := Lk.zero G.lk (by rw [e]; exact hx.1)
        exact hnl (by rw [hl', e]; exact List.mem_cons_self)
      have hW' : ∀ z ∈ p.W.set (p.c.link (g.R.getD 0 0)).toNat (ptrW (g.R.getD 1 0)), u64R z := mem_set_ G.ok.w (hpu _)
      refine ⟨l, tg, ?_, rfl⟩
      refine G.same (q := ⟨p.c, p.W.set (p.c.link (g.R.getD 0 0)).toNat (ptrW (g.R.getD 1 0)), p.k + 1, p.gh, true, p.bad, p.ths.set i { t with fs := [f, { g with pc := 2 }] }⟩) (t' := { t with fs := [f, { g with pc := 2 }] }) hi rfl rfl hbad ?_ hgh ?_ e3' (fun x => by rw [ho1, own1_2 (t := { t with fs := [f, { g with pc := 2 }] }) rfl]) (fun x => by rw [ho2, own2_2 (t := { t with fs := [f, { g with pc := 2 }] }) rfl]) (frG _ _ { g with pc := 2 } rfl hfn ⟨fr, .inr ⟨hfn, hx, .inr ⟨?_, .inr ⟨rfl, setD_self hlw⟩⟩⟩⟩) ⟨g2, by show t.R.length ≤ _; omega, by show t.O.length ≤ _; omega⟩ (fun k u hk hu hfu => hfu.imp (fun _ => e8') fun hk0 a ha hao => hao.store hr hx _ hA fun ha2 e => ?_) (G.hd.step hi h0 rfl e8' (fun _ _ hm => .inl (by
        have hpl : plc (p.W.set (p.c.link (g.R.getD 0 0)).toNat (ptrW (g.R.getD 1 0))) = plc p.W := by unfold plc; rw [e3']
        rw [← hpl] at hm; exact hm)) (fun _ _ hh => kp2 _ _ rfl rfl hh)) ?_
      · have := G.okq (a := true) (ths := p.ths.set i { t with fs := [f, { g with pc := 2 }] }) (k' := p.k + 1) hW' (by simp) (rfl : tg.length = tg.length) ⟨by omega, by omega⟩
        rw [← hgh] at this
        exact this
      · show Lk p.c (p.W.set (p.c.link (g.R.getD 0 0)).toNat (ptrW (g.R.getD 1 0))) (ptrW ((p.W.set (p.c.link (g.R.getD 0 0)).toNat (ptrW (g.R.getD 1 0))).getD 0 0)) l
        rw [e0']
        exact G.lk.set fun z hz e => by
          have h1 := G.lk.mem z hz
          have h2 := (where_link hr h1).2
          have := link_inj h1 hx (by omega)
          exact hnl (by rw [← this]; exact hz)
      · show Snap ((p.W.set (p.c.link (g.R.getD 0 0)).toNat (ptrW (g.R.getD 1 0))).getD 0 0) _
        rw [e0']; exact sn
      · have := tot_two (own2 all) hi hu (fun e => hk e.symm) (x := g.R.getD 0 0) (by rw [ho2]; simp) (own2_fr hk0 hfu ha ha2 e)
        omega
      · show verW ((p.W.set (p.c.link (g.R.getD 0 0)).toNat (ptrW (g.R.getD 1 0))).getD 0 0) ≤ _
        rw [e0']; omega
    · rw [if_neg h1]
      rcases hpc2 with h | ⟨h2, hlk⟩
      · exact absurd h h1
      by_cases hc : p.W.getD 0 0 = g.R.getD 1 0
      · have hcv : p.casv 0 (g.R.getD 1 0) = true := decide_eq_true ⟨o0, hc⟩
        rw [if_pos hcv, cas_t o0 w0 hc, hxI, hxw]
        rw [← hc] at hlk ⊢
        have htl := G.tl
        have hs0 := G.s0
        have hW' : ∀ z ∈ p.W.set 0 (nextW (p.W.getD 0 0) (g.R.getD 0 0)), u64R z := mem_set_ G.ok.w nextW_bd
        have e0' : (p.W.set 0 (nextW (p.W.getD 0 0) (g.R.getD 0 0))).getD 0 0 = nextW (p.W.getD 0 0) (g.R.getD 0 0) := setD_self (by omega)
        have e3' : (p.W.set 0 (nextW (p.W.getD 0 0) (g.R.getD 0 0))).getD 3 0 = p.W.getD 3 0 := getD_set (by omega)
        have e8' : (p.W.set 0 (nextW (p.W.getD 0 0) (g.R.getD 0 0))).getD 8 0 = p.W.getD 8 0 := getD_set (by omega)
        have hvn := ver_next (x := p.W.getD 0 0) (n := g.R.getD 0 0) hv0
        have hsm := G.lk.small hr
        generalize hxe : g.R.getD 0 0 = x at *
        have hpl : plc (p.W.set 0 (nextW (p.W.getD 0 0) x)) = plc p.W := by unfold plc; rw [e3']
        rw [deed_put (p := { p with acted := true, W := p.W.set (0 : Int).toNat (nextW (p.W.getD 0 0) x), k := p.k + 1 }) (to := 0) (kind := 3) hgh (j := x) (frm := 2) ⟨by omega, by omega⟩ htag]
        have hoN : own1 ({ t with fs := [f], r := (x, 0, 0) } : PT) = [] := own1_f rfl (by omega)
        have hoN2 : own2 all ({ t with fs := [f], r := (x, 0, 0) } : PT) = t.R ++ t.O := own2_e rfl ⟨hf6, hpc⟩
        have hxR : x ∉ t.R := fun hm => by have := List.count_pos_iff.2 hm; omega
        have hxO : x ∉ t.O := fun hm => by have := List.count_pos_iff.2 hm; omega
        refine ⟨x :: l, tg.set (x - 1).toNat 0, ?_, rfl⟩
        refine G.move (q := ⟨p.c, p.W.set 0 (nextW (p.W.getD 0 0) x), p.k + 1, some (tg.set (x - 1).toNat 0, 0, 0), true, p.bad, p.ths.set i { t with fs := [f], r := (x, 0, 0) }⟩) (t' := { t with fs := [f], r := (x, 0, 0) }) (y := x) (v := 0) hi rfl rfl hbad (G.okq (a := true) hW' (by simp) (by simp) ⟨by omega, by omega⟩) rfl ⟨by omega, by omega⟩ ?_ (fun z => ?_) ?_ ⟨fun _ => rfl, fun hm => absurd (by rw [← hpl]; exact hm) hnp, fun hm => ?_, fun hm => ?_⟩ (fun z hz => ⟨fun hm => by rcases List.mem_cons.1 hm with e | e; exact absurd e hz; exact e, fun hm => .inl (by rw [← hpl]; exact hm), fun hm => ?_, fun hm => ?_⟩) ?_ ⟨g2, by show t.R.length ≤ n + 1; omega, by show t.O.length ≤ n + 1 + 100; omega⟩ (fun k u hk hu hfu => hfu.imp (fun _ => e8') fun _ f _ hf => hf.next hr (by omega) x hv0) (G.hd.step hi h0 rfl e8' (fun _ _ hm => .inl (by rw [← hpl] at hm; exact hm)) (fun _ _ hh => ?_)) ?_ (by rw [show (_ : List Int).getD 3 0 = p.W.getD 3 0 from e3']; have := G.vp; omega)
        · show Lk p.c (p.W.set 0 (nextW (p.W.getD 0 0) x)) (ptrW ((p.W.set 0 (nextW (p.W.getD 0 0) x)).getD 0 0)) (x :: l)
          rw [e0', ptr_next (by omega)]
          refine ⟨rfl, hx, ?_⟩
          rw [getD_set (by omega), hlk, toI_small hsm]
          exact G.lk.set fun z hz => by
            have := (where_link hr (G.lk.mem z hz)).2
            omega
        · show (x :: l).count z + (plc (p.W.set 0 (nextW (p.W.getD 0 0) x))).count z + (own1 { t with fs := [f], r := (x, 0, 0) }).count z + (own2 all { t with fs := [f], r := (x, 0, 0) }).count z = _
          rw [hpl, hoN, hoN2, ho1, ho2]
          simp only [List.count_cons, List.count_nil, List.count_append]
          omega
        · rw [ho2]; simp only [List.count_append, List.count_cons_self]; omega
        · rw [hoN] at hm; cases hm
        · rw [hoN2] at hm
          rcases List.mem_append.1 hm with e | e
          · exact absurd e hxR
          · exact absurd e hxO
        · rw [hoN] at hm; cases hm
        · rw [hoN2] at hm
          rw [ho2]
          rcases List.mem_append.1 hm with e | e
          · exact List.mem_append_left _ e
          · exact List.mem_append_right _ (List.mem_append_left _ e)
        · unfold FrG; rw [if_neg h0]
          exact .inr (.inr (.inr (.inl ⟨f, rfl, hf6, hfr, by omega, by omega⟩)))
        · rcases hh with hh | hh
          · rw [ho1] at hh; cases hh
          · refine .inr ⟨hh.1, fun a ha _ _ h4 => ?_⟩
            have : a = f := by simpa using ha.symm
            subst this; omega
        · show verW ((p.W.set 0 (nextW (p.W.getD 0 0) x)).getD 0 0) ≤ _
          rw [e0', hvn]; omega
      · have hcv : p.casv 0 (g.R.getD 1 0) = false := decide_eq_false (fun h => hc h.2)
        rw [hcv, if_neg (by decide), cas_f o0 w0 hc]
        exact ⟨l, tg, still { g with pc := 0 } hfn rfl ⟨fr, .inr ⟨hfn, hx, .inl rfl⟩⟩, rfl⟩
end
end Go.Proofs.Ytklbeipdigancaa

/- HazardGuards: what a step of a thread keeps: scans, retiring, protecting (plain). -/
namespace Go.Proofs.Ytklbeipdigancaa
open Go.RowKit
attribute [local irreducible] Instr.loadAt Instr.storeAt Instr.fieldAt Instr.indexAt Instr.sliceAt Instr.buildSlice Instr.box Instr.alloc Builtin.append_ Builtin.len_ Builtin.min_ Builtin.max_ Calls Instr.build Instr.makeSlice binSem convert Instr.index Instr.range Instr.next
theorem count_filt (G : Int → Bool) (x : Int) (l : List Int) : (l.filter G).count x + (l.filter fun y => !G y).count x = l.count x := by
  induction l with
  | nil => rfl
  | cons a l ih =>
    cases hg : G a with
    | true => rw [List.filter_cons_of_pos hg, List.filter_cons_of_neg (by rw [hg]; decide), List.count_cons, List.count_cons]; omega
    | false => rw [List.filter_cons_of_neg (by rw [hg]; decide), List.filter_cons_of_pos (by rw [hg]; rfl), List.count_cons, List.count_cons]; omega
section
variable {p q : PS} {all : Nat} {l l' tg tg' : List Int} {h h' : Int} {n i : Nat} {t t' : PT} {f g : Fr}
theorem GI.fsl (G : GI p all l tg h n) (hi : p.ths[i]? = some t) : t.fs.length ≤ 2 := by
  obtain ⟨g1, -⟩ := G.th i t hi
  unfold FrG at g1
  by_cases h0 : i = 0
  · rw [if_pos h0] at g1
    rcases g1.2 with h | ⟨a, h, -⟩
    · rw [h]; simp
    · rw [h]; simp
  · rw [if_neg h0] at g1
    rcases g1 with h | ⟨a, h, -⟩ | ⟨a, h, -⟩ | ⟨a, h, -⟩ | ⟨a, b, h, -⟩
    · rw [h]; simp
    · rw [h]; simp
    · rw [h]; simp
    · rw [h]; simp
    · rw [h]; simp
theorem GI.top (G : GI p all l tg h n) : topL p i ≤ 90000 := by
  cases hi : p.ths[i]? with
  | none => unfold topL; rw [hi]; exact Nat.zero_le _
  | some t => rw [topL_at hi]; have := G.fsl hi; omega
theorem GI.rnd (G : GI p all l tg h n) (hn : n ≤ 80000) (ha : p.acted = false) (hi : p.ths[i]? = some t) {fs : List Fr} (hfs : t.fs = fs ++ [f]) (hl : fs.length ≤ 10) (hR : ∀ j, u64R (f.R.getD j 0)) (hpc : 0 ≤ f.pc ∧ f.pc ≤ 100000) {m : Nat} (hr : Rnd i m (hzDo p i t fs f) q) : Rnd i (m + 1) p q := by
  obtain ⟨g1, g2, g3, g4⟩ := G.th i t hi
  exact ⟨ha, t, fs, f, hi, hfs, by omega, hR, hpc, by omega, by omega, G.ok.up (by omega), hr⟩
/-- what a step of a thread keeps -/
def Stp (p : PS) (i all : Nat) (h : Int) (n : Nat) : Prop := ∃ m q l' tg', Rnd i m (calm0 p) q ∧ GI q all l' tg' h (n + 2)
theorem GI.rnd0 (G : GI p all l tg h n) (ha : p.acted = true) : Rnd i 0 p p := ⟨rfl, .inl ha, G.top⟩
theorem GI.stA (G : GI p all l tg h n) (hn : n ≤ 80000) (h0 : i ≠ 0) (hi : p.ths[i]? = some t) (hf : t.fs = [f]) (hfn : f.fn = 1) (hw : t.W.getD 0 0 = 1) (fo : FrOk p.c p.W f) : Stp p i all h n := by
  obtain ⟨l', tg', G2, ha⟩ := G.calm.alloc (by omega) h0 hi hf hfn hw fo
  have hpc : 0 ≤ f.pc ∧ f.pc ≤ 100000 := by
    rcases fo.2 with ⟨-, hh | ⟨-, -, hh | ⟨hh, -⟩⟩⟩ | ⟨hh, -⟩ <;> omega
  refine ⟨1, _, l', tg', G.calm.rnd hn rfl hi (fs := []) hf (by simp) fo.1 hpc ?_, G2.up (by omega)⟩
  rw [hzDo_ar (.inl hfn)]
  exact G2.rnd0 ha
theorem GI.stB (G : GI p all l tg h n) (hn : n ≤ 80000) (h0 : i ≠ 0) (hi : p.ths[i]? = some t) (hf : t.fs = [f, g]) (hf6 : f.fn = 6) (hfr : ∀ j, u64R (f.R.getD j 0)) (hpc : f.pc = (all : Int) + 1) (hfn : g.fn = 2) (fo : FrOk p.c p.W g) (ha : p.acted = false) : ∃ q l' tg', Rnd i 1 p q ∧ GI q all l' tg' h (n + 1) := by
  obtain ⟨l', tg', G2, ha2⟩ := G.rel (by omega) h0 hi hf hf6 hfr hpc hfn fo
  have hpc : 0 ≤ g.pc ∧ g.pc ≤ 100000 := by
    rcases fo.2 with ⟨hh, -⟩ | ⟨-, -, hh | ⟨-, hh | ⟨hh, -⟩⟩⟩ <;> omega
  refine ⟨_, l', tg', G.rnd hn ha hi (fs := [f]) hf (by simp) fo.1 hpc ?_, G2⟩
  rw [hzDo_ar (.inr hfn)]
  have : arDo p i t [f] g = arRelease p i t [f] g := by
    unfold arDo; rw [if_neg (by omega), if_pos hfn]
  rw [this]
  exact G2.rnd0 ha2
theorem ths_at {p : PS} (hi : p.ths[i]? = some t) : (p.ths.set i t')[i]? = some t' := by
  rw [List.getElem?_set, if_pos rfl, if_pos (List.getElem?_eq_some_iff.1 hi).1]
/-- the end of a scan's reading, or of a releasing under it -/
theorem GI.scE (G : GI p all l tg h n) (hn : n ≤ 70000) (h0 : i ≠ 0) (hi : p.ths[i]? = some t) (hf : t.fs = [f]) (hf6 : f.fn = 6) (hfr : ∀ j, u64R (f.R.getD j 0)) (hpc0 : 0 ≤ f.pc ∧ f.pc ≤ 100000) {t2 : PT} {f2 : Fr} {out : List Int} (e : hzDo (calm0 p) i t [] f = scEnd (calm0 p) i t2 [] f2 out) (e123 : t2.P = t.P ∧ t2.S = t.S ∧ t2.W = t.W)
    (hf26 : f2.fn = 6) (hf2r : ∀ j, u64R (f2.R.getD j 0)) (hpc2 : f2.pc = (all : Int) + 1) (hc : ∀ x, t2.R.count x + out.count x = (own2 all t).count x) (hR : t2.R.length ≤ n) (hO : out.length ≤ n + 100) (hk : Kp all h t → h ∈ t2.R) : Stp p i all h n := by
  have ho1 : own1 t = [] := own1_f hf (by omega)
  have Gc := G.calm
  cases out with
  | nil =>
    have G2 := Gc.still (t' := { t2 with fs := [], r := (0, 0, 0), O := [] }) h0 hi false p.k ⟨by show p.k ≤ p.k; omega, by show p.k ≤ p.k + 2; omega⟩ ⟨e123.1, e123.2.1, by show t2.W.length = _; rw [e123.2.2]⟩ (by show t2.R.length ≤ _; omega) (by show ([] : List Int).length ≤ _; simp) (fun x => by rw [ho1, own1_z rfl rfl]) (fun x => by rw [own2_0 (t := { t2 with fs := [], r := (0, 0, 0), O := [] }) rfl]; have := hc x; rw [← this]; simp) (by unfold FrG; rw [if_neg h0]; exact .inl rfl) (fun _ _ hh => .inr ⟨hk hh, fun a ha => by cases ha⟩)
    refine ⟨1, _, l, tg, Gc.rnd (by omega) rfl hi (fs := []) hf (by simp) hfr hpc0 ?_, G2.up (by omega)⟩
    rw [e]
    refine ⟨rfl, .inr ?_, G2.top⟩
    show topL ((calm0 p).put i { t2 with fs := [], r := (0, 0, 0), O := [] }) i = 0
    rw [topL_at (p := (calm0 p).put i { t2 with fs := [], r := (0, 0, 0), O := [] }) (ths_at hi)]; rfl
  | cons x O =>
    have hxm : x ∈ own2 all t := List.count_pos_iff.1 (by have := hc x; rw [List.count_cons_self] at this; omega)
    have hrg := G.rg (.inr (.inr (.inr (mem_tot _ hi hxm))))
    have hs0 := G.s0
    have hN := G.facts.2.2.2.2
    have hxw : IntKind.u64.wrap x = x := by rw [IntKind.wrap_u64]; omega
    have hx1 : u64R x := ⟨by omega, by omega⟩
    have fo : FrOk p.c p.W ⟨2, 0, [x]⟩ := ⟨regs_1 hx1, .inr ⟨rfl, by show 1 ≤ x ∧ x ≤ _; omega, .inl rfl⟩⟩
    have G2 := Gc.still (t' := { t2 with fs := [f2, ⟨2, 0, [x]⟩], O := O }) h0 hi false p.k ⟨by show p.k ≤ p.k; omega, by show p.k ≤ p.k + 2; omega⟩ ⟨e123.1, e123.2.1, by show t2.W.length = _; rw [e123.2.2]⟩ (by show t2.R.length ≤ _; omega) (by show O.length ≤ _; have : O.length + 1 ≤ n + 100 := hO; omega) (fun y => by rw [ho1, own1_2 (t := { t2 with fs := [f2, ⟨2, 0, [x]⟩], O := O }) rfl]) (fun y => by
      rw [own2_2 (t := { t2 with fs := [f2, ⟨2, 0, [x]⟩], O := O }) rfl, ← hc y]
      show (t2.R ++ (O ++ [x])).count y = _
      simp only [List.count_append, List.count_cons, List.count_nil]; omega) (by unfold FrG; rw [if_neg h0]; exact .inr (.inr (.inr (.inr ⟨f2, ⟨2, 0, [x]⟩, rfl, hf26, hf2r, hpc2, rfl, fo⟩)))) (fun _ _ hh => .inr ⟨hk hh, fun a ha => by cases ha⟩)
    have hi2 : ({ calm0 p with acted := false, k := p.k, ths := (calm0 p).ths.set i { t2 with fs := [f2, ⟨2, 0, [x]⟩], O := O } } : PS).ths[i]? = some { t2 with fs := [f2, ⟨2, 0, [x]⟩], O := O } := ths_at hi
    obtain ⟨q, l', tg', r1, G3⟩ := G2.stB (by omega) h0 hi2 rfl hf26 hf2r hpc2 rfl fo rfl
    refine ⟨2, q, l', tg', Gc.rnd (by omega) rfl hi (fs := []) hf (by simp) hfr hpc0 ?_, G3⟩
    rw [e]
    show Rnd i 1 ((calm0 p).put i { t2 with fs := [] ++ [f2] ++ [⟨2, 0, [IntKind.u64.wrap x]⟩], O := O }) q
    rw [hxw]
    exact r1
/-- a slot is read -/
theorem GI.scL (G : GI p all l tg h n) (h0 : i ≠ 0) (hi : p.ths[i]? = some t) (hf : t.fs = [f]) (hf6 : f.fn = 6) (hfr : ∀ j, u64R (f.R.getD j 0)) (hpc : 0 ≤ f.pc ∧ f.pc < (all : Int)) : GI (hzDo p i t [] f) all l tg h (n + 1) ∧ (hzDo p i t [] f).acted = true := by
  obtain ⟨ha1, ha2, ha3⟩ := G.bse
  have hr := G.ok.r
  have hz := size_bd hr
  have hW := G.ok.l
  have hal := G.al
  have hT := G.T
  have hlin := haz_lin hr (i := f.pc) ⟨hpc.1, by omega⟩
  have hs : 2 ≤ p.c.slots := by
    generalize p.c = c at *
    obtain ⟨A, T, N, L, B, P, S⟩ := c
    exact (plan_bd hr).1.1
  have hwh : (p.c.where_ (8 + f.pc)).1 ≠ 3 ∧ 8 + f.pc < sizeP p.c.A p.c.T p.c.N p.c.L := by
    have h1 : f.pc.tdiv p.c.slots = f.pc / p.c.slots := Int.tdiv_eq_ediv_of_nonneg (by omega)
    have h2 : f.pc.tmod p.c.slots = f.pc % p.c.slots := Int.tmod_eq_emod_of_nonneg (by omega)
    have h3 : 0 ≤ f.pc / p.c.slots := Int.ediv_nonneg (by omega) (by omega)
    have h4 : f.pc / p.c.slots < p.c.T := Int.ediv_lt_of_lt_mul (by omega) (by rw [Int.mul_comm]; omega)
    have h5 : 0 ≤ f.pc % p.c.slots := Int.emod_nonneg _ (by omega)
    have h6 : f.pc % p.c.slots < p.c.slots := Int.emod_lt_of_pos _ (by omega)
    obtain ⟨q1, -, q2, -⟩ := haz_at hr (i := f.pc / p.c.slots) (k := f.pc % p.c.slots) ⟨h3, h4⟩ ⟨h5, h6⟩
    rw [← h1, ← h2, hlin] at q1 q2
    exact ⟨q1, q2⟩
  obtain ⟨hw1, hw2⟩ := hwh
  have hok : p.okP (8 + f.pc) := ⟨by omega, by omega⟩
  have ho1 : own1 t = [] := own1_f hf (by omega)
  have ho2 : own2 all t = t.R := own2_1 hf (fun h => by omega)
  have hldv : p.ldv (8 + f.pc) = p.W.getD (8 + f.pc).toNat 0 := by unfold PS.ldv; rw [if_pos hok]; rfl
  obtain ⟨g1, g2, g3, g4⟩ := G.th i t hi
  rw [hz6 hf6]
  unfold hzScan
  rw [if_pos (by omega)]
  have hsv : p.slotV f.pc = 8 + f.pc := hlin
  rw [hsv, ld_eq hok hw1, hldv]
  have G2 := G.still (t' := { t with fs := [{ f with pc := f.pc + 1 }], O := (if f.pc = 0 then [] else t.O) ++ [toI (p.W.getD (8 + f.pc).toNat 0)] }) h0 hi true (p.k + 1) ⟨by omega, by omega⟩ ⟨rfl, rfl, rfl⟩ (by show t.R.length ≤ _; omega) (by
    show ((if f.pc = 0 then [] else t.O) ++ [_]).length ≤ _
    rw [List.length_append]
    split
    · simp
    · simp; omega) (fun x => by rw [ho1, own1_f (f := { f with pc := f.pc + 1 }) rfl (show f.fn ≠ 5 by omega)]) (fun x => by
      rw [ho2, own2_1 (f := { f with pc := f.pc + 1 }) (t := { t with fs := [{ f with pc := f.pc + 1 }], O := (if f.pc = 0 then [] else t.O) ++ [toI (p.W.getD (8 + f.pc).toNat 0)] }) rfl (fun h => by have h : f.pc + 1 = (all : Int) + 1 := h.2; omega)]) (by
      unfold FrG; rw [if_neg h0]
      exact .inr (.inr (.inr (.inl ⟨_, rfl, hf6, hfr, by show 0 ≤ f.pc + 1; omega, by show f.pc + 1 ≤ _; omega⟩)))) (fun h1 h8 hh => by
      rcases hh with hh | hh
      · rw [ho1] at hh; cases hh
      refine .inr ⟨hh.1, fun a ha _ _ _ => ?_⟩
      by_cases hp0 : f.pc = 0
      · have hrg := G.rg (.inr (.inr (.inr (mem_tot (own2 all) hi (by rw [ho2]; exact hh.1)))))
        have hN := G.facts.2.2.2.2
        rw [hp0]
        show h ∈ [] ++ [toI (p.W.getD (8 + (0 : Int)).toNat 0)]
        rw [show (8 + (0 : Int)).toNat = 8 from rfl, h8, toI_small (by omega)]
        simp
      · have := hh.2 f hf hf6 (by omega) (by omega)
        show h ∈ (if f.pc = 0 then [] else t.O) ++ [_]
        rw [if_neg hp0]
        exact List.mem_append_left _ this)
  exact ⟨G2, rfl⟩
theorem GI.stS (G : GI p all l tg h n) (hn : n ≤ 70000) (h0 : i ≠ 0) (hi : p.ths[i]? = some t) (hf : t.fs = [f]) (hf6 : f.fn = 6) (hfr : ∀ j, u64R (f.R.getD j 0)) (hpc : 0 ≤ f.pc ∧ f.pc ≤ (all : Int) + 1) : Stp p i all h n := by
  obtain ⟨ha1, ha2, ha3⟩ := G.bse
  have hal := G.al
  obtain ⟨g1, g2, g3, g4⟩ := G.th i t hi
  by_cases h1 : f.pc < (all : Int)
  · obtain ⟨G2, ha⟩ := G.calm.scL h0 hi hf hf6 hfr ⟨hpc.1, h1⟩
    exact ⟨1, _, l, tg, G.calm.rnd (by omega) rfl hi (fs := []) hf (by simp) hfr ⟨hpc.1, by omega⟩ (G2.rnd0 ha), G2.up (by omega)⟩
  by_cases h2 : f.pc = (all : Int)
  · have hfl : (t.R.filter (hasI t.O)).length ≤ t.R.length := List.length_filter_le _ _
    have hfl2 : (t.R.filter fun y => !hasI t.O y).length ≤ t.R.length := List.length_filter_le _ _
    refine G.scE hn h0 hi hf hf6 hfr ⟨hpc.1, by omega⟩ (t2 := { t with R := t.R.filter (hasI t.O) }) (f2 := { f with pc := f.pc + 1 }) (out := t.R.filter fun y => !hasI t.O y) ?_ ⟨rfl, rfl, rfl⟩ hf6 hfr (by show f.pc + 1 = _; omega) (fun x => ?_) (by show (t.R.filter (hasI t.O)).length ≤ _; omega) (by omega) (fun hh => ?_)
    · rw [hz6 hf6]
      unfold hzScan
      show (if f.pc < p.c.slots * p.c.T then _ else if f.pc = p.c.slots * p.c.T then _ else _) = _
      rw [if_neg (by omega), if_pos (by omega)]
    · rw [own2_1 hf (fun h => by omega)]
      exact count_filt _ _ _
    · rcases hh with hh | hh
      · rw [own1_f hf (by omega)] at hh; cases hh
      refine List.mem_filter.2 ⟨hh.1, ?_⟩
      have := hh.2 f hf hf6 (by omega) (by omega)
      unfold hasI
      exact List.any_eq_true.2 ⟨h, this, by simp⟩
  · have h3 : f.pc = (all : Int) + 1 := by omega
    refine G.scE hn h0 hi hf hf6 hfr ⟨hpc.1, by omega⟩ (t2 := t) (f2 := f) (out := t.O) ?_ ⟨rfl, rfl, rfl⟩ hf6 hfr h3 (fun x => ?_) g3 g4 (fun hh => ?_)
    · rw [hz6 hf6]
      unfold hzScan
      show (if f.pc < p.c.slots * p.c.T then _ else if f.pc = p.c.slots * p.c.T then _ else _) = _
      rw [if_neg (by omega), if_neg (by omega)]
    · rw [own2_e hf ⟨hf6, h3⟩, List.count_append]
    · rcases hh with hh | hh
      · rw [own1_f hf (by omega)] at hh; cases hh
      exact hh.1
/-- retiring, and the first slot that is read -/
theorem GI.stR (G : GI p all l tg h n) (hn : n ≤ 70000) (h0 : i ≠ 0) (hi : p.ths[i]? = some t) (hf : t.fs = [f]) (hf5 : f.fn = 5) (hpc : f.pc = 0) (hfr : ∀ j, u64R (f.R.getD j 0)) (hx : 1 ≤ f.R.getD 0 0 ∧ f.R.getD 0 0 ≤ p.c.N) : Stp p i all h n := by
  obtain ⟨ha1, ha2, ha3⟩ := G.bse
  have Gc := G.calm
  obtain ⟨g1, g2, g3, g4⟩ := G.th i t hi
  have ho1 : own1 t = [f.R.getD 0 0] := own1_5 hf hf5
  have ho2 : own2 all t = t.R := own2_1 hf (fun h => by omega)
  have hN := G.facts.2.2.2.2
  have htl := G.tl
  have hs0 := G.s0
  have hxI : toI (f.R.getD 0 0) = f.R.getD 0 0 := toI_small (by omega)
  have hm1 : f.R.getD 0 0 ∈ tot own1 p.ths := mem_tot own1 hi (by rw [ho1]; simp)
  have htag := G.t1 _ hm1
  have hrg := G.rg (.inr (.inr (.inl hm1)))
  have hc1 := G.le1 (f.R.getD 0 0)
  have hcm := List.count_pos_iff.2 hm1
  have hver := G.ver
  generalize hxe : f.R.getD 0 0 = x at *
  have hRx := tot_le (own2 all) x hi
  rw [ho2] at hRx
  have hxl : x ∉ l := fun hm => by have := List.count_pos_iff.2 hm; omega
  have hxp : x ∉ plc p.W := fun hm => by have := List.count_pos_iff.2 hm; omega
  have key : ∀ fs' : List Fr, (fs' = [] ∨ fs' = [⟨6, 0, []⟩]) → GI ⟨p.c, p.W, p.k, some (tg.set (x - 1).toNat 2, 0, 0), false, p.bad, p.ths.set i { t with fs := fs', r := (0, 0, 0), R := t.R ++ [x] }⟩ all l (tg.set (x - 1).toNat 2) h (n + 1) := fun fs' hfs' => by
    have n1 : own1 ({ t with fs := fs', r := (0, 0, 0), R := t.R ++ [x] } : PT) = [] := by
      rcases hfs' with rfl | rfl
      · exact own1_z rfl rfl
      · exact own1_f rfl (by decide)
    have n2 : own2 all ({ t with fs := fs', r := (0, 0, 0), R := t.R ++ [x] } : PT) = t.R ++ [x] := by
      rcases hfs' with rfl | rfl
      · exact own2_0 rfl
      · exact own2_1 (f := ⟨6, 0, []⟩) rfl (fun h => by have h : (0 : Int) = (all : Int) + 1 := h.2; omega)
    have ff : FrG p.c p.W all i { t with fs := fs', r := (0, 0, 0), R := t.R ++ [x] } := by
      unfold FrG; rw [if_neg h0]
      rcases hfs' with rfl | rfl
      · exact .inl rfl
      · exact .inr (.inr (.inr (.inl ⟨_, rfl, rfl, regs_0, by show (0 : Int) ≤ 0; decide, by show (0 : Int) ≤ _; omega⟩)))
    refine G.move (q := ⟨p.c, p.W, p.k, some (tg.set (x - 1).toNat 2, 0, 0), false, p.bad, p.ths.set i { t with fs := fs', r := (0, 0, 0), R := t.R ++ [x] }⟩) (t' := { t with fs := fs', r := (0, 0, 0), R := t.R ++ [x] }) (y := x) (v := 2) hi rfl rfl G.bad (G.okq (a := false) G.ok.w rfl (by simp) ⟨by omega, by omega⟩) rfl hrg G.lk (fun z => ?_) (by rw [ho1, List.count_cons_self]; omega) ⟨fun hm => absurd hm hxl, fun hm => absurd hm hxp, fun hm => ?_, fun _ => rfl⟩ (fun z hz => ⟨id, .inl, fun hm => ?_, fun hm => ?_⟩) ff ⟨g2, by show (t.R ++ [x]).length ≤ n + 1; simp; omega, by show t.O.length ≤ n + 1 + 100; omega⟩ (fun _ _ _ _ hh => hh) (G.hd.step hi h0 rfl rfl (fun _ _ hm => .inl hm) (fun _ _ hh => ?_)) (by show verW (p.W.getD 0 0) ≤ _; omega) (by have := G.vp; show verW (p.W.getD 3 0) ≤ _; omega)
    · show l.count z + (plc p.W).count z + (own1 { t with fs := fs', r := (0, 0, 0), R := t.R ++ [x] }).count z + (own2 all { t with fs := fs', r := (0, 0, 0), R := t.R ++ [x] }).count z = _
      rw [n1, n2, ho1, ho2]
      simp only [List.count_append, List.count_cons, List.count_nil]; omega
    · rw [n1] at hm; cases hm
    · rw [n1] at hm; cases hm
    · rw [n2] at hm
      rw [ho2]
      rcases List.mem_append.1 hm with e | e
      · exact e
      · exact absurd (List.mem_singleton.1 e) hz
    · refine .inr ⟨?_, fun a ha h6 hp1 _ => ?_⟩
      · show h ∈ t.R ++ [x]
        rcases hh with hh | hh
        · rw [ho1] at hh; exact List.mem_append_right _ hh
        · exact List.mem_append_left _ hh.1
      · rcases hfs' with rfl | rfl
        · cases ha
        · have : a = ⟨6, 0, []⟩ := by simpa using ha.symm
          subst this
          exact absurd hp1 (by decide)
  have hdo : ∀ fs' : List Fr, hzDo (calm0 p) i t [] f = ((calm0 p).deed x 1 2 2).put i { t with fs := fs', r := (0, 0, 0), R := t.R ++ [x] } → hzDo (calm0 p) i t [] f = ⟨p.c, p.W, p.k, some (tg.set (x - 1).toNat 2, 0, 0), false, p.bad, p.ths.set i { t with fs := fs', r := (0, 0, 0), R := t.R ++ [x] }⟩ := fun fs' e => by
    rw [e, deed_put (p := calm0 p) (frm := 1) G.gh (j := x) ⟨by omega, by omega⟩ htag]; rfl
  by_cases hS : (t.R.length : Int) + 1 ≥ p.c.S
  · have e := hdo [⟨6, 0, []⟩] (by
      rw [hz5 hf5]
      unfold hzRetire
      rw [if_pos (show (t.R.length : Int) + 1 ≥ (calm0 p).c.S from hS), hxe, hxI]; rfl)
    have G2 := key _ (.inr rfl)
    have hi2 : (⟨p.c, p.W, p.k, some (tg.set (x - 1).toNat 2, 0, 0), false, p.bad, p.ths.set i { t with fs := [⟨6, 0, []⟩], r := (0, 0, 0), R := t.R ++ [x] }⟩ : PS).ths[i]? = some { t with fs := [⟨6, 0, []⟩], r := (0, 0, 0), R := t.R ++ [x] } := ths_at hi
    obtain ⟨G3, ha3⟩ := G2.scL h0 hi2 rfl rfl regs_0 ⟨by show (0 : Int) ≤ 0; decide, by show (0 : Int) < _; omega⟩
    refine ⟨2, _, l, _, Gc.rnd (by omega) rfl hi (fs := []) hf (by simp) hfr (by omega) ?_, G3⟩
    rw [e]
    exact G2.rnd (by omega) rfl hi2 (fs := []) rfl (by simp) regs_0 (by show (0 : Int) ≤ 0 ∧ (0 : Int) ≤ 100000; decide) (G3.rnd0 ha3)
  · have e := hdo [] (by
      rw [hz5 hf5]
      unfold hzRetire
      rw [if_neg (show ¬ (t.R.length : Int) + 1 ≥ (calm0 p).c.S from hS), hxe, hxI])
    have G2 := key _ (.inl rfl)
    refine ⟨1, _, l, _, Gc.rnd (by omega) rfl hi (fs := []) hf (by simp) hfr (by omega) ?_, G2.up (by omega)⟩
    rw [e]
    refine ⟨rfl, .inr ?_, G2.top⟩
    rw [topL_at (p := ⟨p.c, p.W, p.k, some (tg.set (x - 1).toNat 2, 0, 0), false, p.bad, p.ths.set i { t with fs := [], r := (0, 0, 0), R := t.R ++ [x] }⟩) (ths_at hi)]; rfl
end
end Go.Proofs.Ytklbeipdigancaa

/- HazardGuards: what a step of a thread keeps: protecting; any step (plain). -/
namespace Go.Proofs.Ytklbeipdigancaa
open Go.RowKit
attribute [local irreducible] Instr.loadAt Instr.storeAt Instr.fieldAt Instr.indexAt Instr.sliceAt Instr.buildSlice Instr.box Instr.alloc Builtin.append_ Builtin.len_ Builtin.min_ Builtin.max_ Calls Instr.build Instr.makeSlice binSem convert Instr.index Instr.range Instr.next
section
variable {p q : PS} {all : Nat} {l l' tg tg' : List Int} {h h' : Int} {n i : Nat} {t t' : PT} {f g : Fr}
theorem hz3 {p : PS} {i : Nat} {t : PT} {fs : List Fr} {f : Fr} (hf : f.fn = 3) : hzDo p i t fs f = hzProtect p i t fs f := by
  unfold hzDo
  rw [if_pos hf]
theorem GI.held (G : GI p all l tg h n) (hi : p.ths[0]? = some t) (hf : t.fs ≠ []) : h = 0 := by
  rcases G.hd with h | ⟨-, -, ⟨u, h1, h2⟩, -⟩
  · exact h
  · rw [hi] at h1
    obtain rfl := Option.some.inj h1
    exact absurd h2 hf
/-- memory stays; the first thread's frames change -/
theorem GI.still0 (G : GI p all l tg h n) (hi : p.ths[0]? = some t) (a : Bool) (k' : Int) (hk : p.k ≤ k' ∧ k' ≤ p.k + 2) (e123 : t'.P = t.P ∧ t'.S = t.S ∧ t'.W = t.W) (hR : t'.R = t.R ∧ t'.O = t.O) (h1 : own1 t = [] ∧ own1 t' = []) (h2 : own2 all t = [] ∧ own2 all t' = [])
    (hfr : FrG p.c p.W all 0 t') (hh : HeldOk { p with acted := a, k := k', ths := p.ths.set 0 t' } all h') : GI { p with acted := a, k := k', ths := p.ths.set 0 t' } all l tg h' (n + 1) := by
  have hgh := G.gh
  obtain ⟨g1, g2, g3, g4⟩ := G.th 0 t hi
  have hver := G.ver
  refine G.same (t' := t') hi rfl rfl G.bad ?_ hgh G.lk rfl (fun x => by rw [h1.1, h1.2]) (fun x => by rw [h2.1, h2.2]) hfr ⟨by rw [e123.1, e123.2.1, e123.2.2]; exact g2, by rw [hR.1]; omega, by rw [hR.2]; omega⟩ (fun _ _ _ _ hh => hh) hh (by show verW (p.W.getD 0 0) ≤ _; omega)
  have := G.okq (a := a) (ths := p.ths.set 0 t') G.ok.w rfl rfl hk
  rw [← hgh] at this
  exact this
theorem GI.stP (G : GI p all l tg h n) (hn : n ≤ 70000) (hi : p.ths[0]? = some t) (hf : t.fs = [f]) : ∃ q h', Rnd 0 1 (calm0 p) q ∧ GI q all l tg h' (n + 1) ∧ ((0 < topL q 0 ∧ h' = 0 ∧ h = 0) ∨ (topL q 0 = 0 ∧ ∃ t', q.ths[0]? = some t' ∧ h' = ptrW t'.r.1 ∧ u64R t'.r.1)) := by
  have hh0 := G.held hi (by rw [hf]; simp)
  obtain ⟨ha1, ha2, ha3⟩ := G.bse
  obtain ⟨o0, w0, l0, ol, hN⟩ := G.facts
  have hr := G.ok.r
  have hz := size_bd hr
  have hW := G.ok.l
  have hT := G.T
  have hs : 2 ≤ p.c.slots := by
    generalize p.c = c at *
    obtain ⟨A, T, N, L, B, P, S⟩ := c
    exact (plan_bd hr).1.1
  have hver := G.ver
  obtain ⟨g1, g2, g3, g4⟩ := G.th 0 t hi
  unfold FrG at g1
  rw [if_pos rfl] at g1
  obtain ⟨⟨hR, hO, hw⟩, g1⟩ := g1
  rcases g1 with g1 | ⟨a, e, h3, hfr, hq0, hq1, hpc⟩
  · rw [g1] at hf; cases hf
  have : a = f := by rw [hf] at e; exact (by simpa using e.symm)
  subst this
  have ho1 : own1 t = [] := own1_f hf (by omega)
  have ho2 : own2 all t = [] := by rw [own2_1 hf (fun h => by omega), hR]
  obtain ⟨w8, -, -, h8⟩ := haz_at hr (i := 0) (k := 0) ⟨by omega, by omega⟩ ⟨by omega, by omega⟩
  have h8 : p.c.haz 0 0 = 8 := by rw [h8]; omega
  rw [h8] at w8
  have w3 := where_g hr (a := 3) (by decide)
  have ok3 : p.okP 3 := ⟨by decide, by omega⟩
  have ok8 : p.okP 8 := ⟨by decide, by omega⟩
  have hldv : p.ldv 3 = p.W.getD 3 0 := by unfold PS.ldv; rw [if_pos ok3]; rfl
  have hu3 := u64_getD G.ok.w 3
  have e3I : toI (a.R.getD 1 0) = 3 := by rw [hq1]; exact toI_small ⟨by decide, by decide⟩
  have Gc := G.calm
  have hpc9 : 0 ≤ a.pc ∧ a.pc ≤ 100000 := by rcases hpc with h | h | ⟨h, -⟩ <;> omega
  -- the thread's frame stands after
  have top : ∀ (r' : List Int) (pc' : Int), (∀ j, u64R (r'.getD j 0)) → r'.getD 0 0 = 0 → r'.getD 1 0 = 3 → (pc' = 0 ∨ pc' = 1) → ((calm0 p).load 3).put 0 (topped t [] ⟨a.fn, pc', r'⟩) = { calm0 p with acted := true, k := p.k + 1, ths := p.ths.set 0 { t with fs := [⟨a.fn, pc', r'⟩] } } → hzProtect (calm0 p) 0 t [] a = ((calm0 p).load 3).put 0 (topped t [] ⟨a.fn, pc', r'⟩) → ∃ q h', Rnd 0 1 (calm0 p) q ∧ GI q all l tg h' (n + 1) ∧ ((0 < topL q 0 ∧ h' = 0 ∧ h = 0) ∨ (topL q 0 = 0 ∧ ∃ t', q.ths[0]? = some t' ∧ h' = ptrW t'.r.1 ∧ u64R t'.r.1)) := fun r' pc' hr' h0 h1 hp' ee ed => by
    have G2 := Gc.still0 (t' := { t with fs := [⟨a.fn, pc', r'⟩] }) (h' := 0) hi true (p.k + 1) ⟨by show p.k ≤ _; omega, by show _ ≤ p.k + 2; omega⟩ ⟨rfl, rfl, rfl⟩ ⟨rfl, rfl⟩ ⟨ho1, own1_f rfl (show a.fn ≠ 5 by omega)⟩ ⟨ho2, by rw [own2_1 (f := ⟨a.fn, pc', r'⟩) rfl (fun h => by have h : a.fn = 6 := h.1; omega)]; exact hR⟩ (by
      unfold FrG; rw [if_pos rfl]
      refine ⟨⟨hR, hO, hw⟩, .inr ⟨_, rfl, h3, hr', h0, h1, ?_⟩⟩
      rcases hp' with h | h
      · exact .inl h
      · exact .inr (.inl h)) (.inl rfl)
    refine ⟨_, 0, ?_, G2, .inl ⟨?_, rfl, hh0⟩⟩
    · refine Gc.rnd (by omega) rfl hi (fs := []) hf (by simp) hfr hpc9 ?_
      rw [hz3 h3, ed, ee]
      exact G2.rnd0 rfl
    · rw [topL_at (p := { calm0 p with acted := true, k := p.k + 1, ths := (calm0 p).ths.set 0 { t with fs := [⟨a.fn, pc', r'⟩] } }) (ths_at hi)]; exact Nat.zero_lt_one
  have ldq : ∀ u : PT, ((calm0 p).load 3).put 0 u = { calm0 p with acted := true, k := p.k + 1, ths := p.ths.set 0 u } := fun u => by
    rw [ld_eq (p := calm0 p) ok3 w3]; rfl
  -- it ends with what the place holds
  have fin : (ptrW (p.W.getD 3 0) = 0 ∨ p.W.getD 8 0 = ptrW (p.W.getD 3 0)) → hzProtect (calm0 p) 0 t [] a = ((calm0 p).load 3).put 0 (popped t [] (p.W.getD 3 0)) → ∃ q h', Rnd 0 1 (calm0 p) q ∧ GI q all l tg h' (n + 1) ∧ ((0 < topL q 0 ∧ h' = 0 ∧ h = 0) ∨ (topL q 0 = 0 ∧ ∃ t', q.ths[0]? = some t' ∧ h' = ptrW t'.r.1 ∧ u64R t'.r.1)) := fun hor ed => by
    have hz0 : ({ calm0 p with acted := true, k := p.k + 1, ths := (calm0 p).ths.set 0 { t with fs := [], r := (p.W.getD 3 0, 0, 0) } } : PS).ths[0]? = some { t with fs := [], r := (p.W.getD 3 0, 0, 0) } := ths_at hi
    have G2 := Gc.still0 (t' := { t with fs := [], r := (p.W.getD 3 0, 0, 0) }) (h' := ptrW (p.W.getD 3 0)) hi true (p.k + 1) ⟨by show p.k ≤ _; omega, by show _ ≤ p.k + 2; omega⟩ ⟨rfl, rfl, rfl⟩ ⟨rfl, rfl⟩ ⟨ho1, own1_w rfl (by show t.W.getD 0 0 ≠ 1; rw [hw]; decide)⟩ ⟨ho2, by rw [own2_0 rfl]; exact hR⟩ (by
      unfold FrG; rw [if_pos rfl]
      exact ⟨⟨hR, hO, hw⟩, .inl rfl⟩) (by
      have hp := ptrW_bd (x := p.W.getD 3 0)
      rcases hor with h | h
      · exact .inl h
      by_cases h00 : ptrW (p.W.getD 3 0) = 0
      · exact .inl h00
      refine .inr ⟨by omega, h, ⟨_, hz0, rfl⟩, .inl ?_⟩
      show ptrW (p.W.getD 3 0) ∈ plc p.W
      unfold plc
      rw [if_neg h00]
      simp)
    refine ⟨_, _, ?_, G2, .inr ⟨?_, _, hz0, rfl, hu3⟩⟩
    · refine Gc.rnd (by omega) rfl hi (fs := []) hf (by simp) hfr hpc9 ?_
      rw [hz3 h3, ed, ldq]
      exact G2.rnd0 rfl
    · rw [topL_at hz0]; rfl
  have hldc : (calm0 p).ldv 3 = p.W.getD 3 0 := hldv
  have q20 : (regI a.R 2 (p.W.getD 3 0)).getD 0 0 = 0 := by rw [regI_at _ _ _ _ (by omega), if_neg (by decide)]; exact hq0
  have q21 : (regI a.R 2 (p.W.getD 3 0)).getD 1 0 = 3 := by rw [regI_at _ _ _ _ (by omega), if_neg (by decide)]; exact hq1
  rcases hpc with hp | hp | ⟨hp, hp8⟩
  · by_cases hz0 : ptrW (p.W.getD 3 0) = 0
    · refine fin (.inl hz0) ?_
      unfold hzProtect
      rw [if_pos hp, e3I, hldc, if_pos hz0]
    · refine top (regI a.R 2 (p.W.getD 3 0)) 1 (regs_I hfr hu3) q20 q21 (.inr rfl) (ldq _) ?_
      unfold hzProtect
      rw [if_pos hp, e3I, hldc, if_neg hz0]
  · -- the slot is written
    have e0I : toI (a.R.getD 0 0) = 0 := by rw [hq0]; exact toI_small ⟨by decide, by decide⟩
    have hpb := ptrW_bd (x := a.R.getD 2 0)
    generalize hv : ptrW (a.R.getD 2 0) = v at *
    have hW' : ∀ z ∈ p.W.set 8 v, u64R z := mem_set_ G.ok.w ⟨by omega, by omega⟩
    have ee : hzProtect (calm0 p) 0 t [] a = ⟨p.c, p.W.set 8 v, p.k + 1, some (tg, 0, 0), true, p.bad, p.ths.set 0 { t with fs := [{ a with pc := 2 }] }⟩ := by
      unfold hzProtect
      rw [if_neg (by omega), if_pos hp, e0I]
      show ((calm0 p).store (p.c.haz 0 0) (ptrW (a.R.getD 2 0))).put 0 _ = _
      rw [h8, hv, st_eq (p := calm0 p) ok8 w8, ← G.gh]; rfl
    have e0' : (p.W.set 8 v).getD 0 0 = p.W.getD 0 0 := getD_set (by omega)
    have e3' : (p.W.set 8 v).getD 3 0 = p.W.getD 3 0 := getD_set (by omega)
    have e8' : (p.W.set 8 v).getD 8 0 = v := setD_self (by omega)
    have hlk : ∀ x, 1 ≤ x ∧ x ≤ p.c.N → (p.W.set 8 v).getD (p.c.link x).toNat 0 = p.W.getD (p.c.link x).toNat 0 := fun x hx => by
      have := (where_link hr hx).2
      exact getD_set (by omega)
    have G2 : GI ⟨p.c, p.W.set 8 v, p.k + 1, some (tg, 0, 0), true, p.bad, p.ths.set 0 { t with fs := [{ a with pc := 2 }] }⟩ all l tg 0 (n + 1) := by
      refine G.same (q := ⟨p.c, p.W.set 8 v, p.k + 1, some (tg, 0, 0), true, p.bad, p.ths.set 0 { t with fs := [{ a with pc := 2 }] }⟩) (t' := { t with fs := [{ a with pc := 2 }] }) hi rfl rfl G.bad (G.okq (a := true) hW' (by simp) rfl ⟨by omega, by omega⟩) rfl ?_ e3' (fun x => by rw [ho1, own1_f (f := { a with pc := 2 }) rfl (show a.fn ≠ 5 by omega)]) (fun x => by rw [ho2, own2_1 (f := { a with pc := 2 }) (t := { t with fs := [{ a with pc := 2 }] }) rfl (fun h => by have h : a.fn = 6 := h.1; omega), hR]) ?_ ⟨g2, by show t.R.length ≤ _; omega, by show t.O.length ≤ _; omega⟩ (fun k u hk hu hfu => hfu.congr (fun h => absurd h hk) e0' hlk) (.inl rfl) (by show verW ((p.W.set 8 v).getD 0 0) ≤ _; rw [e0']; omega)
      · show Lk p.c (p.W.set 8 v) (ptrW ((p.W.set 8 v).getD 0 0)) l
        rw [e0']
        exact G.lk.congr hr hlk
      · unfold FrG; rw [if_pos rfl]
        refine ⟨⟨hR, hO, hw⟩, .inr ⟨_, rfl, h3, hfr, hq0, hq1, .inr (.inr ⟨rfl, ?_⟩)⟩⟩
        show (p.W.set 8 v).getD 8 0 = ptrW (a.R.getD 2 0)
        rw [e8', hv]
    refine ⟨_, 0, ?_, G2, .inl ⟨?_, rfl, hh0⟩⟩
    · refine Gc.rnd (by omega) rfl hi (fs := []) hf (by simp) hfr hpc9 ?_
      rw [hz3 h3, ee]
      exact G2.rnd0 rfl
    · rw [topL_at (p := ⟨p.c, p.W.set 8 v, p.k + 1, some (tg, 0, 0), true, p.bad, p.ths.set 0 { t with fs := [{ a with pc := 2 }] }⟩) (ths_at hi)]; exact Nat.zero_lt_one
  · by_cases hcc : p.W.getD 3 0 = a.R.getD 2 0 ∨ ptrW (p.W.getD 3 0) = 0
    · refine fin ?_ ?_
      · rcases hcc with h | h
        · right; rw [hp8, h]
        · exact .inl h
      · unfold hzProtect
        rw [if_neg (by omega), if_neg (by omega), e3I, hldc, if_pos hcc]
    · refine top (regI a.R 2 (p.W.getD 3 0)) 1 (regs_I hfr hu3) q20 q21 (.inr rfl) (ldq _) ?_
      unfold hzProtect
      rw [if_neg (by omega), if_neg (by omega), e3I, hldc, if_neg hcc]
/-- any step -/
theorem GI.step (G : GI p all l tg h n) (hn : n ≤ 70000) (hi : p.ths[i]? = some t) (hf : t.fs ≠ []) : ∃ m q l' tg' h', Rnd i m (calm0 p) q ∧ GI q all l' tg' h' (n + 2) ∧ (i ≠ 0 → h' = h) ∧ (i = 0 → (0 < topL q i ∧ h' = h) ∨ (topL q i = 0 ∧ ∃ t', q.ths[i]? = some t' ∧ h' = ptrW t'.r.1 ∧ u64R t'.r.1)) := by
  by_cases h0 : i = 0
  · subst h0
    obtain ⟨g1, -⟩ := G.th 0 t hi
    unfold FrG at g1
    rw [if_pos rfl] at g1
    rcases g1.2 with g1 | ⟨a, e, -⟩
    · exact absurd g1 hf
    obtain ⟨q, h', r1, r2, r3⟩ := G.stP hn hi e
    refine ⟨1, q, l, tg, h', r1, r2.up (by omega), fun h => absurd rfl h, fun _ => ?_⟩
    rcases r3 with ⟨a1, a2, a3⟩ | r3
    · exact .inl ⟨a1, by rw [a2, a3]⟩
    · exact .inr r3
  · have key : Stp p i all h n := by
      obtain ⟨g1, -⟩ := G.th i t hi
      unfold FrG at g1
      rw [if_neg h0] at g1
      rcases g1 with g1 | ⟨a, e, h5, hp, hr, hx⟩ | ⟨a, e, h1, hw, fo⟩ | ⟨a, e, h6, hr, hp⟩ | ⟨a, b, e, h6, hr, hp, h2, fo⟩
      · exact absurd g1 hf
      · exact G.stR hn h0 hi e h5 hp hr hx
      · exact G.stA (by omega) h0 hi e h1 hw fo
      · exact G.stS hn h0 hi e h6 hr hp
      · obtain ⟨q, l', tg', r1, G2⟩ := G.calm.stB (by omega) h0 hi e h6 hr hp h2 fo rfl
        exact ⟨1, q, l', tg', r1, G2.up (by omega)⟩
    obtain ⟨m, q, l', tg', r1, r2⟩ := key
    exact ⟨m, q, l', tg', h, r1, r2, fun _ => rfl, fun h => absurd h h0⟩
end
end Go.Proofs.Ytklbeipdigancaa

/- HazardGuards: what the law itself changes; how it begins (plain, but for the last). -/
namespace Go.Proofs.Ytklbeipdigancaa
open Go.RowKit
attribute [local irreducible] Instr.loadAt Instr.storeAt Instr.fieldAt Instr.indexAt Instr.sliceAt Instr.buildSlice Instr.box Instr.alloc Builtin.append_ Builtin.len_ Builtin.min_ Builtin.max_ Calls Instr.build Instr.makeSlice binSem convert Instr.index Instr.range Instr.next
section
variable {p q : PS} {all : Nat} {l l' tg tg' : List Int} {h h' : Int} {n i : Nat} {t t' : PT} {f g : Fr}
theorem GI.put_ (G : GI p all l tg h n) (h0 : i ≠ 0) (hi : p.ths[i]? = some t) (hf : t.fs = []) (e123 : t'.P = t.P ∧ t'.S = t.S ∧ t'.W.length = t.W.length) (hR : t'.R = t.R) (hO : t'.O = t.O) (h1 : own1 t = [] ∧ own1 t' = []) (h2 : own2 all t' = t.R)
    (hfr : FrG p.c p.W all i t') (hk : ∀ f, t'.fs = [f] → f.fn = 6 → f.pc = 0) : GI (p.put i t') all l tg h (n + 1) := by
  obtain ⟨g1, g2, g3, g4⟩ := G.th i t hi
  exact G.still (t' := t') h0 hi p.acted p.k ⟨by omega, by omega⟩ e123 (by rw [hR]; omega) (by rw [hO]; omega) (fun x => by rw [h1.1, h1.2]) (fun x => by rw [h2, own2_0 hf]) hfr (fun _ _ hh => by
    rcases hh with hh | hh
    · rw [h1.1] at hh; cases hh
    · exact .inr ⟨by rw [hR]; exact hh.1, fun a ha h6 hp => by have := hk a ha h6; omega⟩)
theorem setW0 {t : List Int} (h : 1 ≤ t.length) (v : Int) : (t.set 0 v).getD 0 0 = v := setD_self (by omega)
/-- a thread asks for a node -/
theorem GI.lawA (G : GI p all l tg h n) (h0 : i ≠ 0) (hi : p.ths[i]? = some t) (hf : t.fs = []) (hw : t.W.getD 0 0 = 0) : GI (p.put i { t with fs := [⟨1, 0, []⟩], W := t.W.set 0 1 }) all l tg h (n + 1) := by
  obtain ⟨g1, g2, g3, g4⟩ := G.th i t hi
  exact G.put_ (t' := { t with fs := [⟨1, 0, []⟩], W := t.W.set 0 1 }) h0 hi hf ⟨rfl, rfl, by simp⟩ rfl rfl ⟨own1_w hf (by omega), own1_f (f := ⟨1, 0, []⟩) rfl (by decide)⟩ (own2_1 (f := ⟨1, 0, []⟩) rfl (fun h => absurd h.1 (by decide))) (by
    unfold FrG; rw [if_neg h0]
    exact .inr (.inr (.inl ⟨_, rfl, rfl, setW0 g2.2.2 1, regs_0, .inl ⟨rfl, .inl rfl⟩⟩))) (fun a ha h6 => by
    have : a = ⟨1, 0, []⟩ := by simpa using ha.symm
    subst this; rfl)
/-- .. scans, as there is none -/
theorem GI.lawS (G : GI p all l tg h n) (h0 : i ≠ 0) (hi : p.ths[i]? = some t) (hf : t.fs = []) (hr : t.r.1 = 0) : GI (p.put i { t with fs := [⟨6, 0, []⟩], W := t.W.set 0 0 }) all l tg h (n + 1) := by
  have hb := G.bse
  exact G.put_ (t' := { t with fs := [⟨6, 0, []⟩], W := t.W.set 0 0 }) h0 hi hf ⟨rfl, rfl, by simp⟩ rfl rfl ⟨own1_z hf hr, own1_f (f := ⟨6, 0, []⟩) rfl (by decide)⟩ (own2_1 (f := ⟨6, 0, []⟩) rfl (fun h => by have h : (0 : Int) = (all : Int) + 1 := h.2; omega)) (by
    unfold FrG; rw [if_neg h0]
    exact .inr (.inr (.inr (.inl ⟨_, rfl, rfl, regs_0, by show (0 : Int) ≤ 0; decide, by show (0 : Int) ≤ _; omega⟩)))) (fun a ha h6 => by
    have : a = ⟨6, 0, []⟩ := by simpa using ha.symm
    subst this; rfl)
/-- .. begins anew -/
theorem GI.lawD (G : GI p all l tg h n) (h0 : i ≠ 0) (hi : p.ths[i]? = some t) (hf : t.fs = []) (hw : t.W.getD 0 0 ≠ 1) : GI (p.put i { t with W := t.W.set 0 0, r := (0, t.r.2.1, t.r.2.2) }) all l tg h (n + 1) := by
  exact G.put_ (t' := { t with W := t.W.set 0 0, r := (0, t.r.2.1, t.r.2.2) }) h0 hi hf ⟨rfl, rfl, by simp⟩ rfl rfl ⟨own1_w hf hw, own1_z hf rfl⟩ (own2_0 hf) (by
    unfold FrG; rw [if_neg h0]
    exact .inl hf) (fun a ha h6 => by
    have ha : t.fs = [a] := ha
    rw [hf] at ha; cases ha)
/-- the first thread protects -/
theorem GI.lawP (G : GI p all l tg h n) (hi : p.ths[0]? = some t) (hf : t.fs = []) : GI (p.put 0 { t with fs := [⟨3, 0, [0, 3]⟩] }) all l tg 0 (n + 1) := by
  obtain ⟨g1, -⟩ := G.th 0 t hi
  unfold FrG at g1
  rw [if_pos rfl] at g1
  obtain ⟨⟨hR, hO, hw⟩, -⟩ := g1
  have G2 := G.still0 (t' := { t with fs := [⟨3, 0, [0, 3]⟩] }) (h' := 0) hi p.acted p.k ⟨by omega, by omega⟩ ⟨rfl, rfl, rfl⟩ ⟨rfl, rfl⟩ ⟨own1_w hf (by omega), own1_f (f := ⟨3, 0, [0, 3]⟩) rfl (by decide)⟩ ⟨by rw [own2_0 hf]; exact hR, by rw [own2_1 (f := ⟨3, 0, [0, 3]⟩) rfl (fun h => absurd h.1 (by decide))]; exact hR⟩ (by
    unfold FrG; rw [if_pos rfl]
    refine ⟨⟨hR, hO, hw⟩, .inr ⟨_, rfl, rfl, fun j => ?_, rfl, rfl, .inl rfl⟩⟩
    match j with
    | 0 => exact ⟨by decide, by decide⟩
    | 1 => exact ⟨by show (0 : Int) ≤ 3; decide, by show (3 : Int) ≤ _; decide⟩
    | j + 2 =>
      have : ([0, 3] : List Int).getD (j + 2) 0 = 0 := by simp [List.getD]
      show u64R (([0, 3] : List Int).getD (j + 2) 0)
      rw [this]; exact ⟨by decide, by decide⟩) (.inl rfl)
  exact G2
/-- what is written into the place -/
def nxP (old x : Int) : Int := old - old % 131072 + 131072 + 2 * x
theorem nxP_at {old x : Int} (ho : 0 ≤ old) (hx : 0 ≤ x ∧ x < 65536) : ptrW (nxP old x) = x ∧ verW (nxP old x) = verW old + 1 := by
  unfold nxP ptrW verW
  omega
/-- the place is given another node -/
theorem GI.lawT (G : GI p all l tg h n) (hn : n ≤ 70000) (h0 : i ≠ 0) (hi : p.ths[i]? = some t) (hf : t.fs = []) (hw : t.W.getD 0 0 = 1) (hr : t.r.1 ≠ 0) {fs' : List Fr} (hfs : fs' = if ptrW (p.W.getD 3 0) = 0 then [] else [⟨5, 0, [ptrW (p.W.getD 3 0)]⟩]) {P' S' : List Int} (hP : P'.length = t.P.length) (hS : S'.length = t.S.length) :
    GI ⟨p.c, p.W.set 3 (nxP (p.W.getD 3 0) t.r.1), p.k + 1, p.gh, p.acted, p.bad, p.ths.set i { t with fs := fs', P := P', S := S', W := t.W.set 0 2 }⟩ all l tg h (n + 1) ∧ (1 ≤ t.r.1 ∧ t.r.1 ≤ 64) := by
  obtain ⟨o0, w0, l0, ol, hN⟩ := G.facts
  obtain ⟨g1, g2, g3, g4⟩ := G.th i t hi
  have hrc := G.ok.r
  have ho1 : own1 t = [t.r.1] := own1_x hf hw rfl hr
  have ho2 : own2 all t = t.R := own2_0 hf
  have hm1 : t.r.1 ∈ tot own1 p.ths := mem_tot own1 hi (by rw [ho1]; simp)
  have htag := G.t1 _ hm1
  have hrg := G.rg (.inr (.inr (.inl hm1)))
  have hs0 := G.s0
  have hu3 := u64_getD G.ok.w 3
  have hgh := G.gh
  have hver := G.ver
  have hvp := G.vp
  have hpb := ptrW_bd (x := p.W.getD 3 0)
  generalize hx : t.r.1 = x at *
  obtain ⟨n1, n2⟩ := nxP_at (old := p.W.getD 3 0) (x := x) hu3.1 (by omega)
  have hnu : u64R (nxP (p.W.getD 3 0) x) := by
    have : nxP (p.W.getD 3 0) x = 131072 * verW (nxP (p.W.getD 3 0) x) + nxP (p.W.getD 3 0) x % 131072 := by unfold verW; omega
    rw [n2] at this
    have hv0 : 0 ≤ verW (p.W.getD 3 0) := by unfold verW; omega
    have := Int.emod_nonneg (nxP (p.W.getD 3 0) x) (show (131072 : Int) ≠ 0 by decide)
    have := Int.emod_lt_of_pos (nxP (p.W.getD 3 0) x) (show (0 : Int) < 131072 by decide)
    exact ⟨by omega, by omega⟩
  refine ⟨?_, by omega, by omega⟩
  generalize hnx : nxP (p.W.getD 3 0) x = nx at *
  have hW' : ∀ z ∈ p.W.set 3 nx, u64R z := mem_set_ G.ok.w hnu
  have e0' : (p.W.set 3 nx).getD 0 0 = p.W.getD 0 0 := getD_set (by omega)
  have e3' : (p.W.set 3 nx).getD 3 0 = nx := setD_self (by omega)
  have e8' : (p.W.set 3 nx).getD 8 0 = p.W.getD 8 0 := getD_set (by omega)
  have hlk : ∀ z, 1 ≤ z ∧ z ≤ p.c.N → (p.W.set 3 nx).getD (p.c.link z).toNat 0 = p.W.getD (p.c.link z).toNat 0 := fun z hz => by
    have := (where_link hrc hz).2
    exact getD_set (by omega)
  have hpl : plc (p.W.set 3 nx) = [x] := by unfold plc; rw [e3', n1, if_neg (by omega)]
  have hoN : own1 ({ t with fs := fs', P := P', S := S', W := t.W.set 0 2 } : PT) = plc p.W := by
    unfold plc
    by_cases hz : ptrW (p.W.getD 3 0) = 0
    · rw [if_pos hz] at hfs ⊢
      exact own1_w hfs (by show (t.W.set 0 2).getD 0 0 ≠ 1; rw [setW0 g2.2.2]; decide)
    · rw [if_neg hz] at hfs ⊢
      exact own1_5 (f := ⟨5, 0, [ptrW (p.W.getD 3 0)]⟩) hfs rfl
  have hoN2 : own2 all ({ t with fs := fs', P := P', S := S', W := t.W.set 0 2 } : PT) = t.R := by
    by_cases hz : ptrW (p.W.getD 3 0) = 0
    · rw [if_pos hz] at hfs
      exact own2_0 hfs
    · rw [if_neg hz] at hfs
      exact own2_1 (f := ⟨5, 0, [ptrW (p.W.getD 3 0)]⟩) hfs (fun h => absurd h.1 (show ¬ (5 : Int) = 6 by decide))
  have hff : FrG p.c (p.W.set 3 nx) all i { t with fs := fs', P := P', S := S', W := t.W.set 0 2 } := by
    unfold FrG; rw [if_neg h0]
    by_cases hz : ptrW (p.W.getD 3 0) = 0
    · rw [if_pos hz] at hfs
      exact .inl hfs
    · rw [if_neg hz] at hfs
      have hrg2 := G.rg (x := ptrW (p.W.getD 3 0)) (.inr (.inl (by unfold plc; rw [if_neg hz]; simp)))
      exact .inr (.inl ⟨_, hfs, rfl, rfl, regs_1 ⟨by omega, by omega⟩, by show 1 ≤ ptrW (p.W.getD 3 0) ∧ ptrW (p.W.getD 3 0) ≤ _; omega⟩)
  have hii : (p.ths.set i { t with fs := fs', P := P', S := S', W := t.W.set 0 2 })[i]? = some { t with fs := fs', P := P', S := S', W := t.W.set 0 2 } := ths_at hi
  refine G.upd (q := ⟨p.c, p.W.set 3 nx, p.k + 1, p.gh, p.acted, p.bad, p.ths.set i { t with fs := fs', P := P', S := S', W := t.W.set 0 2 }⟩) (t' := { t with fs := fs', P := P', S := S', W := t.W.set 0 2 }) hi rfl rfl G.bad ?_ hgh rfl ?_ (fun z => ?_) (fun z hz1 hz2 => ⟨G.t0 z, fun hm => ?_, fun hm => ?_, fun hm => ?_, .inl rfl⟩) hff ⟨⟨?_, ?_, ?_⟩, by show t.R.length ≤ n + 1; omega, by show t.O.length ≤ n + 1 + 100; omega⟩ (fun k u hk hu hfu => hfu.congr (fun _ => e8') e0' hlk) ?_ (by show verW ((p.W.set 3 nx).getD 0 0) ≤ _; rw [e0']; omega) (by show verW ((p.W.set 3 nx).getD 3 0) ≤ _; rw [e3', n2]; omega)
  · have := G.okq (a := p.acted) (ths := p.ths.set i { t with fs := fs', P := P', S := S', W := t.W.set 0 2 }) (k' := p.k + 1) hW' (by simp) (rfl : tg.length = tg.length) ⟨by omega, by omega⟩
    rw [← hgh] at this
    exact this
  · show Lk p.c (p.W.set 3 nx) (ptrW ((p.W.set 3 nx).getD 0 0)) l
    rw [e0']
    exact G.lk.congr hrc hlk
  · show l.count z + (plc (p.W.set 3 nx)).count z + (own1 { t with fs := fs', P := P', S := S', W := t.W.set 0 2 }).count z + (own2 all { t with fs := fs', P := P', S := S', W := t.W.set 0 2 }).count z = _
    rw [hpl, hoN, hoN2, ho1, ho2]
    omega
  · have hm : z ∈ plc (p.W.set 3 nx) := hm
    rw [hpl] at hm
    rw [List.mem_singleton.1 hm]; exact htag
  · rw [hoN] at hm
    exact G.tp z hm
  · rw [hoN2] at hm
    exact G.t2 z (mem_tot (own2 all) hi (by rw [ho2]; exact hm))
  · show P'.length = (t.W.set 0 2).length; rw [hP]; simp; exact g2.1
  · show S'.length = (t.W.set 0 2).length; rw [hS]; simp; exact g2.2.1
  · show 1 ≤ (t.W.set 0 2).length; simp; exact g2.2.2
  · rcases G.hd with hh | ⟨a1, a2, ⟨u, a3, a4⟩, a5⟩
    · exact .inl hh
    · refine .inr ⟨a1, by show (p.W.set 3 nx).getD 8 0 = h; rw [e8']; exact a2, ⟨u, by show (p.ths.set i _)[0]? = _; rw [List.getElem?_set, if_neg h0]; exact a3, a4⟩, ?_⟩
      rcases a5 with a5 | ⟨k, v, b1, b2⟩
      · exact .inr ⟨i, _, hii, .inl (by rw [hoN]; exact a5)⟩
      · by_cases hki : i = k
        · subst hki
          rw [hi] at b1
          obtain rfl := Option.some.inj b1
          rcases b2 with b2 | ⟨b2, -⟩
          · left
            show h ∈ plc (p.W.set 3 nx)
            rw [hpl]; rw [ho1] at b2; exact b2
          · refine .inr ⟨i, _, hii, .inr ⟨b2, fun a ha h6 => ?_⟩⟩
            exfalso
            have ha : fs' = [a] := ha
            by_cases hz : ptrW (p.W.getD 3 0) = 0
            · rw [if_pos hz] at hfs; rw [hfs] at ha; cases ha
            · rw [if_neg hz] at hfs
              rw [hfs] at ha
              have : a = ⟨5, 0, [ptrW (p.W.getD 3 0)]⟩ := by simpa using ha.symm
              subst this
              exact absurd h6 (show ¬ (5 : Int) = 6 by decide)
        · exact .inr ⟨k, v, by show (p.ths.set i _)[k]? = _; rw [List.getElem?_set, if_neg hki]; exact b1, b2⟩
/-- what is held is not free -/
theorem GI.fine (G : GI p all l tg h n) (hh : h ≠ 0) : gtag tg h ≠ 0 := by
  have htl := G.tl
  have hs0 := G.s0
  rcases G.hd with e | ⟨a1, -, -, a5⟩
  · exact absurd e hh
  have fin : ∀ v : Int, v ≠ 0 → sentP p.c.A < h ∧ h ≤ p.c.N → tg.getD (h - 1).toNat 0 = v → gtag tg h ≠ 0 := fun v hv hr e => by
    unfold gtag
    rw [if_neg (by omega), e]; exact hv
  rcases a5 with a5 | ⟨k, u, b1, b2⟩
  · exact fin 1 (by decide) (G.rg (.inr (.inl a5))) (G.tp h a5)
  · rcases b2 with b2 | ⟨b2, -⟩
    · have := mem_tot own1 b1 b2
      exact fin 1 (by decide) (G.rg (.inr (.inr (.inl this)))) (G.t1 h this)
    · have := mem_tot (own2 all) b1 (show h ∈ own2 all u by unfold own2; exact List.mem_append_left _ b2)
      exact fin 2 (by decide) (G.rg (.inr (.inr (.inr this)))) (G.t2 h this)
end
/-- a machine as at first -/
theorem gi0 {A T N L B P S : Int} (hr : rightC ⟨A, T, N, L, B, P, S⟩) (hT2 : 2 ≤ T) {all : Nat} (hal : (all : Int) = slotsP A L * T) (w : World) : Fn Try.prog 7 #[.agg (cf7 ⟨A, T, N, L, B, P, S⟩), .slice none 0 0, .bool true] w fun r w' =>
    ∃ X, r = .tuple #[ptrV X.m, .int .i64 0] ∧ Hz w w' X X.abs ∧ GI X.abs all (freeF N.toNat (N.toNat - (sentP A).toNat)) (liveL N.toNat (sentP A).toNat) 0 0 ∧ X.abs.c = ⟨A, T, N, L, B, P, S⟩ := by
  refine (core_new2 (draws := []) true (RdK.nil_ w .u8) (by decide)).mono ?_
  rintro e w1 ⟨r, he, -, hy⟩
  obtain ⟨m, mp, mv, lv, fp, fv, gs, tv, ths, hrt, I, hT, hths, -, hgs⟩ := hy hr
  obtain ⟨gp, gv, rfl⟩ := hgs rfl
  obtain ⟨b1, b2, b3, b4, b5, b6, -⟩ := plan_bd hr
  have hall : ∀ u ∈ ths.map absT, u = ⟨[], (0, 0, 0), List.replicate L.toNat 0, List.replicate L.toNat 0, List.replicate L.toNat 0, [], []⟩ := fun u hu => by
    obtain ⟨t, ht, rfl⟩ := List.mem_map.1 hu
    obtain ⟨g, pv, sv, wv, rfl⟩ := hths t ht
    rfl
  have h0 : ths[0]? = some (ths[0]'(by omega)) := List.getElem?_eq_getElem _
  have hf0 : (ths[0]'(by omega)).fs = [] := by
    obtain ⟨g, pv, sv, wv, e⟩ := hths _ (List.getElem_mem (show 0 < ths.length by omega))
    rw [e]; rfl
  have hq := layS_q hr
  have R := rep0 (m := m) (mp := mp) (fp := fp) (v := mv) (lv := lv) (fv := fv) (tv := tv) (draws := []) (gp := gp) (gv := gv) hr h0 hf0
  obtain ⟨t, n, l, sl, wd, nt, se, U⟩ := nums hr
  have q5 := U.b5; have q3 := U.b3; have qe := U.eN; have qs := U.se_; have ql := U.eL
  have eN : N.toNat = n := by omega
  have eS : (sentP A).toNat = se := by omega
  have hL1 : 1 ≤ L.toNat := by have := U.b4; omega
  have t1 : tot own1 (ths.map absT) = [] := by
    unfold tot
    rw [List.flatten_eq_nil_iff]
    intro y hy
    obtain ⟨u, hu, rfl⟩ := List.mem_map.1 hy
    rw [hall u hu]
    exact own1_z rfl rfl
  have t2 : tot (own2 all) (ths.map absT) = [] := by
    unfold tot
    rw [List.flatten_eq_nil_iff]
    intro y hy
    obtain ⟨u, hu, rfl⟩ := List.mem_map.1 hy
    rw [hall u hu]
    exact own2_0 rfl
  have w3 : (layS A T N L (newMS (sizeP A T N L).toNat)).W.getD 3 0 = 0 := by
    rw [W_at hr U 3 (by omega)]
    show firstW A N L (0, 3, 0) = 0
    rw [fw0, if_neg (by decide), if_neg (by decide)]
  have w0 : verW ((layS A T N L (newMS (sizeP A T N L).toNat)).W.getD 0 0) = 0 := by
    rw [W_at hr U 0 (by omega)]
    show verW (firstW A N L (0, 0, 0)) = 0
    rw [fw0, if_pos rfl]
    unfold verW
    omega
  have hpl : plc (layS A T N L (newMS (sizeP A T N L).toNat)).W = [] := by unfold plc; rw [w3]; rfl
  refine ⟨r, he, _, hrt, ⟨I, rfl, ⟨hq.on, hq.L⟩, by show ths.length ≤ 100; omega⟩, ⟨R.ok.up (by omega), hal, hT2, ?_, R.lk, R.gh, R.tl, R.bad, fun x => ?_, R.tag, ?_, ?_, ?_, fun k u hu => ?_, .inl rfl, ?_, ?_⟩, rfl⟩
  · show ((ths.map absT).length : Int) = T
    simp; exact hT
  · show (freeF N.toNat (N.toNat - (sentP A).toNat)).count x + (plc (layS A T N L (newMS (sizeP A T N L).toNat)).W).count x + (tot own1 (ths.map absT)).count x + (tot (own2 all) (ths.map absT)).count x = if sentP A < x ∧ x ≤ N then 1 else 0
    rw [hpl, t1, t2]
    have hfc : (freeF N.toNat (N.toNat - (sentP A).toNat)).count x = if sentP A < x ∧ x ≤ N then 1 else 0 := by
      have key : ∀ (n : Nat) (x : Int) (k : Nat), k ≤ n → (freeF n k).count x = if ((n - k : Nat) : Int) < x ∧ x ≤ n then 1 else 0 := by
        intro n x k
        induction k with
        | zero => intro _; rw [if_neg (by omega)]; rfl
        | succ k ih =>
          intro hk
          have ih := ih (by omega)
          show ((((n - k : Nat) : Int)) :: freeF n k).count x = _
          rw [List.count_cons, ih]
          by_cases hx : ((n - k : Nat) : Int) = x
          · rw [if_neg (by omega), if_pos (by simp [hx]), if_pos (by omega)]
          · have h2 : ((((n - k : Nat) : Int)) == x) = false := by simpa using hx
            rw [h2, show (if (false = true) then (1 : Nat) else 0) = 0 from rfl, Nat.add_zero]
            by_cases h3 : ((n - k : Nat) : Int) < x ∧ x ≤ n
            · rw [if_pos h3, if_pos (by omega)]
            · rw [if_neg h3, if_neg (by omega)]
      rw [key _ _ _ (by omega), eN, eS]
      have : (n - (n - se) : Nat) = se := by omega
      rw [this]
      by_cases hx : sentP A < x ∧ x ≤ N
      · rw [if_pos hx, if_pos (by omega)]
      · rw [if_neg hx, if_neg (by omega)]
    rw [hfc]; rfl
  · intro x hx
    have hx : x ∈ plc (layS A T N L (newMS (sizeP A T N L).toNat)).W := hx
    rw [hpl] at hx; cases hx
  · intro x hx
    have hx : x ∈ tot own1 (ths.map absT) := hx
    rw [t1] at hx; cases hx
  · intro x hx
    have hx : x ∈ tot (own2 all) (ths.map absT) := hx
    rw [t2] at hx; cases hx
  · have hu : (ths.map absT)[k]? = some u := hu
    have e := hall u (List.mem_of_getElem? hu)
    rw [e]
    refine ⟨?_, ⟨rfl, rfl, by show 1 ≤ (List.replicate L.toNat (0 : Int)).length; simp; omega⟩, by simp, by simp⟩
    unfold FrG
    by_cases hk : k = 0
    · rw [if_pos hk]
      refine ⟨⟨rfl, rfl, ?_⟩, .inl rfl⟩
      show (List.replicate L.toNat (0 : Int)).getD 0 0 = 0
      cases hh : L.toNat with
      | zero => rfl
      | succ j => rfl
    · rw [if_neg hk]; exact .inl rfl
  · show verW ((layS A T N L (newMS (sizeP A T N L).toNat)).W.getD 0 0) ≤ _
    rw [w0]; decide
  · show verW ((layS A T N L (newMS (sizeP A T N L).toNat)).W.getD 3 0) ≤ _
    rw [w3]; decide
end Go.Proofs.Ytklbeipdigancaa

/- HazardGuards: contracts that its walk needs. -/
namespace Go.Proofs.Ytklbeipdigancaa
open Go.RowKit
attribute [local irreducible] Instr.loadAt Instr.storeAt Instr.fieldAt Instr.indexAt Instr.sliceAt Instr.buildSlice Instr.box Instr.alloc Builtin.append_ Builtin.len_ Builtin.min_ Builtin.max_ Calls Instr.build Instr.makeSlice binSem convert Instr.index Instr.range Instr.next
theorem code_cut {P : Program} {N : Nat} {x : Code} {K : Env → World → Prop} {Q : Exit → Env → World → Prop} {e : Env} {w : World} [MonoK K] [MonoQ Q] (keep slots : List Nat) (R : List Value → World → Prop) {kv : List Value} (hk : looks e keep = some kv)
    (h1 : vc P N x (thenE (cutK keep kv slots R) Q) e w) (h3 : ∀ vs w', R vs w' → K (zipE slots vs (zipE keep kv [])) w') : vc P N x (thenE K Q) e w := by
  have hm : ∀ x e e' w, Sub e e' → thenE (cutK keep kv slots R) Q x e w → thenE K Q x e' w := by
    intro x e e' w hs h
    cases x with
    | normal =>
      obtain ⟨vs, h4, h5⟩ := cut_sub h
      exact MonoK.mono (K := K) _ _ _ (h4.trans hs) (h3 vs w h5)
    | _ => exact MonoQ.mono (Q := Q) _ _ _ _ hs h
  exact vc_mono x _ _ e e w (Sub.refl e) hm h1
theorem ptr_eqb {P : Program} {w : World} {K : Value → World → Prop} {t : Nat} [PtrT P t] {x y : Operand} {v : Option Addr} (b : Bool) (h1 : b = true → v = none) (h2 : b = false → ∃ a, v = some a) (k : K (.bool b) w) : RunP P (binSem .eql t x y (.pointer v) (.pointer none)) K w := by
  cases b with
  | true => rw [h1 rfl]; exact ptr_eq0 k
  | false =>
    obtain ⟨a, rfl⟩ := h2 rfl
    exact ptr_eq k
theorem ptr_neb {P : Program} {w : World} {K : Value → World → Prop} {t : Nat} [PtrT P t] {x y : Operand} {v : Option Addr} (b : Bool) (h1 : b = true → v = none) (h2 : b = false → ∃ a, v = some a) (k : K (.bool (!b)) w) : RunP P (binSem .neq t x y (.pointer v) (.pointer none)) K w := by
  cases b with
  | true => rw [h1 rfl]; exact ptr_ne0 k
  | false =>
    obtain ⟨a, rfl⟩ := h2 rfl
    exact ptr_ne k
theorem two_rd {w : World} {g : Nat} {x y : Int} (hb : Blk w g 36 #[.int .u64 x, .int .u64 y]) : RdK w .u64 (.slice (some ⟨g, 0, none⟩) 2 2) [x, y] := RdK.of_sl (e := 36) (n := 2) (Sl.lit (n := 2) hb rfl (by decide))
section
variable {w0 w w' : World} {X : Mc} {p : PS} {i : Nat} {t t' : Th}
theorem Mach.putP (h : Mach w X) (hi : X.ths[i]? = some t) (r : Nat) (hr : r < t.P.length) {g o c : Nat} (hv : t.pv = .slice (some ⟨g, o, none⟩) t.P.length c) (x : Int) {ty : Nat} [One Try.prog ty] {K : World → Prop}
    (k : ∀ w', Post w X w' { X with ths := X.ths.set i { t with P := t.P.set r x } } → K w') : RunU Try.prog (Instr.storeAt ty (.pointer (some ⟨g, o + r * 1, none⟩)) (.int .u64 x)) K w := by
  have hs : Sl w 36 1 t.pv t.P.length (t.P.map (.int .u64)) := Sep.at_ (i := 1) (x := obU t.pv t.P) (h.thr hi) rfl
  refine stS hs hv hr rfl fun w' hs' hu hz => k w' ?_
  have hs2 : Sl w' 36 1 t.pv (t.P.set r x).length ((t.P.set r x).map (.int .u64)) := by rw [List.length_set, List.map_set]; exact hs'
  have ht : To w t.pv.ownBlock.toList w' t.pv.ownBlock.toList := ⟨hu.mono (by rw [hv]; simp [Value.ownBlock]), fun k hk => .inl hk⟩
  exact h.setTh (t' := { t with P := t.P.set r x }) hi rfl (Sep.set (i := 1) (x := obU t.pv t.P) (y := obU t.pv (t.P.set r x)) (h.thr hi) rfl hs2 ht) (To.set (l := t.obs (i : Int)) (i := 1) (x := obU t.pv t.P) (y := obU t.pv (t.P.set r x)) rfl ht)
theorem Mach.putS (h : Mach w X) (hi : X.ths[i]? = some t) (r : Nat) (hr : r < t.S.length) {g o c : Nat} (hv : t.sv = .slice (some ⟨g, o, none⟩) t.S.length c) (x : Int) {ty : Nat} [One Try.prog ty] {K : World → Prop}
    (k : ∀ w', Post w X w' { X with ths := X.ths.set i { t with S := t.S.set r x } } → K w') : RunU Try.prog (Instr.storeAt ty (.pointer (some ⟨g, o + r * 1, none⟩)) (.int .u64 x)) K w := by
  have hs : Sl w 36 1 t.sv t.S.length (t.S.map (.int .u64)) := Sep.at_ (i := 2) (x := obU t.sv t.S) (h.thr hi) rfl
  refine stS hs hv hr rfl fun w' hs' hu hz => k w' ?_
  have hs2 : Sl w' 36 1 t.sv (t.S.set r x).length ((t.S.set r x).map (.int .u64)) := by rw [List.length_set, List.map_set]; exact hs'
  have ht : To w t.sv.ownBlock.toList w' t.sv.ownBlock.toList := ⟨hu.mono (by rw [hv]; simp [Value.ownBlock]), fun k hk => .inl hk⟩
  exact h.setTh (t' := { t with S := t.S.set r x }) hi rfl (Sep.set (i := 2) (x := obU t.sv t.S) (y := obU t.sv (t.S.set r x)) (h.thr hi) rfl hs2 ht) (To.set (l := t.obs (i : Int)) (i := 2) (x := obU t.sv t.S) (y := obU t.sv (t.S.set r x)) rfl ht)
theorem Mach.putW (h : Mach w X) (hi : X.ths[i]? = some t) (r : Nat) (hr : r < t.W.length) {g o c : Nat} (hv : t.wv = .slice (some ⟨g, o, none⟩) t.W.length c) (x : Int) {ty : Nat} [One Try.prog ty] {K : World → Prop}
    (k : ∀ w', Post w X w' { X with ths := X.ths.set i { t with W := t.W.set r x } } → K w') : RunU Try.prog (Instr.storeAt ty (.pointer (some ⟨g, o + r * 1, none⟩)) (.int .u64 x)) K w := by
  have hs : Sl w 36 1 t.wv t.W.length (t.W.map (.int .u64)) := Sep.at_ (i := 3) (x := obU t.wv t.W) (h.thr hi) rfl
  refine stS hs hv hr rfl fun w' hs' hu hz => k w' ?_
  have hs2 : Sl w' 36 1 t.wv (t.W.set r x).length ((t.W.set r x).map (.int .u64)) := by rw [List.length_set, List.map_set]; exact hs'
  have ht : To w t.wv.ownBlock.toList w' t.wv.ownBlock.toList := ⟨hu.mono (by rw [hv]; simp [Value.ownBlock]), fun k hk => .inl hk⟩
  exact h.setTh (t' := { t with W := t.W.set r x }) hi rfl (Sep.set (i := 3) (x := obU t.wv t.W) (y := obU t.wv (t.W.set r x)) (h.thr hi) rfl hs2 ht) (To.set (l := t.obs (i : Int)) (i := 3) (x := obU t.wv t.W) (y := obU t.wv (t.W.set r x)) rfl ht)
theorem Mach.pv2 (h : Mach w X) (hi : X.ths[i]? = some t) : Sl w 36 1 t.pv t.P.length (t.P.map (.int .u64)) := Sep.at_ (i := 1) (x := obU t.pv t.P) (h.thr hi) rfl
theorem Mach.sv2 (h : Mach w X) (hi : X.ths[i]? = some t) : Sl w 36 1 t.sv t.S.length (t.S.map (.int .u64)) := Sep.at_ (i := 2) (x := obU t.sv t.S) (h.thr hi) rfl
theorem Mach.wv2 (h : Mach w X) (hi : X.ths[i]? = some t) : Sl w 36 1 t.wv t.W.length (t.W.map (.int .u64)) := Sep.at_ (i := 3) (x := obU t.wv t.W) (h.thr hi) rfl
/-- what a routine gave is written over -/
theorem Mach.putR (h : Mach w X) (hi : X.ths[i]? = some t) (x : Int) {ty : Nat} [One Try.prog ty] {K : World → Prop}
    (k : ∀ w', Post w X w' { X with ths := X.ths.set i { t with r := (x, t.r.2.1, t.r.2.2) } } → K w') : RunU Try.prog (Instr.storeAt ty (.pointer (some ⟨t.g, 2, none⟩)) (.int .u64 x)) K w := by
  have hc := h.core hi
  have hnb := hc.fr.blk_ne hc.blk (by decide)
  refine st hc.blk (by show 2 < 10; decide) rfl fun w' hb hu hz => k w' ?_
  have hc' : IsThr w' t.g (i : Int) t.fv t.fs (x, t.r.2.1, t.r.2.2) t.pv t.sv t.wv t.rv t.ov := ⟨hb, hc.fr.upd hu (fun q hq hm => hnb (by rw [← List.mem_singleton.1 hm]; exact hq))⟩
  exact h.setCore hi hc' ⟨hu.mono (by intro k hk; rw [List.mem_singleton.1 hk]; exact List.mem_cons_self), fun k hk => .inl hk⟩
theorem Hz.set (h : Hz w0 w X p) (hp : Post w X w' { X with ths := X.ths.set i t' }) : Hz w0 w' { X with ths := X.ths.set i t' } (p.put i (absT t')) :=
  ⟨h.new.post hp, by rw [abs_set, h.a], h.calm, by show (X.ths.set i t').length ≤ 100; rw [List.length_set]; exact h.tl⟩
/-- is there a frame? -/
theorem top_b (h : Mach w X) (hi : X.ths[i]? = some t) (hl : t.fs.length ≤ 2) : Fn Try.prog 9 #[ptrV t.g] w fun r w' => ∃ o, r = .pointer o ∧ (decide (t.fs = []) = true → o = none) ∧ (decide (t.fs = []) = false → ∃ a, o = some a) ∧ Upd [] w w' := by
  by_cases hf : t.fs = []
  · refine (top_no h hi hf).mono ?_
    rintro e w2 ⟨r, he, rfl, rfl⟩
    exact ⟨_, he, _, rfl, fun _ => rfl, fun h => absurd (decide_eq_true hf) (by rw [h]; decide), Upd.refl _ _⟩
  · obtain ⟨fb, fo, fc, hfv⟩ := h.fr_ hi hf
    obtain ⟨fs, f, e⟩ : ∃ fs f, t.fs = fs ++ [f] := ⟨_, _, (List.dropLast_concat_getLast hf).symm⟩
    refine (top_mm h hi e (by have := congrArg List.length e; simp at this; omega) hfv).mono ?_
    rintro e2 w2 ⟨r, he, rfl, rfl⟩
    exact ⟨_, he, _, rfl, fun h => absurd (of_decide_eq_true h) hf, fun _ => ⟨_, rfl⟩, (Upd.refl _ _).drew⟩
/-- a machine's words, copied -/
theorem Hz.words (h : Hz w0 w X p) (hl : p.W.length ≤ 1000) : Fn Try.prog 12 #[ptrV X.mp] w fun r w' => Sl w' 36 1 r p.W.length (p.W.map (.int .u64)) ∧ Upd [] w w' := by
  have hW : X.s.W = p.W := congrArg PS.W h.a
  have := words_c h.new.ok.mem (by rw [hW]; omega)
  rw [hW] at this
  exact this.mono fun _ _ ⟨r, he, h1, h2, h3⟩ => ⟨r, he, h1, h2⟩
end
end Go.Proofs.Ytklbeipdigancaa

/- The law HazardGuards: its walk. -/
namespace Go.Proofs.Ytklbeipdigancaa
open Go.RowKit
attribute [local irreducible] Instr.loadAt Instr.storeAt Instr.fieldAt Instr.indexAt Instr.sliceAt Instr.buildSlice Instr.box Instr.alloc Builtin.append_ Builtin.len_ Builtin.min_ Builtin.max_ Calls Instr.build Instr.makeSlice binSem convert Instr.index Instr.range Instr.next
theorem u64_at {w : World} {g o c : Nat} {l : List Int} (h : Sl w 36 1 (.slice (some ⟨g, o, none⟩) l.length c) l.length (l.map (.int .u64))) {i : Nat} (hi : i < l.length) : w.cell? ⟨g, o + i * 1, none⟩ = some (.int .u64 (l.getD i 0)) := by
  have := (h.cells rfl i (by simpa using hi)).1
  rw [show o + i * 1 = o + i by omega, this]
  simp [List.getD, hi]
theorem pick_2 (x : Int) {t : Nat} (ht : 0 < t) : ∃ k : Nat, (x.tmod t + t).tmod t = (k : Int) ∧ k < t ∧ -(t : Int) < x.tmod t ∧ x.tmod t < t := by
  have h1 := Int.tmod_lt_of_pos x (show (0 : Int) < t by omega)
  have h2 := Int.lt_tmod_of_pos x (show (0 : Int) < t by omega)
  have h3 := Int.tmod_nonneg (t : Int) (show 0 ≤ x.tmod t + t by omega)
  have h4 := Int.tmod_lt_of_pos (x.tmod t + t) (show (0 : Int) < t by omega)
  obtain ⟨k, hk⟩ := Int.eq_ofNat_of_zero_le h3
  exact ⟨k, hk, by omega, h2, h1⟩
/-- what holds ahead of each round -/
structure GW (w0 w : World) (X : Mc) (p : PS) (all m t : Nat) (l tg : List Int) (hd : Int) (n : Nat) : Prop where
  h : Hz w0 w X p
  m : X.m = m
  c : X.ths.length = t
  g : GI p all l tg hd n
theorem GW.upd0 {w0 w w' : World} {X : Mc} {p : PS} {all m t : Nat} {l tg : List Int} {hd : Int} {n : Nat} (J : GW w0 w X p all m t l tg hd n) (hu : Upd [] w w') : GW w0 w' X p all m t l tg hd n := ⟨J.h.upd0 hu, J.m, J.c, J.g⟩
theorem poke_put {p : PS} {a x : Int} (h : p.okP a) (i : Nat) (t : PT) : (p.put i t).poke a x = ⟨p.c, p.W.set a.toNat x, p.k + 1, p.gh, p.acted, p.bad, p.ths.set i t⟩ := by
  unfold PS.poke
  rw [if_pos (show (p.put i t).okP a from h)]; rfl
theorem GW.tag64 {w0 w : World} {X : Mc} {p : PS} {all m t : Nat} {l tg : List Int} {hd : Int} {n : Nat} (J : GW w0 w X p all m t l tg hd n) : tg.length ≤ 64 := by
  have h1 := J.g.tl
  have h2 := J.g.facts.2.2.2.2
  omega
section
variable {w : World} {pv : Value} {ps : List Int}
set_option maxRecDepth 10000 in
set_option maxHeartbeats 4000000 in
theorem guards_law {c : Cf} (hps : RdK w .i64 pv ps) : Fn Try.prog 3 #[.agg (cf7 c), pv] w fun r w' => r = .bool true ∧ Upd [] w w' := by
  obtain ⟨pa, pc, rfl, -⟩ := hps.form
  obtain ⟨A, T, N, L, B, P, S⟩ := c
  refine fn_enter Try.func3 rfl rfl ?_
  refine bx fun w1 hb1 hu1 hs1 => ?_
  have hb1 : Blk w1 w.heap.size 23 (cf7 ⟨A, T, N, L, B, P, S⟩) := hb1
  refine ldw hb1 rfl ?_
  refine cl (rright_c ⟨A, T, N, L, B, P, S⟩ w1) ?_
  rintro _ w2 ⟨rfl, hu2⟩
  have hU2 := hu1.trans hu2
  have hb2 := hb1.upd hu2 (by simp)
  by_cases hr : rightC ⟨A, T, N, L, B, P, S⟩
  rotate_left
  · refine cY hr ?_
    refine cl (lives18 _) ?_
    rintro _ wx ⟨rfl, hux⟩
    exact ⟨rfl, hU2.trans hux⟩
  refine cN (fun h => h hr) ?_
  refine fa ?_
  refine ldb hb2 (v := .int .i64 T) rfl ?_
  by_cases hT2 : T < 2
  · refine cY hT2 ?_
    refine cl (lives18 _) ?_
    rintro _ wx ⟨rfl, hux⟩
    exact ⟨rfl, hU2.trans hux⟩
  refine cN hT2 ?_
  refine len_sl ?_
  by_cases q1 : (ps.length : Int) > 3000
  · refine cY q1 ?_
    refine cl (lives18 _) ?_
    rintro _ wx ⟨rfl, hux⟩
    exact ⟨rfl, hU2.trans hux⟩
  refine cN q1 ?_
  refine ldw hb2 rfl ?_
  obtain ⟨b1, b2, b3, b4, b5, b6, -⟩ := plan_bd hr
  obtain ⟨all, hall'⟩ : ∃ all : Nat, (all : Int) = slotsP A L * T := ⟨(slotsP A L * T).toNat, by
    have : 0 ≤ slotsP A L * T := Int.mul_nonneg (by omega) (by omega)
    omega⟩
  refine cl (gi0 hr (by omega) hall' w2) ?_
  rintro _ w3 ⟨X, rfl, H, G, hc⟩
  refine ptr_eq ?_
  have J0 : GW w2 w3 X X.abs all X.m T.toNat _ _ 0 0 := ⟨H, rfl, by
    have h1 := G.tn
    rw [hc] at h1
    have h2 : X.abs.ths.length = X.ths.length := List.length_map ..
    have h1 : (X.abs.ths.length : Int) = T := h1
    omega, G⟩
  generalize hm : X.m = m at *
  generalize X.abs = p0 at *
  obtain ⟨t, rfl⟩ := Int.eq_ofNat_of_zero_le (show 0 ≤ T by omega)
  refine loop_rule [1, 2, 5, 7] [8, 9] (fun vs w' mm => ∃ (i : Nat) (h : Int) (X : Mc) (p : PS) (l tg : List Int), vs = [.int .i64 h, .int .i64 (i : Int)] ∧ i ≤ ps.length ∧ mm = ps.length - i ∧ GW w2 w' X p all m t l tg h (3 * i)) rfl [.int .i64 0, .int .i64 0] ps.length rfl ⟨0, 0, X, p0, _, _, rfl, by omega, rfl, J0⟩ ?_
  clear J0 G H hm hc X p0
  rintro _ w5 mm ⟨i, h, X, p, l, tg, rfl, hi, rfl, J⟩
  have hcf : Blk w5 w.heap.size 23 (cf7 ⟨A, (t : Int), N, L, B, P, S⟩) := hb2.upd J.h.new.up (by simp)
  have hpsr := hps.upd0 (hU2.trans J.h.new.up)
  refine len_sl ?_
  by_cases hlt : (i : Int) < ps.length
  rotate_left
  · refine cN hlt ?_
    refine cl (lives18 _) ?_
    rintro _ wx ⟨rfl, hux⟩
    exact ⟨rfl, (hU2.trans J.h.new.up).trans hux⟩
  refine cY hlt ?_
  obtain ⟨pb, po, pcc, hpe, -⟩ := hpsr.some_ (by omega)
  cases hpe
  obtain ⟨kk, hkk, hkt, hk1, hk2⟩ := pick_2 (ps.getD i 0) (show 0 < t by omega)
  refine draw_all (fun w' => w' = w5.drew) (by decide +kernel) rfl ?_
  refine q_ix i rfl (by omega) ?_
  refine q_ld (v := .int .i64 (ps.getD i 0)) (by rintro _ rfl; exact hpsr.at_ rfl i (by omega)) ?_
  refine q_fa ?_
  refine rq (.int .i64 (t : Int)) (by rintro _ rfl; exact ldb hcf.drew rfl ⟨rfl, rfl⟩) ?_
  refine rq (.int .i64 ((ps.getD i 0).tmod (t : Int))) (fun _ _ => rm (by omega) (val _ rfl ⟨rfl, rfl⟩)) ?_
  refine q_fa ?_
  refine rq (.int .i64 (t : Int)) (by rintro _ rfl; exact ldb hcf.drew rfl ⟨rfl, rfl⟩) ?_
  refine q_ar64 (by omega) ?_
  refine q_fa ?_
  refine rq (.int .i64 (t : Int)) (by rintro _ rfl; exact ldb hcf.drew rfl ⟨rfl, rfl⟩) ?_
  refine rq (.int .i64 (kk : Int)) (fun _ _ => rm (by omega) (val _ hkk ⟨rfl, rfl⟩)) ?_
  rintro _ rfl
  have J6 := J.upd0 (Upd.refl [] w5).drew
  generalize w5.drew = w6 at *
  obtain ⟨th, hth⟩ : ∃ th, X.ths[kk]? = some th := ⟨X.ths[kk]'(by have := J6.c; omega), List.getElem?_eq_getElem _⟩
  have hthA : p.ths[kk]? = some (absT th) := by
    have := abs_th X hth
    rw [J6.h.a] at this; exact this
  have hthr := thread_mm J6.h.new.ok hth J6.h.tl
  rw [J6.m] at hthr
  refine cl hthr ?_
  rintro _ _ ⟨rfl, rfl⟩
  refine ptr_eq ?_
  have hfl : th.fs.length ≤ 2 := J6.g.fsl hthA
  refine cl (top_b J6.h.new.ok hth hfl) ?_
  rintro _ w7 ⟨o7, rfl, hn7, hs7, hu7⟩
  refine ptr_eqb _ hn7 hs7 ?_
  have J7 := J6.upd0 hu7
  clear hn7 hs7
  refine cond_cut [1, 2, 5, 7, 9, 10, 11] [8] (fun vs w' => ∃ (h : Int) (X : Mc) (p : PS) (l tg : List Int) (th' : Th), vs = [.int .i64 h] ∧ GW w2 w' X p all m t l tg h (3 * i + 1) ∧ X.ths[kk]? = some th' ∧ th'.g = th.g) rfl (fun hb => ?_) (fun hb => ?_) ?_
  · have hfs : th.fs = [] := of_decide_eq_true hb
    have hfsA : (absT th).fs = [] := hfs
    obtain ⟨-, ⟨hln1, hln2, hln3⟩, -⟩ := J7.g.th kk _ hthA
    have hlW : 0 < th.W.length := hln3
    have hlP : 0 < th.P.length := by have : th.P.length = th.W.length := hln1; omega
    have hlS : 0 < th.S.length := by have : th.S.length = th.W.length := hln2; omega
    obtain ⟨wb, wo, wc, hwv, -⟩ := (J7.h.new.ok.wv2 hth).some_ hlW
    obtain ⟨pb2, po2, pc2, hpv, -⟩ := (J7.h.new.ok.pv2 hth).some_ hlP
    obtain ⟨sb, so, sc, hsv, -⟩ := (J7.h.new.ok.sv2 hth).some_ hlS
    have hsW := J7.h.new.ok.wv2 hth
    rw [hwv] at hsW
    by_cases hk0 : kk = 0
    · refine cY (show (kk : Int) = 0 by omega) ?_
      refine cv ?_
      refine val 3 (by decide) ?_
      refine bs #[.int .u64 0, .int .u64 3] (fun _ => by kernel_rfl) fun w8 hb8 hu8 hs8 => ?_
      refine cl (push_mm (J7.upd0 hu8).h.new.ok hth (by rw [hfs]; simp) (two_rd hb8) (by simp) 3) ?_
      rintro _ w9 ⟨fv, p9⟩
      have H9 := (J7.upd0 hu8).h.set p9
      have e : p.put kk (absT { th with fv := fv, fs := th.fs ++ [⟨3, 0, [0, 3]⟩] }) = p.put kk { absT th with fs := [⟨3, 0, [0, 3]⟩] } := by rw [hfs]; rfl
      rw [e] at H9
      subst hk0
      exact cut_mk [.int .i64 0] rfl rfl ⟨0, _, _, l, tg, _, rfl, ⟨H9, J7.m, by show (X.ths.set _ _).length = t; rw [List.length_set]; exact J7.c, J7.g.lawP hthA hfsA⟩, set_at hth, rfl⟩
    refine cN (show ¬ (kk : Int) = 0 by omega) ?_
    refine fa ?_
    refine ldb (J7.h.new.ok.core hth).blk (v := .slice (some ⟨wb, wo, none⟩) th.W.length wc) (by rw [← hwv]; rfl) ?_
    refine ix 0 rfl hlW ?_
    refine ld (v := .int .u64 (th.W.getD 0 0)) (u64_at hsW hlW) ?_
    by_cases hw0 : th.W.getD 0 0 = 0
    · refine cY hw0 ?_
      refine cl (push_mm J7.h.new.ok hth (by rw [hfs]; simp) (RdK.nil_ _ .u64) (by simp) 1) ?_
      rintro _ w8 ⟨fv, p8⟩
      have H8 := J7.h.set p8
      generalize hth8 : ({ th with fv := fv, fs := th.fs ++ [⟨1, 0, []⟩] } : Th) = th8 at *
      have hi8 : ({ X with ths := X.ths.set kk th8 } : Mc).ths[kk]? = some th8 := set_at hth
      have hg8 : th8.g = th.g := by rw [← hth8]
      have hwv8 : th8.wv = .slice (some ⟨wb, wo, none⟩) th8.W.length wc := by rw [← hth8]; exact hwv
      have hW8 : th8.W = th.W := by rw [← hth8]
      rw [← hg8]
      refine fa ?_
      refine ldb (H8.new.ok.core hi8).blk (v := .slice (some ⟨wb, wo, none⟩) th8.W.length wc) (by rw [← hwv8]; rfl) ?_
      refine ix 0 rfl (by rw [hW8]; exact hlW) ?_
      refine H8.new.ok.putW hi8 0 (by rw [hW8]; exact hlW) hwv8 1 fun w9 p9 => ?_
      have H9 := H8.set p9
      rw [put_put] at H9
      have e : p.put kk (absT { th8 with W := th8.W.set 0 1 }) = p.put kk { absT th with fs := [⟨1, 0, []⟩], W := th.W.set 0 1 } := by rw [← hth8, hfs]; rfl
      rw [e] at H9
      exact cut_mk [.int .i64 h] rfl rfl ⟨h, _, _, l, tg, _, rfl, ⟨H9, J7.m, by show ((X.ths.set _ _).set _ _).length = t; rw [List.length_set, List.length_set]; exact J7.c, J7.g.lawA hk0 hthA hfsA hw0⟩, set_at hi8, rfl⟩
    refine cN hw0 ?_
    refine fa ?_
    refine ldb (J7.h.new.ok.core hth).blk (v := .slice (some ⟨wb, wo, none⟩) th.W.length wc) (by rw [← hwv]; rfl) ?_
    refine ix 0 rfl hlW ?_
    refine ld (v := .int .u64 (th.W.getD 0 0)) (u64_at hsW hlW) ?_
    by_cases hw1 : th.W.getD 0 0 = 1
    rotate_left
    · refine cN hw1 ?_
      refine fa ?_
      refine ldb (J7.h.new.ok.core hth).blk (v := .slice (some ⟨wb, wo, none⟩) th.W.length wc) (by rw [← hwv]; rfl) ?_
      refine ix 0 rfl hlW ?_
      refine ld (v := .int .u64 (th.W.getD 0 0)) (u64_at hsW hlW) ?_
      refine cN hw1 ?_
      refine fa ?_
      refine ldb (J7.h.new.ok.core hth).blk (v := .slice (some ⟨wb, wo, none⟩) th.W.length wc) (by rw [← hwv]; rfl) ?_
      refine ix 0 rfl hlW ?_
      refine J7.h.new.ok.putW hth 0 hlW hwv 0 fun w8 p8 => ?_
      have H8 := J7.h.set p8
      generalize hth8 : ({ th with W := th.W.set 0 0 } : Th) = th8 at *
      have hi8 : ({ X with ths := X.ths.set kk th8 } : Mc).ths[kk]? = some th8 := set_at hth
      have hg8 : th8.g = th.g := by rw [← hth8]
      rw [← hg8]
      refine fa ?_
      refine ixA 0 rfl (by omega) ?_
      refine H8.new.ok.putR hi8 0 fun w9 p9 => ?_
      have H9 := H8.set p9
      rw [put_put] at H9
      have e : p.put kk (absT { th8 with r := (0, th8.r.2.1, th8.r.2.2) }) = p.put kk { absT th with W := th.W.set 0 0, r := (0, th.r.2.1, th.r.2.2) } := by rw [← hth8]; rfl
      rw [e] at H9
      exact cut_mk [.int .i64 h] rfl rfl ⟨h, _, _, l, tg, _, rfl, ⟨H9, J7.m, by show ((X.ths.set _ _).set _ _).length = t; rw [List.length_set, List.length_set]; exact J7.c, J7.g.lawD hk0 hthA hfsA hw1⟩, set_at hi8, rfl⟩
    refine cY hw1 ?_
    refine fa ?_
    refine ixA 0 rfl (by omega) ?_
    refine ldb (v := .int .u64 th.r.1) (J7.h.new.ok.core hth).blk rfl ?_
    by_cases hr0 : th.r.1 = 0
    · refine cY hr0 ?_
      refine cl (push_mm J7.h.new.ok hth (by rw [hfs]; simp) (RdK.nil_ _ .u64) (by simp) 6) ?_
      rintro _ w8 ⟨fv, p8⟩
      have H8 := J7.h.set p8
      generalize hth8 : ({ th with fv := fv, fs := th.fs ++ [⟨6, 0, []⟩] } : Th) = th8 at *
      have hi8 : ({ X with ths := X.ths.set kk th8 } : Mc).ths[kk]? = some th8 := set_at hth
      have hg8 : th8.g = th.g := by rw [← hth8]
      have hwv8 : th8.wv = .slice (some ⟨wb, wo, none⟩) th8.W.length wc := by rw [← hth8]; exact hwv
      have hW8 : th8.W = th.W := by rw [← hth8]
      rw [← hg8]
      refine fa ?_
      refine ldb (H8.new.ok.core hi8).blk (v := .slice (some ⟨wb, wo, none⟩) th8.W.length wc) (by rw [← hwv8]; rfl) ?_
      refine ix 0 rfl (by rw [hW8]; exact hlW) ?_
      refine H8.new.ok.putW hi8 0 (by rw [hW8]; exact hlW) hwv8 0 fun w9 p9 => ?_
      have H9 := H8.set p9
      rw [put_put] at H9
      have e : p.put kk (absT { th8 with W := th8.W.set 0 0 }) = p.put kk { absT th with fs := [⟨6, 0, []⟩], W := th.W.set 0 0 } := by rw [← hth8, hfs]; rfl
      rw [e] at H9
      exact cut_mk [.int .i64 h] rfl rfl ⟨h, _, _, l, tg, _, rfl, ⟨H9, J7.m, by show ((X.ths.set _ _).set _ _).length = t; rw [List.length_set, List.length_set]; exact J7.c, J7.g.lawS hk0 hthA hfsA hr0⟩, set_at hi8, rfl⟩
    refine cN hr0 ?_
    refine fa ?_
    refine ldb (J7.h.new.ok.core hth).blk (v := .slice (some ⟨wb, wo, none⟩) th.W.length wc) (by rw [← hwv]; rfl) ?_
    refine ix 0 rfl hlW ?_
    refine ld (v := .int .u64 (th.W.getD 0 0)) (u64_at hsW hlW) ?_
    refine cY hw1 ?_
    obtain ⟨vz, hvz⟩ : ∃ v, v = p.W.getD 3 0 := ⟨_, rfl⟩
    have hWl := J7.g.ok.l
    have hszW := size_bd J7.g.ok.r
    have hu3 := u64_getD J7.g.ok.w 3
    rw [← hvz] at hu3
    -- the place's word is noted
    refine draw_mix 11 [(0, true), (1, true), (2, true), (3, true), (4, true), (5, true), (7, true), (6, false), (8, true), (9, false), (10, true)] (fun w' => Upd [] w7 w') (by decide +kernel) (Upd.refl [] w7).drew ?_
    refine q_fa ?_
    refine q_ld (v := .slice (some ⟨sb, so, none⟩) th.S.length sc) (fun w' hw' => by rw [← hsv]; exact ((J7.upd0 hw').h.new.ok.core hth).blk.cell 6) ?_
    refine t_cl (ptrV X.mp) (fun w' hw' => by
      have := mem_mm (J7.upd0 hw').h.new.ok
      rw [J7.m] at this; exact this) ?_
    have u8 : Upd [] w7 w7.drew := (Upd.refl [] w7).drew
    refine cl ((J7.upd0 u8).h.words (by omega)) ?_
    rintro wv w8 ⟨hs8, hu8⟩
    have u8 := u8.trans hu8
    obtain ⟨va8, vc8, rfl, -⟩ := hs8.form
    obtain ⟨v8, o8, c8, he8, -⟩ := hs8.some_ (show 0 < p.W.length by omega)
    cases he8
    refine ⟨u8, ?_⟩
    refine q_ix 3 rfl (by omega) ?_
    refine ld (v := .int .u64 vz) (by rw [hvz]; exact u64_at hs8 (by omega)) ?_
    refine ⟨u8, ?_⟩
    refine q_ix 0 rfl hlS ?_
    have J8 := J7.upd0 u8
    refine J8.h.new.ok.putS hth 0 hlS hsv vz fun w9 p9 => ?_
    have H9 := J8.h.set p9
    clear J8 u8 hu8 hs8 p9
    generalize hth9 : ({ th with S := th.S.set 0 vz } : Th) = th9 at *
    have hi9 : ({ X with ths := X.ths.set kk th9 } : Mc).ths[kk]? = some th9 := set_at hth
    have hg9 : th9.g = th.g := by rw [← hth9]
    have hr9 : th9.r = th.r := by rw [← hth9]
    have hP9 : th9.P = th.P := by rw [← hth9]
    have hpv9 : th9.pv = .slice (some ⟨pb2, po2, none⟩) th9.P.length pc2 := by rw [← hth9]; exact hpv
    have hwv9 : th9.wv = .slice (some ⟨wb, wo, none⟩) th9.W.length wc := by rw [← hth9]; exact hwv
    have hW9 : th9.W = th.W := by rw [← hth9]
    have hA9 : absT th9 = { absT th with S := th.S.set 0 vz } := by rw [← hth9]; rfl
    have hm9 : ({ X with ths := X.ths.set kk th9 } : Mc).m = m := J7.m
    have hmp9 : ({ X with ths := X.ths.set kk th9 } : Mc).mp = X.mp := rfl
    have hl9 : ({ X with ths := X.ths.set kk th9 } : Mc).ths.length = t := by show (X.ths.set _ _).length = t; rw [List.length_set]; exact J7.c
    generalize ({ X with ths := X.ths.set kk th9 } : Mc) = X9 at *
    rw [← hg9]
    -- what was taken is noted
    refine draw_mix 10 [(0, true), (1, true), (2, true), (3, true), (4, true), (5, true), (6, true), (7, true), (8, true), (9, true)] (fun w' => Upd [] w9 w') (by decide +kernel) (Upd.refl [] w9).drew ?_
    refine q_fa ?_
    refine q_ld (v := .slice (some ⟨pb2, po2, none⟩) th9.P.length pc2) (fun w' hw' => by rw [← hpv9]; exact ((H9.upd0 hw').new.ok.core hi9).blk.cell 5) ?_
    refine q_fa ?_
    refine q_ixA 0 rfl (by omega) ?_
    refine q_ld (v := .int .u64 th9.r.1) (fun w' hw' => ((H9.upd0 hw').new.ok.core hi9).blk.cell 2) ?_
    refine q_ix 0 rfl (by rw [hP9]; exact hlP) ?_
    have u9 : Upd [] w9 w9.drew := (Upd.refl [] w9).drew
    refine (H9.upd0 u9).new.ok.putP hi9 0 (by rw [hP9]; exact hlP) hpv9 th9.r.1 fun w10 p10 => ?_
    have H10 := (H9.upd0 u9).set p10
    rw [put_put] at H10
    clear u9 p10
    generalize hth10 : ({ th9 with P := th9.P.set 0 th9.r.1 } : Th) = th10 at *
    have hi10 : ({ X9 with ths := X9.ths.set kk th10 } : Mc).ths[kk]? = some th10 := set_at hi9
    have hg10 : th10.g = th9.g := by rw [← hth10]
    have hwv10 : th10.wv = .slice (some ⟨wb, wo, none⟩) th10.W.length wc := by rw [← hth10]; exact hwv9
    have hW10 : th10.W = th.W := by rw [← hth10]; exact hW9
    have hA10 : absT th10 = { absT th with S := th.S.set 0 vz, P := th.P.set 0 th.r.1 } := by
      rw [← hth10]
      show ({ absT th9 with P := th9.P.set 0 th9.r.1 } : PT) = _
      rw [hA9, hP9, hr9]
    have hm10 : ({ X9 with ths := X9.ths.set kk th10 } : Mc).m = m := hm9
    have hl10 : ({ X9 with ths := X9.ths.set kk th10 } : Mc).ths.length = t := by show (X9.ths.set _ _).length = t; rw [List.length_set]; exact hl9
    generalize ({ X9 with ths := X9.ths.set kk th10 } : Mc) = X10 at *
    rw [← hg10]
    -- it is done
    refine fa ?_
    refine ldb (H10.new.ok.core hi10).blk (v := .slice (some ⟨wb, wo, none⟩) th10.W.length wc) (by rw [← hwv10]; rfl) ?_
    refine ix 0 rfl (by rw [hW10]; exact hlW) ?_
    refine H10.new.ok.putW hi10 0 (by rw [hW10]; exact hlW) hwv10 2 fun w11 p11 => ?_
    have H11 := H10.set p11
    rw [put_put] at H11
    clear p11
    generalize hth11 : ({ th10 with W := th10.W.set 0 2 } : Th) = th11 at *
    have hi11 : ({ X10 with ths := X10.ths.set kk th11 } : Mc).ths[kk]? = some th11 := set_at hi10
    have hg11 : th11.g = th10.g := by rw [← hth11]
    have hA11 : absT th11 = { absT th with S := th.S.set 0 vz, P := th.P.set 0 th.r.1, W := th.W.set 0 2 } := by
      rw [← hth11]
      show ({ absT th10 with W := th10.W.set 0 2 } : PT) = _
      rw [hA10, hW10]
    have hm11 : ({ X10 with ths := X10.ths.set kk th11 } : Mc).m = m := hm10
    have hl11 : ({ X10 with ths := X10.ths.set kk th11 } : Mc).ths.length = t := by show (X10.ths.set _ _).length = t; rw [List.length_set]; exact hl10
    generalize ({ X10 with ths := X10.ths.set kk th11 } : Mc) = X11 at *
    rw [← hg11]
    have hS11 : th11.S = th.S.set 0 vz := congrArg PT.S hA11
    have hP11 : th11.P = th.P.set 0 th.r.1 := congrArg PT.P hA11
    have hSl : 0 < th11.S.length := by rw [hS11]; simpa using hlS
    have hPl : 0 < th11.P.length := by rw [hP11]; simpa using hlP
    have hS0 : th11.S.getD 0 0 = vz := by rw [hS11]; exact setD_self hlS
    have hP0 : th11.P.getD 0 0 = th.r.1 := by rw [hP11]; exact setD_self hlP
    obtain ⟨sb1, so1, sc1, hsv1, -⟩ := (H11.new.ok.sv2 hi11).some_ hSl
    obtain ⟨pb1, po1, pc1, hpv1, -⟩ := (H11.new.ok.pv2 hi11).some_ hPl
    have hSc : ∀ w', Upd [] w11 w' → w'.cell? ⟨sb1, so1 + 0 * 1, none⟩ = some (.int .u64 vz) := fun w' hw' => by
      have := (H11.upd0 hw').new.ok.sv2 hi11
      rw [hsv1] at this
      rw [← hS0]; exact u64_at this hSl
    have hPc : ∀ w', Upd [] w11 w' → w'.cell? ⟨pb1, po1 + 0 * 1, none⟩ = some (.int .u64 th.r.1) := fun w' hw' => by
      have := (H11.upd0 hw').new.ok.pv2 hi11
      rw [hpv1] at this
      rw [← hP0]; exact u64_at this hPl
    obtain ⟨hG1, hxb⟩ := J7.g.lawT (by omega) hk0 hthA hfsA hw1 hr0 (fs' := _) rfl (P' := th.P.set 0 th.r.1) (S' := th.S.set 0 vz) (by simp; rfl) (by simp; rfl)
    have hvp := J7.g.vp
    rw [← hvz] at hG1 hvp
    have hxb : 1 ≤ th.r.1 ∧ th.r.1 ≤ 64 := hxb
    have hvb : vz < 131072 * 10000 := by unfold verW at hvp; omega
    have e1 : vz.tmod 131072 = vz % 131072 := Int.tmod_eq_emod_of_nonneg hu3.1
    refine draw_all (fun w' => Upd [] w11 w') (by decide +kernel) (Upd.refl [] w11).drew ?_
    refine q_fa ?_
    refine q_ld (v := .slice (some ⟨sb1, so1, none⟩) th11.S.length sc1) (fun w' hw' => by rw [← hsv1]; exact ((H11.upd0 hw').new.ok.core hi11).blk.cell 6) ?_
    refine q_ix 0 rfl hSl ?_
    refine q_ld (v := .int .u64 vz) (fun w' hw' => hSc w' hw') ?_
    refine q_fa ?_
    refine q_ld (v := .slice (some ⟨sb1, so1, none⟩) th11.S.length sc1) (fun w' hw' => by rw [← hsv1]; exact ((H11.upd0 hw').new.ok.core hi11).blk.cell 6) ?_
    refine q_ix 0 rfl hSl ?_
    refine q_ld (v := .int .u64 vz) (fun w' hw' => hSc w' hw') ?_
    refine rq (.int .u64 (vz % 131072)) (fun _ _ => rm (by decide) (val _ e1 ⟨rfl, rfl⟩)) ?_
    refine q_arU (by omega) ?_
    refine q_arU (by omega) ?_
    refine q_fa ?_
    refine q_ld (v := .slice (some ⟨pb1, po1, none⟩) th11.P.length pc1) (fun w' hw' => by rw [← hpv1]; exact ((H11.upd0 hw').new.ok.core hi11).blk.cell 5) ?_
    refine q_ix 0 rfl hPl ?_
    refine q_ld (v := .int .u64 th.r.1) (fun w' hw' => hPc w' hw') ?_
    refine q_arU (by omega) ?_
    refine q_arU (by omega) ?_
    intro w12 hu12
    have H12 := H11.upd0 hu12
    have hmm := mem_mm H12.new.ok
    rw [hm11] at hmm
    refine cl hmm ?_
    rintro _ _ ⟨rfl, rfl⟩
    have hk12 : 0 ≤ X11.s.k ∧ X11.s.k ≤ 1000000 := by
      have e : X11.s.k = p.k := congrArg PS.k H12.a
      have := J7.g.ok.k0
      have := J7.g.ok.k1
      rw [e]; omega
    refine cl (poke_p H12.new.ok H12.calm hk12 3 (vz - vz % 131072 + 131072 + 2 * th.r.1)) ?_
    rintro _ w13 hev
    obtain ⟨Y, pp, kn, aY⟩ := hev.ev
    rw [H12.a, poke_put (show p.okP 3 from ⟨by decide, by omega⟩), hA11] at aY
    have HY : Hz w2 w13 Y _ := ⟨H12.new.post pp, aY, kn.calm H12.calm, by rw [kn.len]; exact H12.tl⟩
    obtain ⟨th13, hi13, hg13⟩ := kn.g hi11
    have hA13 : absT th13 = { absT th with S := th.S.set 0 vz, P := th.P.set 0 th.r.1, W := th.W.set 0 2 } := by
      have h1 := abs_th Y hi13
      rw [aY] at h1
      have h2 : (p.ths.set kk { absT th with S := th.S.set 0 vz, P := th.P.set 0 th.r.1, W := th.W.set 0 2 })[kk]? = some (absT th13) := h1
      rw [ths_at hthA] at h2
      exact (Option.some.inj h2).symm
    have hS13 : th13.S = th.S.set 0 vz := congrArg PT.S hA13
    have hf13 : th13.fs = [] := (congrArg PT.fs hA13).trans hfs
    have hSl3 : 0 < th13.S.length := by rw [hS13]; simpa using hlS
    have hS03 : th13.S.getD 0 0 = vz := by rw [hS13]; exact setD_self hlS
    obtain ⟨sb3, so3, sc3, hsv3, -⟩ := (HY.new.ok.sv2 hi13).some_ hSl3
    have hSc3 : w13.cell? ⟨sb3, so3 + 0 * 1, none⟩ = some (.int .u64 vz) := by
      have := HY.new.ok.sv2 hi13
      rw [hsv3] at this
      rw [← hS03]; exact u64_at this hSl3
    have hmY : Y.m = m := kn.m.trans hm11
    have hlY : Y.ths.length = t := by rw [kn.len]; exact hl11
    have e2 : vz.tdiv 2 = vz / 2 := Int.tdiv_eq_ediv_of_nonneg hu3.1
    rw [← hg13]
    refine fa ?_
    refine ldb (HY.new.ok.core hi13).blk (v := .slice (some ⟨sb3, so3, none⟩) th13.S.length sc3) (by rw [← hsv3]; rfl) ?_
    refine ix 0 rfl hSl3 ?_
    refine ld (v := .int .u64 vz) hSc3 ?_
    refine qu (by decide) ?_
    rw [e2]
    refine arU (by omega) ?_
    refine rm (by decide) ?_
    refine val (ptrW vz) (by unfold ptrW; exact Int.tmod_eq_emod_of_nonneg (by omega)) ?_
    by_cases hz : ptrW vz = 0
    · refine cN (fun h => h hz) ?_
      rw [if_pos hz] at hG1
      refine cut_mk [.int .i64 h] rfl rfl ⟨h, Y, _, l, tg, th13, rfl, ⟨HY, hmY, hlY, ?_⟩, hi13, rfl⟩
      have e3 : ({ absT th with S := th.S.set 0 vz, P := th.P.set 0 th.r.1, W := th.W.set 0 2 } : PT) = { absT th with fs := [], P := th.P.set 0 th.r.1, S := th.S.set 0 vz, W := th.W.set 0 2 } := by
        show ({ absT th with S := th.S.set 0 vz, P := th.P.set 0 th.r.1, W := th.W.set 0 2 } : PT) = { absT th with fs := [], P := th.P.set 0 th.r.1, S := th.S.set 0 vz, W := th.W.set 0 2 }
        rw [← hfsA]
      rw [e3]
      exact hG1
    · refine cY hz ?_
      rw [if_neg hz] at hG1
      refine fa ?_
      refine ldb (HY.new.ok.core hi13).blk (v := .slice (some ⟨sb3, so3, none⟩) th13.S.length sc3) (by rw [← hsv3]; rfl) ?_
      refine ix 0 rfl hSl3 ?_
      refine ld (v := .int .u64 vz) hSc3 ?_
      refine qu (by decide) ?_
      rw [e2]
      refine arU (by omega) ?_
      refine rm (by decide) ?_
      refine val (ptrW vz) (by unfold ptrW; exact Int.tmod_eq_emod_of_nonneg (by omega)) ?_
      refine bs #[.int .u64 (ptrW vz)] (fun _ => by kernel_rfl) fun w14 hb14 hu14 hs14 => ?_
      refine cl (push_mm (HY.upd0 hu14).new.ok hi13 (by rw [hf13]; simp) (one_rd hb14) (by simp) 5) ?_
      rintro _ w15 ⟨fv, p15⟩
      have H15 := (HY.upd0 hu14).set p15
      refine cut_mk [.int .i64 h] rfl rfl ⟨h, _, _, l, tg, _, rfl, ⟨H15, hmY, by show (Y.ths.set _ _).length = t; rw [List.length_set]; exact hlY, ?_⟩, set_at hi13, rfl⟩
      have e3 : absT { th13 with fv := fv, fs := th13.fs ++ [⟨5, 0, [ptrW vz]⟩] } = { absT th with fs := [⟨5, 0, [ptrW vz]⟩], P := th.P.set 0 th.r.1, S := th.S.set 0 vz, W := th.W.set 0 2 } := by
        show ({ absT th13 with fs := th13.fs ++ [⟨5, 0, [ptrW vz]⟩] } : PT) = _
        rw [hA13, hf13]; rfl
      rw [e3]
      have e4 : ∀ (c : Cf) (W : List Int) (k : Int) (gh : Option (List Int × Int × Int)) (a b : Bool) (ths : List PT) (u v : PT), (⟨c, W, k, gh, a, b, ths.set kk u⟩ : PS).put kk v = ⟨c, W, k, gh, a, b, ths.set kk v⟩ := fun c W k gh a b ths u v => by
        unfold PS.put; simp
      rw [e4]
      exact hG1
  · exact cut_mk [.int .i64 h] rfl rfl ⟨h, X, p, l, tg, th, rfl, ⟨J7.h, J7.m, J7.c, J7.g.up (by omega)⟩, hth, rfl⟩
  clear hcf hpsr J J6 J7 hth hthA hfl hthr
  rintro _ w8 ⟨h, X, p, l, tg, th', rfl, J, hth, hg⟩
  rw [← hg]
  have hthA : p.ths[kk]? = some (absT th') := by
    have := abs_th X hth
    rw [J.h.a] at this; exact this
  have hfl : th'.fs.length ≤ 2 := J.g.fsl hthA
  refine cl (top_b J.h.new.ok hth hfl) ?_
  rintro _ w9 ⟨o9, rfl, hn9, hs9, hu9⟩
  refine ptr_neb _ hn9 hs9 ?_
  have J9 := J.upd0 hu9
  clear hn9 hs9
  by_cases hfs : th'.fs = []
  · rw [decide_eq_true hfs]
    by_cases hh0 : h = 0
    · refine cN (fun hx => hx hh0) ?_
      have hft := (J9).h.fault0 (J9).g.gh (J9).g.bad
      rw [(J9).m] at hft
      refine cl hft ?_
      rintro _ wf ⟨rfl, huf⟩
      refine ar64 (by omega) ?_
      exact round_mk [.int .i64 h, .int .i64 ((i + 1 : Nat) : Int)] (ps.length - (i + 1)) rfl rfl ⟨i + 1, h, _, _, _, _, rfl, by omega, rfl, GW.upd0 ⟨(J9).h, (J9).m, (J9).c, (J9).g.up (by omega)⟩ huf⟩ (by omega)
    · refine cY hh0 ?_
      obtain ⟨gp, gv, hgv, hIsG⟩ := (J9).h.ghost (J9).g.gh
      have hgm := ghost_mm (J9).h.new.ok
      rw [(J9).m, hgv] at hgm
      refine cl hgm ?_
      rintro _ _ ⟨rfl, rfl⟩
      have htl64 : _ ≤ 64 := (J9).tag64
      refine cl (tag_c hIsG htl64 h) ?_
      rintro _ _ ⟨rfl, rfl⟩
      refine cN ((J9).g.fine hh0) ?_
      have hft := (J9).h.fault0 (J9).g.gh (J9).g.bad
      rw [(J9).m] at hft
      refine cl hft ?_
      rintro _ wf ⟨rfl, huf⟩
      refine ar64 (by omega) ?_
      exact round_mk [.int .i64 h, .int .i64 ((i + 1 : Nat) : Int)] (ps.length - (i + 1)) rfl rfl ⟨i + 1, h, _, _, _, _, rfl, by omega, rfl, GW.upd0 ⟨(J9).h, (J9).m, (J9).c, (J9).g.up (by omega)⟩ huf⟩ (by omega)
  · rw [decide_eq_false hfs]
    obtain ⟨mm, q, l', tg', h', hrd, G2, ha, hb⟩ := J9.g.step (by omega) hthA hfs
    rw [← J9.h.a] at hrd
    have hst := step_hz J9.h.new.ok J9.h.calm J9.h.tl hth hrd
    rw [J9.m] at hst
    refine cl hst ?_
    rintro _ w10 ⟨rfl, hev⟩
    obtain ⟨Y, pp, kn, aY⟩ := hev
    have JY : GW w2 w10 Y q all m t l' tg' h' (3 * i + 3) := ⟨⟨J9.h.new.post pp, aY, kn.calm J9.h.calm, by rw [kn.len]; exact J9.h.tl⟩, kn.m.trans J9.m, by rw [kn.len]; exact J9.c, G2⟩
    obtain ⟨th2, hth2, hg2⟩ := kn.g hth
    have hth2A : q.ths[kk]? = some (absT th2) := by
      have := abs_th Y hth2
      rw [aY] at this; exact this
    by_cases htop : 0 < topL q kk
    · rw [decide_eq_true htop]
      have hh : h' = h := by
        by_cases hk0 : kk = 0
        · rcases hb hk0 with ⟨-, e⟩ | ⟨e, -⟩
          · exact e
          · omega
        · exact ha hk0
      rw [hh] at JY
      by_cases hh0 : h = 0
      · refine cN (fun hx => hx hh0) ?_
        have hft := (JY).h.fault0 (JY).g.gh (JY).g.bad
        rw [(JY).m] at hft
        refine cl hft ?_
        rintro _ wf ⟨rfl, huf⟩
        refine ar64 (by omega) ?_
        exact round_mk [.int .i64 h, .int .i64 ((i + 1 : Nat) : Int)] (ps.length - (i + 1)) rfl rfl ⟨i + 1, h, _, _, _, _, rfl, by omega, rfl, GW.upd0 ⟨(JY).h, (JY).m, (JY).c, (JY).g.up (by omega)⟩ huf⟩ (by omega)
      · refine cY hh0 ?_
        obtain ⟨gp, gv, hgv, hIsG⟩ := (JY).h.ghost (JY).g.gh
        have hgm := ghost_mm (JY).h.new.ok
        rw [(JY).m, hgv] at hgm
        refine cl hgm ?_
        rintro _ _ ⟨rfl, rfl⟩
        have htl64 : _ ≤ 64 := (JY).tag64
        refine cl (tag_c hIsG htl64 h) ?_
        rintro _ _ ⟨rfl, rfl⟩
        refine cN ((JY).g.fine hh0) ?_
        have hft := (JY).h.fault0 (JY).g.gh (JY).g.bad
        rw [(JY).m] at hft
        refine cl hft ?_
        rintro _ wf ⟨rfl, huf⟩
        refine ar64 (by omega) ?_
        exact round_mk [.int .i64 h, .int .i64 ((i + 1 : Nat) : Int)] (ps.length - (i + 1)) rfl rfl ⟨i + 1, h, _, _, _, _, rfl, by omega, rfl, GW.upd0 ⟨(JY).h, (JY).m, (JY).c, (JY).g.up (by omega)⟩ huf⟩ (by omega)
    · rw [decide_eq_false htop]
      by_cases hk0 : kk = 0
      · refine cY (show (kk : Int) = 0 by omega) ?_
        have hr2 : h' = ptrW th2.r.1 ∧ u64R th2.r.1 := by
          rcases hb hk0 with ⟨e, -⟩ | ⟨-, t2, e1, e2⟩
          · exact absurd e htop
          · rw [hth2A] at e1
            rw [← Option.some.inj e1] at e2; exact e2
        obtain ⟨hr2, hu2'⟩ := hr2
        rw [hr2] at JY
        have hblk2 := (JY.h.new.ok.core hth2).blk
        rw [hg2] at hblk2
        have hpb2 := ptrW_bd (x := th2.r.1)
        refine fa ?_
        refine ixA 0 rfl (by omega) ?_
        refine ldb (v := .int .u64 th2.r.1) hblk2 rfl ?_
        have e1 : th2.r.1.tdiv 2 = th2.r.1 / 2 := Int.tdiv_eq_ediv_of_nonneg hu2'.1
        refine qu (by decide) ?_
        rw [e1]
        refine arU (by omega) ?_
        refine rm (by decide) ?_
        refine val (ptrW th2.r.1) (by unfold ptrW; exact Int.tmod_eq_emod_of_nonneg (by omega)) ?_
        refine cv ?_
        refine ar64 (by omega) ?_
        by_cases hh0 : (ptrW th2.r.1) = 0
        · refine cN (fun hx => hx hh0) ?_
          have hft := (JY).h.fault0 (JY).g.gh (JY).g.bad
          rw [(JY).m] at hft
          refine cl hft ?_
          rintro _ wf ⟨rfl, huf⟩
          refine ar64 (by omega) ?_
          exact round_mk [.int .i64 (ptrW th2.r.1), .int .i64 ((i + 1 : Nat) : Int)] (ps.length - (i + 1)) rfl rfl ⟨i + 1, (ptrW th2.r.1), _, _, _, _, rfl, by omega, rfl, GW.upd0 ⟨(JY).h, (JY).m, (JY).c, (JY).g.up (by omega)⟩ huf⟩ (by omega)
        · refine cY hh0 ?_
          obtain ⟨gp, gv, hgv, hIsG⟩ := (JY).h.ghost (JY).g.gh
          have hgm := ghost_mm (JY).h.new.ok
          rw [(JY).m, hgv] at hgm
          refine cl hgm ?_
          rintro _ _ ⟨rfl, rfl⟩
          have htl64 : _ ≤ 64 := (JY).tag64
          refine cl (tag_c hIsG htl64 (ptrW th2.r.1)) ?_
          rintro _ _ ⟨rfl, rfl⟩
          refine cN ((JY).g.fine hh0) ?_
          have hft := (JY).h.fault0 (JY).g.gh (JY).g.bad
          rw [(JY).m] at hft
          refine cl hft ?_
          rintro _ wf ⟨rfl, huf⟩
          refine ar64 (by omega) ?_
          exact round_mk [.int .i64 (ptrW th2.r.1), .int .i64 ((i + 1 : Nat) : Int)] (ps.length - (i + 1)) rfl rfl ⟨i + 1, (ptrW th2.r.1), _, _, _, _, rfl, by omega, rfl, GW.upd0 ⟨(JY).h, (JY).m, (JY).c, (JY).g.up (by omega)⟩ huf⟩ (by omega)
      · refine cN (show ¬ (kk : Int) = 0 by omega) ?_
        rw [ha hk0] at JY
        by_cases hh0 : h = 0
        · refine cN (fun hx => hx hh0) ?_
          have hft := (JY).h.fault0 (JY).g.gh (JY).g.bad
          rw [(JY).m] at hft
          refine cl hft ?_
          rintro _ wf ⟨rfl, huf⟩
          refine ar64 (by omega) ?_
          exact round_mk [.int .i64 h, .int .i64 ((i + 1 : Nat) : Int)] (ps.length - (i + 1)) rfl rfl ⟨i + 1, h, _, _, _, _, rfl, by omega, rfl, GW.upd0 ⟨(JY).h, (JY).m, (JY).c, (JY).g.up (by omega)⟩ huf⟩ (by omega)
        · refine cY hh0 ?_
          obtain ⟨gp, gv, hgv, hIsG⟩ := (JY).h.ghost (JY).g.gh
          have hgm := ghost_mm (JY).h.new.ok
          rw [(JY).m, hgv] at hgm
          refine cl hgm ?_
          rintro _ _ ⟨rfl, rfl⟩
          have htl64 : _ ≤ 64 := (JY).tag64
          refine cl (tag_c hIsG htl64 h) ?_
          rintro _ _ ⟨rfl, rfl⟩
          refine cN ((JY).g.fine hh0) ?_
          have hft := (JY).h.fault0 (JY).g.gh (JY).g.bad
          rw [(JY).m] at hft
          refine cl hft ?_
          rintro _ wf ⟨rfl, huf⟩
          refine ar64 (by omega) ?_
          exact round_mk [.int .i64 h, .int .i64 ((i + 1 : Nat) : Int)] (ps.length - (i + 1)) rfl rfl ⟨i + 1, h, _, _, _, _, rfl, by omega, rfl, GW.upd0 ⟨(JY).h, (JY).m, (JY).c, (JY).g.up (by omega)⟩ huf⟩ (by omega)
end
theorem HazardGuards_walk (w : World) (l : List Int) (wl : Fits [.i64, .i64, .i64, .i64, .i64, .i64, .i64] l) (v1 : Value) (l1 : List (List Int)) (h1 : SlRows w w.heap.size [.i64] v1 l1) :
    Calls Try.prog 3 #[.agg (mkInts [.i64, .i64, .i64, .i64, .i64, .i64, .i64] l).toArray, v1] w fun e w' => e = .returned (.bool true) ∧ Below w.heap.size w w' := by
  obtain ⟨⟨A, T, N, L, B, P, S⟩, rfl⟩ := cf_of wl
  exact (guards_law (c := ⟨A, T, N, L, B, P, S⟩) (RdK.of_ints h1.ints (Nat.le_refl _))).mono fun _ _ ⟨_, he, hr, hu⟩ => ⟨by rw [he, hr], hu.below⟩
end Go.Proofs.Ytklbeipdigancaa

