/- The statement that ranges over a function. -/
import Derived.Test.YtaogmfmphamplaaV19
namespace Go.Proofs.Ytaogmfmphamplaa
open Go.RowKit
def obObj (l : Nat) (o : Obj) : Ob := ⟨[l], fun w => w.heap[l]? = some o, fun {S w w'} h hu hS => (hu.block l (Array.getElem?_eq_some_iff.1 h).1 (hS l (by simp))).trans h, fun h k hk => by
  rw [List.mem_singleton.1 hk]; exact (Array.getElem?_eq_some_iff.1 h).1⟩
def penv : List Nat → List Value → Env → Env
  | p :: ps, v :: vs, e => penv ps vs ((p, v) :: e)
  | _, _, e => e
theorem penv_knows {N : Nat} : ∀ (ps : List Nat) (vs : List Value) (e : Env) (tmps : Array Value), (∀ p ∈ ps, p < N) → tmps.size = N → (∀ t v, look e t = some v → tmps[t]? = some v) →
    ((ps.zip vs).foldl (fun t (x : Nat × Value) => t.setIfInBounds x.1 x.2) tmps).size = N ∧ ∀ t v, look (penv ps vs e) t = some v → ((ps.zip vs).foldl (fun t (x : Nat × Value) => t.setIfInBounds x.1 x.2) tmps)[t]? = some v
  | [], vs, e, tmps, _, hs, hl => ⟨by simpa using hs, by simpa [penv] using hl⟩
  | p :: ps, [], e, tmps, _, hs, hl => ⟨by simpa using hs, by simpa [penv] using hl⟩
  | p :: ps, v :: vs, e, tmps, hp, hs, hl => by
    have hpl := hp p (by simp)
    have := penv_knows ps vs ((p, v) :: e) (tmps.setIfInBounds p v) (fun q hq => hp q (by simp [hq])) (by simpa using hs) (fun t u hu => by
      by_cases h : p = t
      · subst h
        rw [look_cons_eq] at hu
        cases hu
        simp [hs, hpl]
      · rw [look_cons_ne h] at hu
        rw [Array.getElem?_setIfInBounds_ne h]
        exact hl t u hu)
    simpa [penv] using this
theorem penv_act {N : Nat} {D : List Nat} {ps : Array Nat} {va : Array Value} {e : Env} {a : Act} (hp : ∀ p ∈ ps.toList, p < N) (hk : KnowsD N D e a) :
    KnowsD N [] (penv ps.toList va.toList e) { tmps := (ps.zip va).foldl (fun t (p, v) => t.setIfInBounds p v) a.tmps, defers := [] } := by
  obtain ⟨h1, h2⟩ := penv_knows ps.toList va.toList e a.tmps hp hk.size hk.look
  have e1 : (ps.zip va).foldl (fun t (x : Nat × Value) => t.setIfInBounds x.1 x.2) a.tmps = (ps.toList.zip va.toList).foldl (fun t (x : Nat × Value) => t.setIfInBounds x.1 x.2) a.tmps := by
    rw [← Array.foldl_toList, Array.toList_zip]
  refine ⟨rfl, ?_, ?_⟩
  · show ((ps.zip va).foldl (fun t (x : Nat × Value) => t.setIfInBounds x.1 x.2) a.tmps).size = N
    rw [e1]; exact h1
  · show ∀ t v, _ → ((ps.zip va).foldl (fun t (x : Nat × Value) => t.setIfInBounds x.1 x.2) a.tmps)[t]? = some v
    rw [e1]; exact h2
theorem to_in {w W1 W : World} {l : Nat} {F F' : List Nat} (hu : Upd [] w W1) (hl : w.heap.size ≤ l) (ht : To W1 (l :: F) W (l :: F')) (hn : l ∉ F') : To w F W F' :=
  ⟨hu.mono (by simp) |>.step ht.up (fun x hx => by
    rcases List.mem_cons.1 hx with h | h
    · rw [h]; exact .inr hl
    · exact .inl h), fun k hk => by
    have := hu.size
    rcases ht.sub k (List.mem_cons_of_mem _ hk) with h | h
    · rcases List.mem_cons.1 h with h1 | h1
      · subst h1; exact absurd hk hn
      · exact .inl h1
    · right; omega⟩
def roundQ (G : Nat → Ob → Prop) (Gx : Code → Nat → Ob → Prop) (i : Nat) (W : World) (F : List Nat) (x : Exit) (_ : List Nat) (_ : Env) (W2 : World) : Prop :=
  match x with
  | .normal => ∃ o' : Ob, o'.ok W2 ∧ To W F W2 o'.foot ∧ G (i + 1) o'
  | .ret => ∃ o' : Ob, o'.ok W2 ∧ To W F W2 o'.foot ∧ Gx .ret i o'
  | .exit id => ∃ o' : Ob, o'.ok W2 ∧ To W F W2 o'.foot ∧ Gx (.exit id) i o'
  | _ => False
theorem pair_ok {l : Nat} {r : Obj} {o : Ob} {w : World} (h : (obAll [obObj l r, o]).ok w) : w.heap[l]? = some r ∧ o.ok w ∧ l ∉ o.foot := by
  have h : Sep w [obObj l r, o] := h
  refine ⟨h.ok (obObj l r) (by simp), h.ok o (by simp), fun hm => ?_⟩
  exact h.apart_ (i := 0) (j := 1) (x := obObj l r) (y := o) rfl rfl (by decide) l (by simp [obObj]) hm
theorem pair_mk {l : Nat} {r : Obj} {o : Ob} {w : World} (h1 : w.heap[l]? = some r) (h2 : o.ok w) (h3 : l ∉ o.foot) : (obAll [obObj l r, o]).ok w :=
  Sep.cons (Sep.cons (Sep.nil w) h2 (by simp [feet])) h1 (by simp [obObj, feet]; exact h3)
theorem pair_foot (l : Nat) (r : Obj) (o : Ob) : (obAll [obObj l r, o]).foot = l :: o.foot := by simp [obAll, feet, obObj]
theorem range_rule {P : Program} {N : Nat} {ps : Array Tmp} {asg body : Code} {Q : QR} {D : List Nat} {e : Env} {w : World} {fv : Value} {xs : List (Array Value)} {A : Ob} (it : IterC P fv xs A) (hA : A.ok w) (G : Nat → Ob → Prop) (Gx : Code → Nat → Ob → Prop) (o0 : Ob) (h0 : G 0 o0) (ho : o0.ok w) (hap : ∀ k ∈ A.foot, k ∉ o0.foot)
    (hps : ∀ va ∈ xs, va.size = ps.size) (hlt : ∀ p ∈ ps.toList, p < N)
    (round : ∀ i va o W W', xs[i]? = some va → G i o → To w o0.foot W o.foot → o.ok W → To w o0.foot W' o.foot → o.ok W' →
      vr P false N asg (fun x D1 e1 W1 => x = .normal ∧ D1 = [] ∧ W1 = W ∧ vr P false N body (roundQ G Gx i W' o.foot) [] e1 W') [] (penv ps.toList va.toList e) W)
    (done : ∀ r o W, G xs.length o → o.ok W → To w o0.foot W o.foot → Dfr W r → w.heap.size ≤ r → r ∉ o.foot → Q .normal (r :: D) e W)
    (stop : ∀ r c i o W, i < xs.length → Gx c i o → o.ok W → To w o0.foot W o.foot → Dfr W r → w.heap.size ≤ r → r ∉ o.foot → vr P true N c Q (r :: D) e W) : RangeR P N fv ps asg body Q D e w := by
  obtain ⟨gf, lb, rfl, eg, hit⟩ := it
  refine ⟨fun n g a hk hg => wpIn_rangeFunc fun fn _ => ?_⟩
  obtain ⟨rec, hrec⟩ : ∃ rec : LoopState → Option Code → Loop, rec = fun st pe => { state := st, pending := pe, fn, tmps := a.tmps, params := ps, assign := asg, body, defers := w.heap.size } := ⟨_, rfl⟩
  obtain ⟨W1, hW1⟩ : ∃ W1, (w.alloc (.deferred (some []))).alloc (.loop (rec .ready none)) = W1 := ⟨_, rfl⟩
  have hL1 : W1.heap[w.heap.size + 1]? = some (.loop (rec .ready none)) := by
    rw [← hW1]; have := World.alloc_heap_new (w.alloc (.deferred (some []))) (.loop (rec .ready none)); rwa [World.size_alloc] at this
  have hK1 : W1.heap[w.heap.size]? = some (.deferred (some [])) := by
    rw [← hW1]; exact (Below.heap_alloc _ _ _ (by simp)).trans (World.alloc_heap_new w _)
  have hu1 : Upd [] w W1 := by rw [← hW1]; exact ((Upd.refl [] w).alloc _).alloc _
  obtain ⟨l, hl⟩ : ∃ l, l = w.heap.size + 1 := ⟨_, rfl⟩
  rw [← hl] at hL1
  have ln0 : l ∉ o0.foot := fun hm => by have := o0.lt ho l hm; omega
  have lnA : l ∉ A.foot := fun hm => by have := A.lt hA l hm; omega
  refine ⟨l, [markD w.heap.size], W1, { target := .fn (.func gf) lb, args := #[.func (.yield l) #[] #[]] }, W1, gf,
    #[.func (.yield l) #[] #[]] ++ lb, W1, ?_, ?_, ?_, ?_, fun h => (by cases h), ?_⟩
  · rw [← hW1, hrec, hl]; exact run_enterLoop_outer _ _ _ _ _
  · simp only [resolve, hg]
    simp [go_sem]
  · intro f' hf'; exact trivial
  · simp [invoke, go_sem, eg]
  · have hrun := hit l (fun i o' => ∃ o, G i o ∧ o' = obAll [obObj l (.loop (rec .ready none)), o]) (fun i o' => ∃ o c, Gx c i o ∧ o' = obAll [obObj l (.loop (rec .done (some c))), o]) (obAll [obObj l (.loop (rec .ready none)), o0]) W1
      (A.keep hA hu1 (by simp)) (fun k hk => by rw [pair_foot]; intro hm; rcases List.mem_cons.1 hm with h | h; (subst h; exact lnA hk); exact hap k hk h) ⟨o0, h0, rfl⟩ (pair_mk hL1 (o0.keep ho hu1 (by simp)) ln0) ?_
    · refine callsIn_wd.2 (hrun.mono ?_)
      rintro ed W2 ⟨v, rfl, o', hok, hto, hor⟩
      have hD : ∀ {o : Ob} {r : Obj}, o' = obAll [obObj l r, o] → To w o0.foot W2 o.foot ∧ Dfr W2 w.heap.size ∧ w.heap.size ∉ o.foot ∧ W2.heap[l]? = some r ∧ o.ok W2 ∧ l ∉ o.foot := fun {o r} he => by
        subst he
        obtain ⟨h1, h2, h3⟩ := pair_ok hok
        rw [pair_foot, pair_foot] at hto
        have hw0 : w.heap.size ∉ l :: o0.foot := fun hm => by
          rcases List.mem_cons.1 hm with h | h
          · omega
          · have := o0.lt ho _ h; omega
        have hsz : W1.heap.size = w.heap.size + 2 := by rw [← hW1]; simp
        refine ⟨to_in hu1 (by omega) hto h3, (show Dfr W1 w.heap.size from hK1).upd hto.up hw0, fun hm => ?_, h1, h2, h3⟩
        rcases hto.sub _ (List.mem_cons_of_mem _ hm) with h | h
        · exact hw0 h
        · omega
      have fin : ∀ {r : Loop} {o : Ob}, r.state ≠ .busy → W2.heap[l]? = some (.loop r) → l ∉ o.foot → o.ok W2 → To w o0.foot W2 o.foot → Dfr W2 w.heap.size → ∃ W3, (Instr.endLoop l).run P W2 = .ok r.pending W3 ∧ o.ok W3 ∧ To w o0.foot W3 o.foot ∧ Dfr W3 w.heap.size := fun {r o} hs hr hn h2 h3 h4 => by
        refine ⟨_, run_endLoop hr hs, o.keep h2 (upd_putObj W2 l _) (by intro k hk hm; rw [List.mem_singleton.1 hm] at hk; exact hn hk), ⟨h3.up.step (upd_putObj W2 l _) (by simp; omega), h3.sub⟩, h4.upd (upd_putObj W2 l _) (by simp; omega)⟩
      rcases hor with ⟨o, hG, he⟩ | ⟨i, hi, o, c, hG, he⟩
      · obtain ⟨h1, h2, h3, h4, h5, h6⟩ := hD he
        obtain ⟨W3, hr3, ho3, ht3, hd3⟩ := fin (by rw [hrec]; simp) h4 h6 h5 h1 h2
        refine ⟨none, W3, by rw [hr3, hrec], ?_⟩
        exact ⟨w.heap.size :: D, e, ⟨by simp [hk.defers], hk.size, hk.look⟩, done _ o W3 hG ho3 ht3 hd3 (Nat.le_refl _) h3⟩
      · obtain ⟨h1, h2, h3, h4, h5, h6⟩ := hD he
        obtain ⟨W3, hr3, ho3, ht3, hd3⟩ := fin (by rw [hrec]; simp) h4 h6 h5 h1 h2
        refine ⟨some c, W3, by rw [hr3, hrec], ?_⟩
        exact vr_sound (fun _ => rfl) c Q (w.heap.size :: D) e _ W3 ⟨by simp [hk.defers], hk.size, hk.look⟩ (stop _ c i o W3 hi hG ho3 ht3 hd3 (Nat.le_refl _) h3)
    · -- one round
      rintro i o' W va hva ⟨o, hG, rfl⟩ hok hto m
      obtain ⟨hlW, hoW, hnl⟩ := pair_ok hok
      rw [pair_foot, pair_foot] at hto
      have htw := to_in hu1 (by omega) hto hnl
      have hsz := hps va (List.mem_of_getElem? hva)
      have hy := run_yield (P := P) (args := va) hlW (by rw [hrec]; exact hsz)
      rw [hrec] at hy
      refine ⟨fn, _, asg, body, hy, roundIn_of_wpIn (F := wdF none) trivial ?_⟩
      obtain ⟨Wb, hWb⟩ : ∃ Wb, Wb = W.putObj l (.loop { rec .ready none with state := .busy }) := ⟨_, rfl⟩
      have hub : Upd [l] W Wb := by rw [hWb]; exact upd_putObj W l _
      have hlb : Wb.heap[l]? = some (.loop { rec .ready none with state := .busy }) := by rw [hWb]; exact World.putObj_heap_same (Array.getElem?_eq_some_iff.1 hlW).1
      have hob : o.ok Wb := o.keep hoW hub (by intro k hk hm; rw [List.mem_singleton.1 hm] at hk; exact hnl hk)
      have htb : To w o0.foot Wb o.foot := ⟨htw.up.step hub (by simp; omega), htw.sub⟩
      refine wpIn_mono (vr_sound (ro := some l) (top := false) (n := m) (fun h => by cases h) asg _ [] _ _ W (penv_act hlt hk) (round i va o W Wb hva hG htw hoW htb hob)) ?_
      rintro x a1 Wx ⟨D1, e1, hk1, rfl, rfl, hWx, hbody⟩
      replace hWx := hWx.symm
      subst hWx
      refine ⟨Wb, ?_, ?_⟩
      · have := run_beginRound (P := P) hlW (by rw [hrec])
        rw [hWb]; exact this
      refine wpIn_mono (vr_sound (ro := some l) (top := false) (n := m) (fun h => by cases h) body _ [] _ a1 Wb hk1 hbody) ?_
      have fin : ∀ {o' : Ob} {W2 : World} (jump : Option Code), o'.ok W2 → To Wb o.foot W2 o'.foot → (Instr.endRound l jump).run P W2 = .ok (.bool jump.isNone) (W2.putObj l (.loop (rec (if jump.isNone then .ready else .done) jump))) ∧
          (obAll [obObj l (.loop (rec (if jump.isNone then .ready else .done) jump)), o']).ok (W2.putObj l (.loop (rec (if jump.isNone then .ready else .done) jump))) ∧ To W (obAll [obObj l (.loop (rec .ready none)), o]).foot (W2.putObj l (.loop (rec (if jump.isNone then .ready else .done) jump))) (obAll [obObj l (.loop (rec (if jump.isNone then .ready else .done) jump)), o']).foot := fun {o' W2} jump h2 h3 => by
        have hlb2 : l < Wb.heap.size := (Array.getElem?_eq_some_iff.1 hlb).1
        have hl2 : W2.heap[l]? = some (.loop { rec .ready none with state := .busy }) := (h3.up.block l hlb2 hnl).trans hlb
        have hn2 : l ∉ o'.foot := fun hm => by
          rcases h3.sub l hm with h | h
          · exact hnl h
          · omega
        have hu2 := upd_putObj W2 l (.loop (rec (if jump.isNone then .ready else .done) jump))
        refine ⟨by have := run_endRound (P := P) jump hl2; rw [hrec] at this ⊢; exact this, pair_mk (World.putObj_heap_same (Array.getElem?_eq_some_iff.1 hl2).1) (o'.keep h2 hu2 (by intro k hk hm; rw [List.mem_singleton.1 hm] at hk; exact hn2 hk)) hn2, ?_⟩
        rw [pair_foot, pair_foot]
        have hzb := hub.size
        refine ⟨((hub.mono (by simp)).step h3.up (fun x hx => .inl (List.mem_cons_of_mem _ hx))).step hu2 (by simp), fun k hk => ?_⟩
        rcases List.mem_cons.1 hk with h | h
        · exact .inl (by rw [h]; simp)
        · rcases h3.sub k h with h1 | h1
          · exact .inl (List.mem_cons_of_mem _ h1)
          · right; omega
      rintro x a2 W2 ⟨D2, e2, hk2, hq⟩
      cases x with
      | normal =>
        obtain ⟨o', h1, h2, h3⟩ := hq
        obtain ⟨r1, r2, r3⟩ := fin none h1 h2
        exact ⟨_, _, r1, true, rfl, _, r2, r3, .inl ⟨rfl, o', h3, rfl⟩⟩
      | ret =>
        obtain ⟨o', h1, h2, h3⟩ := hq
        obtain ⟨r1, r2, r3⟩ := fin (some .ret) h1 h2
        exact ⟨_, _, r1, false, rfl, _, r2, r3, .inr ⟨rfl, o', _, h3, rfl⟩⟩
      | exit id =>
        obtain ⟨o', h1, h2, h3⟩ := hq
        obtain ⟨r1, r2, r3⟩ := fin (some (.exit id)) h1 h2
        exact ⟨_, _, r1, false, rfl, _, r2, r3, .inr ⟨rfl, o', _, h3, rfl⟩⟩
      | _ => exact hq.elim
end Go.Proofs.Ytaogmfmphamplaa
