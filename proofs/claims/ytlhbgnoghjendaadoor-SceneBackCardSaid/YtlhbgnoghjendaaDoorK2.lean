/- Joined: Xf Xg Xh Xi. -/
import Derived.Test.YtlhbgnoghjendaaDoorK1
import Derived.Test.YtlhbgnoghjendaaDoorUi
/- Scenes: a text that is shown is parsed as it, and the other way (plain). -/
namespace Go.Proofs.YtlhbgnoghjendaaDoor
open Go.RowKit
attribute [local irreducible] Instr.loadAt Instr.storeAt Instr.fieldAt Instr.indexAt Instr.sliceAt Instr.buildSlice Instr.box Instr.alloc Builtin.append_ Builtin.len_ Builtin.min_ Builtin.max_ Calls Instr.build Instr.makeSlice binSem convert Instr.index Instr.range Instr.next
/-! ### Parts joined -/
theorem joinC_cons (c : UInt8) (a : List UInt8) : ∀ (rs : List (List UInt8)), joinC c (a :: rs) = a ++ rs.flatMap (fun r => c :: r)
  | [] => by simp [joinC]
  | r :: rs => by
    show a ++ c :: joinC c (r :: rs) = _
    rw [joinC_cons c r rs]; rfl
theorem joinC_last (c : UInt8) : ∀ (ps : List (List UInt8)), ps ≠ [] → joinC c ps = ps.dropLast.flatMap (· ++ [c]) ++ ps.getLastD []
  | [], h => absurd rfl h
  | [p], _ => by simp [joinC]
  | p :: q :: r, _ => by
    show p ++ c :: joinC c (q :: r) = _
    have e : (p :: q :: r).dropLast = p :: (q :: r).dropLast := rfl
    have e2 : (p :: q :: r).getLastD [] = (q :: r).getLastD [] := by simp
    rw [joinC_last c (q :: r) (by simp), e, e2, List.flatMap_cons]
    simp only [List.append_assoc, List.cons_append, List.nil_append]
theorem text_lines (t : List UInt8) (h : ¬ moreT t) : t = (linesT t).flatMap (· ++ [10]) := by
  have h1 := join_parts 10 t
  rw [joinC_last 10 _ (partsC_ne 10 t)] at h1
  unfold moreT at h
  rw [Classical.not_not.1 h, List.append_nil] at h1
  exact h1.symm
theorem lines_text (L : List (List UInt8)) (h : ∀ p ∈ L, (10 : UInt8) ∉ p) : linesT (L.flatMap (· ++ [10])) = L ∧ ¬ moreT (L.flatMap (· ++ [10])) := by
  have h1 : L.flatMap (· ++ [10]) = joinC 10 (L ++ [[]]) := by
    rw [joinC_last 10 _ (by simp), List.dropLast_concat]; simp
  have h2 : partsC 10 (L.flatMap (· ++ [10])) = L ++ [[]] := by
    rw [h1]
    refine parts_join 10 _ (by simp) (fun p hp => ?_)
    rcases List.mem_append.1 hp with hp | hp
    · exact h p hp
    · simp at hp; subst hp; simp
  unfold linesT moreT
  rw [h2]
  exact ⟨List.dropLast_concat, by simp⟩
/-! ### Picks as runs -/
def rleF : Nat → List Int → List (Int × Nat)
  | _, [] => []
  | n, x :: l => if l ≠ [] ∧ l.getD 0 0 = x then rleF (n + 1) l else (x, n + 1) :: rleF 0 l
def expR (r : List (Int × Nat)) : List Int := r.flatMap fun p => List.replicate p.2 p.1
def runsOK (T : Int) : Int → List (Int × Nat) → Prop
  | _, [] => True
  | last, p :: r => (0 ≤ p.1 ∧ p.1 < T) ∧ p.1 ≠ last ∧ 1 ≤ p.2 ∧ p.2 ≤ 60000 ∧ runsOK T p.1 r
theorem pickF_rle : ∀ (l : List Int) (n : Nat), pickF n l = (rleF n l).flatMap fun p => runL p.1 p.2
  | [], n => by rw [pickF_nil]; rfl
  | x :: l, n => by
    rw [pickF, rleF]
    split
    · exact pickF_rle l (n + 1)
    · rw [List.flatMap_cons, pickF_rle l 0]
theorem exp_rle : ∀ (l : List Int) (n : Nat), (∀ x y, l = x :: y → expR (rleF n l) = List.replicate n x ++ l) ∧ (n = 0 → expR (rleF n l) = l)
  | [], n => ⟨fun x y h => (by cases h), fun _ => rfl⟩
  | z :: l, n => by
    have key : expR (rleF n (z :: l)) = List.replicate n z ++ (z :: l) := by
      rw [rleF]
      split
      · rename_i h
        cases l with
        | nil => exact absurd rfl h.1
        | cons a m =>
          have ha : a = z := by simpa using h.2
          subst ha
          rw [(exp_rle (a :: m) (n + 1)).1 a m rfl, List.replicate_succ']
          simp
      · show List.replicate (n + 1) z ++ expR (rleF 0 l) = _
        rw [(exp_rle l 0).2 rfl, List.replicate_succ']
        simp
    exact ⟨fun x y h => by cases h; exact key, fun h => by subst h; simpa using key⟩
theorem rle_ok {T : Int} : ∀ (l : List Int) (n : Nat) (last : Int), (∀ x ∈ l, 0 ≤ x ∧ x < T) → n + l.length ≤ 60000 → (∀ x y, l = x :: y → x ≠ last) → runsOK T last (rleF n l)
  | [], n, last, _, _, _ => trivial
  | x :: l, n, last, h, hn, hx => by
    simp only [List.length_cons] at hn
    rw [rleF]
    split
    · rename_i hq
      refine rle_ok l (n + 1) last (fun y hy => h y (List.mem_cons_of_mem _ hy)) (by omega) (fun y z e => ?_)
      subst e
      have : y = x := by simpa using hq.2
      subst this
      exact hx y _ rfl
    · rename_i hq
      refine ⟨h x List.mem_cons_self, hx x l rfl, by show 1 ≤ n + 1; omega, by show n + 1 ≤ 60000; omega, rle_ok l 0 x (fun y hy => h y (List.mem_cons_of_mem _ hy)) (by omega) (fun y z e he => ?_)⟩
      subst e; subst he
      exact hq ⟨by simp, by simp⟩
theorem rle_exp {T : Int} : ∀ (r : List (Int × Nat)) (last : Int), runsOK T last r → rleF 0 (expR r) = r
  | [], _, _ => rfl
  | (x, n) :: r, last, h => by
    obtain ⟨-, -, h1, -, h2⟩ := h
    have ih := rle_exp r x h2
    have hne : ∀ y z, expR r = y :: z → y ≠ x := by
      intro y z e
      cases r with
      | nil => cases e
      | cons p r =>
        obtain ⟨a, m⟩ := p
        obtain ⟨-, h3, h4, -⟩ := h2
        have e : List.replicate m a ++ expR r = y :: z := e
        have h4 : 1 ≤ m := h4
        obtain ⟨m', rfl⟩ : ∃ m', m = m' + 1 := ⟨m - 1, by omega⟩
        rw [List.replicate_succ, List.cons_append] at e
        injection e with e1 e2
        rw [← e1]; exact h3
    have key : ∀ (k j : Nat), rleF j (List.replicate (k + 1) x ++ expR r) = (x, j + k + 1) :: r := by
      intro k
      induction k with
      | zero =>
        intro j
        show rleF j (x :: expR r) = _
        have hn : ¬ (expR r ≠ [] ∧ (expR r).getD 0 0 = x) := fun hq => by
          cases he : expR r with
          | nil => exact hq.1 he
          | cons y z =>
            rw [he] at hq
            exact hne y z he (by simpa using hq.2)
        rw [rleF, if_neg hn, ih]
      | succ k ihk =>
        intro j
        show rleF j (x :: (List.replicate (k + 1) x ++ expR r)) = _
        rw [rleF, if_pos ⟨by rw [List.replicate_succ]; simp, by rw [List.replicate_succ]; simp⟩, ihk (j + 1)]
        rw [show j + 1 + k + 1 = j + (k + 1) + 1 by omega]
    have h1 : 1 ≤ n := h1
    obtain ⟨k, rfl⟩ : ∃ k, n = k + 1 := ⟨n - 1, by omega⟩
    have := key k 0
    rw [Nat.zero_add] at this
    exact this
def rowU (p : Int × Nat) : List UInt8 := decU p.1.toNat ++ 120 :: decU p.2
theorem runL_row (p : Int × Nat) : toB (runL p.1 p.2) = 32 :: rowU p := by
  unfold runL rowU
  simp only [toB_app, decU, List.append_assoc]
  rfl
theorem rowU_no (p : Int × Nat) : (32 : UInt8) ∉ rowU p := by
  unfold rowU
  simp only [List.mem_append, List.mem_cons, not_or]
  exact ⟨dec_no32 _, by decide, dec_no32 _⟩
theorem toB_flat {α : Type} (f : α → List Int) : ∀ (l : List α), toB (l.flatMap f) = l.flatMap fun x => toB (f x)
  | [] => rfl
  | x :: l => by rw [List.flatMap_cons, toB_app, toB_flat f l, List.flatMap_cons]
theorem pickL_join (ps : List Int) : toB (pickL ps) = joinC 32 (s_picks :: (rleF 0 ps).map rowU) := by
  unfold pickL
  rw [toB_app, pickF_rle, toB_flat, joinC_cons]
  congr 1
  rw [List.flatMap_map]
  refine congrArg (fun f => (rleF 0 ps).flatMap f) (funext fun p => runL_row p)
theorem pickL_parts (ps : List Int) : partsC 32 (toB (pickL ps)) = s_picks :: (rleF 0 ps).map rowU := by
  rw [pickL_join]
  refine parts_join 32 _ (by simp) (fun p hp => ?_)
  rcases List.mem_cons.1 hp with rfl | hp
  · decide
  · obtain ⟨q, -, rfl⟩ := List.mem_map.1 hp
    exact rowU_no q
theorem picksP_fwd {T : Int} (hT : T ≤ 6) : ∀ (r : List (Int × Nat)) (last : Int) (acc : List Int), runsOK T last r → acc.length + (expR r).length ≤ 60001 → picksP T last acc (r.map rowU) = some (acc ++ expR r)
  | [], _, acc, _, _ => by simp [picksP, expR]
  | (x, n) :: r, last, acc, h, hl => by
    obtain ⟨⟨h0, h1⟩, h2, h3, h4, h5⟩ := h
    have h0 : 0 ≤ x := h0
    have h1 : x < T := h1
    have h2 : x ≠ last := h2
    have h3 : 1 ≤ n := h3
    have h4 : n ≤ 60000 := h4
    have hrow : rowP (rowU (x, n)) = some (x.toNat, n) := (rowP_iff _ _ _).2 ⟨by omega, h3, h4, rfl⟩
    have he : (expR ((x, n) :: r)).length = n + (expR r).length := by
      show (List.replicate n x ++ expR r).length = _
      rw [List.length_append, List.length_replicate]
    have hx : ((x.toNat : Nat) : Int) = x := Int.toNat_of_nonneg h0
    have hg : growP acc x.toNat n = acc ++ List.replicate n x := by
      unfold growP
      rw [hx, show min n (60001 - acc.length) = n by omega]
    rw [List.map_cons, picksP, hrow]
    simp only
    rw [hx, if_pos ⟨h1, h2⟩, hg, picksP_fwd hT r x _ h5 (by rw [List.length_append, List.length_replicate]; omega)]
    show some (acc ++ List.replicate n x ++ expR r) = some (acc ++ (List.replicate n x ++ expR r))
    rw [List.append_assoc]
theorem picksP_mono {T : Int} : ∀ (parts : List (List UInt8)) (last : Int) (acc ps : List Int), picksP T last acc parts = some ps → acc.length ≤ ps.length
  | [], _, acc, ps, h => by simp [picksP] at h; subst h; exact Nat.le_refl _
  | p :: r, last, acc, ps, h => by
    rw [picksP] at h
    cases hq : rowP p with
    | none => rw [hq] at h; cases h
    | some q =>
      obtain ⟨t, n⟩ := q
      rw [hq] at h
      simp only at h
      split at h
      · have := picksP_mono r _ _ _ h
        unfold growP at this
        rw [List.length_append] at this
        omega
      · cases h
theorem picksP_bwd {T : Int} : ∀ (parts : List (List UInt8)) (last : Int) (acc ps : List Int), picksP T last acc parts = some ps → ps.length ≤ 60000 → ∃ r, parts = r.map rowU ∧ runsOK T last r ∧ ps = acc ++ expR r
  | [], _, acc, ps, h, _ => by simp [picksP] at h; exact ⟨[], rfl, trivial, by simp [expR, h]⟩
  | p :: r, last, acc, ps, h, hl => by
    rw [picksP] at h
    cases hq : rowP p with
    | none => rw [hq] at h; cases h
    | some q =>
      obtain ⟨t, n⟩ := q
      rw [hq] at h
      simp only at h
      split at h
      · rename_i hc
        obtain ⟨h1, h2, h3, h4⟩ := (rowP_iff p t n).1 hq
        have hm := picksP_mono r _ _ _ h
        have hg : growP acc t n = acc ++ List.replicate n (t : Int) := by
          unfold growP at hm ⊢
          rw [List.length_append, List.length_replicate] at hm
          rw [show min n (60001 - acc.length) = n by omega]
        obtain ⟨rs, e1, e2, e3⟩ := picksP_bwd r _ _ _ h hl
        refine ⟨((t : Int), n) :: rs, ?_, ⟨⟨by show 0 ≤ (t : Int); omega, hc.1⟩, hc.2, h2, h3, e2⟩, ?_⟩
        · rw [List.map_cons, ← e1]
          congr 1
        · rw [e3, hg, List.append_assoc]; rfl
      · cases h
theorem picks_fwd {T : Int} (hT : T ≤ 6) {ps : List Int} (h : ∀ i, i < ps.length → 0 ≤ ps.getD i 0 ∧ ps.getD i 0 < T) (hl : ps.length ≤ 60000) : picksLine T (toB (pickL ps)) = some ps := by
  unfold picksLine
  rw [pickL_parts]
  have hm : ∀ x ∈ ps, 0 ≤ x ∧ x < T := fun x hx => by
    obtain ⟨i, hi, rfl⟩ := List.mem_iff_getElem.1 hx
    have := h i hi
    simpa [List.getD, hi] using this
  have he := (exp_rle ps 0).2 rfl
  rw [if_pos (by simp)]
  have := picksP_fwd hT (rleF 0 ps) (-1) [] (rle_ok ps 0 (-1) hm (by omega) (fun x y e => by have := hm x (by rw [e]; simp); omega)) (by rw [he]; simp; omega)
  rw [he] at this
  exact this
theorem picks_bwd {T : Int} {l : List UInt8} {ps : List Int} (h : picksLine T l = some ps) (hl : ps.length ≤ 60000) : l = toB (pickL ps) := by
  unfold picksLine at h
  split at h
  · rename_i h0
    obtain ⟨r, e1, e2, e3⟩ := picksP_bwd _ _ _ _ h hl
    rw [List.nil_append] at e3
    have h1 := join_parts 32 l
    have hne := partsC_ne 32 l
    cases hp : partsC 32 l with
    | nil => exact absurd hp hne
    | cons a rs =>
      rw [hp] at h0 e1 h1
      have h0 : a = s_picks := by simpa using h0
      have e1 : rs = r.map rowU := by simpa using e1
      rw [pickL_join, e3, rle_exp r _ e2, ← h1, h0, e1]
  · cases h
end Go.Proofs.YtlhbgnoghjendaaDoor

/- Scenes: draws, calls and all the lines: shown and parsed (plain). -/
namespace Go.Proofs.YtlhbgnoghjendaaDoor
open Go.RowKit
attribute [local irreducible] Instr.loadAt Instr.storeAt Instr.fieldAt Instr.indexAt Instr.sliceAt Instr.buildSlice Instr.box Instr.alloc Builtin.append_ Builtin.len_ Builtin.min_ Builtin.max_ Calls Instr.build Instr.makeSlice binSem convert Instr.index Instr.range Instr.next
/-! ### Draws -/
def byteU (d : Int) : List UInt8 := toB [hexB (d.toNat / 16), hexB (d.toNat % 16)]
theorem nib_hex : ∀ n, n < 16 → nibB (UInt8.ofNat (hexB n).toNat) = n ∧ UInt8.ofNat (hexB n).toNat ≠ 32 ∧ UInt8.ofNat (hexB n).toNat ≠ 10 := by decide
theorem hex_nibB : ∀ c : UInt8, 0 ≤ nibB c → UInt8.ofNat (hexB (nibB c).toNat).toNat = c := by
  intro c
  obtain ⟨n, hn, rfl⟩ : ∃ n, n < 256 ∧ c = UInt8.ofNat n := ⟨c.toNat, c.toNat_lt, (UInt8.ofNat_toNat).symm⟩
  revert hn
  revert n
  decide +kernel
theorem byteL_u (d : Int) : toB (byteL d) = 32 :: byteU d := rfl
theorem byteU_no (d : Int) (hd : 0 ≤ d ∧ d ≤ 255) : (32 : UInt8) ∉ byteU d ∧ (10 : UInt8) ∉ byteU d := by
  have h1 := nib_hex (d.toNat / 16) (by omega)
  have h2 := nib_hex (d.toNat % 16) (by omega)
  show (32 : UInt8) ∉ [UInt8.ofNat (hexB (d.toNat / 16)).toNat, UInt8.ofNat (hexB (d.toNat % 16)).toNat] ∧ (10 : UInt8) ∉ [UInt8.ofNat (hexB (d.toNat / 16)).toNat, UInt8.ofNat (hexB (d.toNat % 16)).toNat]
  simp only [List.mem_cons, List.not_mem_nil, or_false, not_or]
  exact ⟨⟨Ne.symm h1.2.1, Ne.symm h2.2.1⟩, ⟨Ne.symm h1.2.2, Ne.symm h2.2.2⟩⟩
theorem byteP_fwd (d : Int) (hd : 0 ≤ d ∧ d ≤ 255) : byteP (byteU d) = some d := by
  have h1 := nib_hex (d.toNat / 16) (by omega)
  have h2 := nib_hex (d.toNat % 16) (by omega)
  have e0 : (byteU d).getD 0 0 = UInt8.ofNat (hexB (d.toNat / 16)).toNat := rfl
  have e1 : (byteU d).getD 1 0 = UInt8.ofNat (hexB (d.toNat % 16)).toNat := rfl
  unfold byteP
  rw [e0, e1, h1.1, h2.1, if_pos ⟨rfl, by omega, by omega⟩]
  congr 1
  omega
theorem byteP_bwd {p : List UInt8} {d : Int} (h : byteP p = some d) : p = byteU d ∧ 0 ≤ d ∧ d ≤ 255 := by
  unfold byteP at h
  split at h
  · rename_i hq
    obtain ⟨hl, h0, h1⟩ := hq
    match p, hl with
    | [a, b], _ =>
      have h0 : 0 ≤ nibB a := h0
      have h1 : 0 ≤ nibB b := h1
      have ha := nibB_le a
      have hb := nibB_le b
      have h : some (16 * nibB a + nibB b) = some d := h
      injection h with h
      refine ⟨?_, by omega, by omega⟩
      have e1 : d.toNat / 16 = (nibB a).toNat := by omega
      have e2 : d.toNat % 16 = (nibB b).toNat := by omega
      show [a, b] = [UInt8.ofNat (hexB (d.toNat / 16)).toNat, UInt8.ofNat (hexB (d.toNat % 16)).toNat]
      rw [e1, e2, hex_nibB a h0, hex_nibB b h1]
  · cases h
theorem drawL_join (ds : List Int) : toB (drawL ds) = joinC 32 (s_draws :: ds.map byteU) := by
  unfold drawL
  rw [toB_app, toB_flat, joinC_cons]
  congr 1
  rw [List.flatMap_map]
  exact congrArg (fun f => ds.flatMap f) (funext fun d => byteL_u d)
theorem drawsP_fwd : ∀ (ds : List Int) (acc : List Int), (∀ d ∈ ds, 0 ≤ d ∧ d ≤ 255) → drawsP acc (ds.map byteU) = some (acc ++ ds)
  | [], acc, _ => by simp [drawsP]
  | d :: ds, acc, h => by
    rw [List.map_cons, drawsP, byteP_fwd d (h d List.mem_cons_self)]
    simp only
    rw [drawsP_fwd ds _ (fun x hx => h x (List.mem_cons_of_mem _ hx)), List.append_assoc]; rfl
theorem drawsP_bwd : ∀ (parts : List (List UInt8)) (acc ds : List Int), drawsP acc parts = some ds → ∃ x, parts = x.map byteU ∧ ds = acc ++ x ∧ ∀ d ∈ x, 0 ≤ d ∧ d ≤ 255
  | [], acc, ds, h => by simp [drawsP] at h; exact ⟨[], rfl, by simp [h], by simp⟩
  | p :: r, acc, ds, h => by
    rw [drawsP] at h
    cases hq : byteP p with
    | none => rw [hq] at h; cases h
    | some d =>
      rw [hq] at h
      obtain ⟨x, e1, e2, e3⟩ := drawsP_bwd r _ _ h
      obtain ⟨h1, h2⟩ := byteP_bwd hq
      exact ⟨d :: x, by rw [List.map_cons, ← e1, h1], by rw [e2, List.append_assoc]; rfl, fun y hy => by
        rcases List.mem_cons.1 hy with rfl | hy
        · exact h2
        · exact e3 y hy⟩
theorem draws_fwd {ds : List Int} (h : ∀ d ∈ ds, 0 ≤ d ∧ d ≤ 255) : drawsLine (toB (drawL ds)) = some ds := by
  have hp : partsC 32 (toB (drawL ds)) = s_draws :: ds.map byteU := by
    rw [drawL_join]
    refine parts_join 32 _ (by simp) (fun p hp => ?_)
    rcases List.mem_cons.1 hp with rfl | hp
    · decide
    · obtain ⟨q, hq, rfl⟩ := List.mem_map.1 hp
      exact (byteU_no q (h q hq)).1
  unfold drawsLine
  rw [hp, if_pos (by simp)]
  exact drawsP_fwd ds [] h
theorem draws_bwd {l : List UInt8} {ds : List Int} (h : drawsLine l = some ds) : l = toB (drawL ds) ∧ ∀ d ∈ ds, 0 ≤ d ∧ d ≤ 255 := by
  unfold drawsLine at h
  split at h
  · rename_i h0
    obtain ⟨x, e1, e2, e3⟩ := drawsP_bwd _ _ _ h
    rw [List.nil_append] at e2
    subst e2
    have h1 := join_parts 32 l
    have hne := partsC_ne 32 l
    cases hp : partsC 32 l with
    | nil => exact absurd hp hne
    | cons a rs =>
      rw [hp] at h0 e1 h1
      have h0 : a = s_draws := by simpa using h0
      have e1 : rs = ds.map byteU := by simpa using e1
      exact ⟨by rw [drawL_join, ← h1, h0, e1], e3⟩
  · cases h
/-! ### Calls -/
def callU (x : C3) : List UInt8 := toB (callL x)
theorem call_bwd {l : List UInt8} {x : C3} (h : parseR l = some x) : l = callU x ∧ okC x := by
  rw [← rparse_eq] at h
  unfold rparseR at h
  split at h
  · rename_i e; cases h; rw [e]; exact ⟨by decide, ⟨by decide, by decide⟩⟩
  · split at h
    · rename_i e; cases h; rw [e]; exact ⟨by decide, ⟨by decide, by decide⟩⟩
    · unfold checkR at h
      split at h
      · rename_i k v ht
        obtain ⟨hk, hv⟩ := twoR_lt ht
        split at h
        · rename_i e; cases h
          exact ⟨e.symm, ⟨by show 0 ≤ (k : Int); omega, by show (k : Int) ≤ _; omega⟩, ⟨by show 0 ≤ (v : Int); omega, by show (v : Int) ≤ _; omega⟩⟩
        · cases h
      · cases h
theorem call_fwd {x : C3} (hx : okC x) (hr : rightCall x.1 x.2.1 x.2.2) : parseR (callU x) = some x ∧ ¬ stopL (callU x) := by
  obtain ⟨o, k, v⟩ := x
  obtain ⟨⟨hk0, hk1⟩, ⟨hv0, hv1⟩⟩ := hx
  rcases hr with ho | ⟨ho | ho, hk, hv⟩
  · have ho : o = 0 := ho
    subst ho
    have hk0 : 0 ≤ k := hk0
    have hv0 : 0 ≤ v := hv0
    have hk1 : k ≤ 4294967295 := hk1
    have hv1 : v ≤ 4294967295 := hv1
    have e : callU (0, k, v) = p7 ++ (decU k.toNat ++ 32 :: decU v.toNat) := show0 _ _
    rw [e]
    have e7 : (p7 ++ (decU k.toNat ++ 32 :: decU v.toNat)).take 7 = p7 := rfl
    have e5 : (p7 ++ (decU k.toNat ++ 32 :: decU v.toNat)).take 5 = p7.take 5 := rfl
    constructor
    · unfold parseR
      rw [if_neg (fun h => by have := congrArg (·.take 7) h; exact absurd (e7.symm.trans this) (by decide)), if_neg (fun h => by have := congrArg (·.take 7) h; exact absurd (e7.symm.trans this) (by decide)), if_pos e7]
      rw [show (p7 ++ (decU k.toNat ++ 32 :: decU v.toNat)).drop 7 = decU k.toNat ++ 32 :: decU v.toNat from rfl, pairOf_dec (by omega) (by omega)]
      show some ((0 : Int), ((k.toNat : Nat) : Int), ((v.toNat : Nat) : Int)) = _
      rw [Int.toNat_of_nonneg hk0, Int.toNat_of_nonneg hv0]
    · rintro (h | h)
      · rw [e7] at h; exact absurd h (by decide)
      · rw [e5] at h; exact absurd h (by decide)
  · have ho : o = 1 := ho
    have hk : k = 0 := hk
    have hv : v = 0 := hv
    subst ho; subst hk; subst hv
    exact ⟨by decide, by decide⟩
  · have ho : o = 2 := ho
    have hk : k = 0 := hk
    have hv : v = 0 := hv
    subst ho; subst hk; subst hv
    exact ⟨by decide, by decide⟩
/-! ### The lines -/
def bodyU : Nat → List (List C3) → List (List UInt8)
  | _, [] => []
  | k, l :: r => thrU k :: l.map callU ++ bodyU (k + 1) r
theorem thrL_u (k : Nat) : toB (thrL k) = thrU k := by
  unfold thrL thrU
  rw [toB_app]; rfl
theorem bodyU_app : ∀ (a b : List (List C3)) (k : Nat), bodyU k (a ++ b) = bodyU k a ++ bodyU (k + a.length) b
  | [], b, k => rfl
  | x :: a, b, k => by
    show thrU k :: x.map callU ++ bodyU (k + 1) (a ++ b) = thrU k :: x.map callU ++ bodyU (k + 1) a ++ _
    rw [bodyU_app a b (k + 1), List.append_assoc, List.length_cons, show k + 1 + a.length = k + (a.length + 1) by omega]
theorem bodyN_u (ls : List (List C3)) : ∀ k, k ≤ ls.length → (bodyN ls k).map toB = bodyU 0 (ls.take k)
  | 0, _ => rfl
  | k + 1, hk => by
    have h1 : ls.take (k + 1) = ls.take k ++ [ls.getD k []] := by rw [List.take_add_one]; simp [List.getD, show k < ls.length by omega]
    rw [h1, bodyU_app, ← bodyN_u ls k (by omega)]
    show (bodyN ls k ++ (thrL k :: (ls.getD k []).map callL)).map toB = _
    rw [List.map_append, List.map_cons, thrL_u, List.map_map, List.length_take, show 0 + min k ls.length = k by omega]
    show _ = (bodyN ls k).map toB ++ (thrU k :: (ls.getD k []).map callU ++ [])
    rw [List.append_nil]; rfl
theorem linesL_u (c : Cf) (ls : List (List C3)) (ps ds : List Int) : (linesL c ls ps ds).map toB = confU c :: (bodyU 0 ls ++ [toB (pickL ps), toB (drawL ds)]) := by
  unfold linesL
  rw [List.cons_append, List.map_cons, List.map_append, bodyN_u ls _ (Nat.le_refl _), List.take_length]; rfl
theorem textU_u (L : List (List Int)) : toB (textU L) = (L.map toB).flatMap (· ++ [10]) := by
  unfold textU
  rw [toB_flat, List.flatMap_map]
  exact congrArg (fun f => L.flatMap f) (funext fun l => toB_app l [10])
theorem stop_thr (k : Nat) : stopL (thrU k) := .inl rfl
theorem stop_picks (ps : List Int) : stopL (toB (pickL ps)) := .inr (by unfold pickL; rw [toB_app]; rfl)
/-- parsing what is shown -/
theorem inner_fwd {more : Bool} {c : Cf} : ∀ (rem : List (List C3)) (l : List C3) (k : Nat) (cs : List (List C3)) (acc : List C3) (a : Nat) (TL : List (List UInt8)), (k : Int) + 1 + rem.length = c.T → (∀ m ∈ l :: rem, ∀ x ∈ m, okC x ∧ rightCall x.1 x.2.1 x.2.2) → (∃ s r, TL = s :: r ∧ stopL s) →
    ∃ a', innerP more c k cs acc a (l.map callU ++ (bodyU (k + 1) rem ++ TL)) = tailP more c (cs ++ (acc ++ l) :: rem) a' TL
  | rem, x :: l, k, cs, acc, a, TL, hk, h, hs => by
    obtain ⟨h1, h2⟩ := h (x :: l) List.mem_cons_self x List.mem_cons_self
    obtain ⟨h3, h4⟩ := call_fwd h1 h2
    obtain ⟨a', e⟩ := inner_fwd (more := more) (c := c) rem l k cs (acc ++ [x]) (a + 1) TL hk (fun m hm y hy => by
      rcases List.mem_cons.1 hm with rfl | hm
      · exact h (x :: m) List.mem_cons_self y (List.mem_cons_of_mem _ hy)
      · exact h m (List.mem_cons_of_mem _ hm) y hy) hs
    refine ⟨a', ?_⟩
    rw [List.map_cons, List.cons_append, innerP_some _ _ _ _ _ _ _ h4 h3, e, List.append_assoc]; rfl
  | [], [], k, cs, acc, a, TL, hk, h, hs => by
    obtain ⟨s, r, rfl, hst⟩ := hs
    refine ⟨a, ?_⟩
    show innerP more c k cs acc a (s :: r) = _
    rw [innerP_stop _ _ _ _ _ _ _ hst, betwP_end _ _ _ _ _ _ (by simp at hk; omega), List.append_nil]
  | m :: rem, [], k, cs, acc, a, TL, hk, h, hs => by
    have hk2 : (k : Int) + 1 < c.T := by simp only [List.length_cons] at hk; omega
    obtain ⟨a', e⟩ := inner_fwd (more := more) (c := c) rem m (k + 1) (cs ++ [acc]) [] (a + 1) TL (by simp only [List.length_cons] at hk; omega) (fun y hy => h y (List.mem_cons_of_mem _ hy)) hs
    refine ⟨a', ?_⟩
    show innerP more c k cs acc a (thrU (k + 1) :: (m.map callU ++ bodyU (k + 1 + 1) rem) ++ TL) = _
    rw [List.cons_append, innerP_stop _ _ _ _ _ _ _ (stop_thr _), betwP_yes _ _ _ _ _ _ (show ((k + 1 : Nat) : Int) < c.T by omega), List.append_assoc, e, List.append_nil, List.append_assoc]; rfl
theorem tail_bwd {more : Bool} {c c' : Cf} {X cs' : List (List C3)} {a : Nat} {ps ds : List Int} {TL : List (List UInt8)} (h : tailP more c X a TL = .good c' cs' ps ds) : c' = c ∧ cs' = X ∧ more = false ∧ ∃ l1 l2, TL = [l1, l2] ∧ picksLine c.T l1 = some ps ∧ drawsLine l2 = some ds := by
  cases TL with
  | nil => cases h
  | cons l1 L =>
    rw [tailP] at h
    cases hp : picksLine c.T l1 with
    | none => rw [hp] at h; cases h
    | some q =>
      rw [hp] at h
      simp only at h
      cases L with
      | nil => cases h
      | cons l2 L =>
        rw [tail2P] at h
        cases hd : drawsLine l2 with
        | none => rw [hd] at h; cases h
        | some d =>
          rw [hd] at h
          simp only at h
          split at h
          · rename_i hq
            obtain ⟨rfl, hm⟩ := hq
            injection h with h1 h2 h3 h4
            subst h1; subst h2; subst h3; subst h4
            exact ⟨rfl, rfl, hm, l1, l2, rfl, hp, hd⟩
          · cases h
theorem inner_bwd {more : Bool} {c c' : Cf} {cs' : List (List C3)} {ps ds : List Int} : ∀ (L : List (List UInt8)) (k : Nat) (cs : List (List C3)) (acc : List C3) (a : Nat), (k : Int) < c.T → innerP more c k cs acc a L = .good c' cs' ps ds →
    ∃ l rem TL a', L = l.map callU ++ (bodyU (k + 1) rem ++ TL) ∧ cs' = cs ++ (acc ++ l) :: rem ∧ (∀ m ∈ l :: rem, ∀ x ∈ m, okC x) ∧ tailP more c cs' a' TL = .good c' cs' ps ds
  | [], k, cs, acc, a, _, h => by rw [innerP_nil] at h; cases h
  | x :: L, k, cs, acc, a, hk, h => by
    by_cases hs : stopL x
    · rw [innerP_stop _ _ _ _ _ _ _ hs] at h
      by_cases hk2 : ((k + 1 : Nat) : Int) < c.T
      · by_cases hx : x = thrU (k + 1)
        · subst hx
          rw [betwP_yes _ _ _ _ _ _ hk2] at h
          obtain ⟨l, rem, TL, a', e1, e2, e3, e4⟩ := inner_bwd L (k + 1) _ _ _ hk2 h
          refine ⟨[], l :: rem, TL, a', ?_, ?_, fun m hm y hy => ?_, e4⟩
          · rw [e1]
            show _ = thrU (k + 1) :: (l.map callU ++ bodyU (k + 1 + 1) rem) ++ TL
            rw [List.cons_append, List.append_assoc]
          · rw [e2, List.append_assoc, List.append_nil]; rfl
          · rcases List.mem_cons.1 hm with rfl | hm
            · cases hy
            · exact e3 m hm y hy
        · rw [betwP_no _ _ _ _ _ _ hk2 hx] at h; cases h
      · rw [betwP_end _ _ _ _ _ _ hk2] at h
        obtain ⟨rfl, rfl, -⟩ := tail_bwd h
        refine ⟨[], [], x :: L, a, rfl, by rw [List.append_nil], fun m hm y hy => ?_, h⟩
        rcases List.mem_cons.1 hm with rfl | hm
        · cases hy
        · cases hm
    · cases hp : parseR x with
      | none => rw [innerP_none _ _ _ _ _ _ _ hs hp] at h; cases h
      | some y =>
        rw [innerP_some _ _ _ _ _ _ _ hs hp] at h
        obtain ⟨h1, h2⟩ := call_bwd hp
        obtain ⟨l, rem, TL, a', e1, e2, e3, e4⟩ := inner_bwd L k _ _ _ hk h
        refine ⟨y :: l, rem, TL, a', by rw [e1, h1]; rfl, by rw [e2, List.append_assoc]; rfl, fun m hm z hz => ?_, e4⟩
        rcases List.mem_cons.1 hm with rfl | hm
        · rcases List.mem_cons.1 hz with rfl | hz
          · exact h2
          · exact e3 l List.mem_cons_self z hz
        · exact e3 m (List.mem_cons_of_mem _ hm) z hz
theorem dec_no10 (k : Nat) : (10 : UInt8) ∉ decU k := fun h => by
  have := List.all_eq_true.1 (decU_isD k) _ h
  exact absurd this (by decide)
theorem thrU_no (k : Nat) : (10 : UInt8) ∉ thrU k := by
  unfold thrU
  simp only [List.mem_append, not_or]
  exact ⟨by decide, dec_no10 k⟩
theorem callU_no {x : C3} (hx : okC x) (hr : rightCall x.1 x.2.1 x.2.2) : (10 : UInt8) ∉ callU x := by
  obtain ⟨o, k, v⟩ := x
  rcases hr with ho | ⟨ho | ho, hk, hv⟩
  · have ho : o = 0 := ho
    subst ho
    have e : callU (0, k, v) = p7 ++ (decU k.toNat ++ 32 :: decU v.toNat) := show0 _ _
    rw [e]
    simp only [List.mem_append, List.mem_cons, not_or]
    exact ⟨by decide, dec_no10 _, by decide, dec_no10 _⟩
  · have ho : o = 1 := ho
    have hk : k = 0 := hk
    have hv : v = 0 := hv
    subst ho; subst hk; subst hv
    decide
  · have ho : o = 2 := ho
    have hk : k = 0 := hk
    have hv : v = 0 := hv
    subst ho; subst hk; subst hv
    decide
theorem joinC_no (c x : UInt8) (hc : x ≠ c) : ∀ (ps : List (List UInt8)), (∀ p ∈ ps, x ∉ p) → x ∉ joinC c ps
  | [], _ => by simp [joinC]
  | [p], h => h p (by simp)
  | p :: q :: r, h => by
    show x ∉ p ++ c :: joinC c (q :: r)
    simp only [List.mem_append, List.mem_cons, not_or]
    exact ⟨h p (by simp), hc, joinC_no c x hc (q :: r) (fun y hy => h y (List.mem_cons_of_mem _ hy))⟩
theorem kindB_no10 (A : Int) : (10 : UInt8) ∉ kindB A := by
  unfold kindB kindL
  split
  · decide
  · split <;> decide
theorem nameB_no10 (j : Nat) : (10 : UInt8) ∉ nameB j := by
  rcases Nat.lt_or_ge j 7 with h | h
  · rcases (show j = 0 ∨ j = 1 ∨ j = 2 ∨ j = 3 ∨ j = 4 ∨ j = 5 ∨ j = 6 by omega) with rfl | rfl | rfl | rfl | rfl | rfl | rfl <;> decide
  · unfold nameB nameL; simp [List.getD, h, toB]
theorem confU_no10 (c : Cf) : (10 : UInt8) ∉ confU c := by
  rw [confU_join]
  refine joinC_no 32 10 (by decide) _ (fun p hp => ?_)
  simp only [partsU, List.mem_cons, List.not_mem_nil, or_false] at hp
  rcases hp with rfl | rfl | rfl | rfl | rfl | rfl | rfl | rfl | rfl | rfl | rfl | rfl | rfl <;> first | exact kindB_no10 _ | exact nameB_no10 _ | exact dec_no10 _
theorem pick_no10 (ps : List Int) : (10 : UInt8) ∉ toB (pickL ps) := by
  rw [pickL_join]
  refine joinC_no 32 10 (by decide) _ (fun p hp => ?_)
  rcases List.mem_cons.1 hp with rfl | hp
  · decide
  · obtain ⟨q, -, rfl⟩ := List.mem_map.1 hp
    unfold rowU
    simp only [List.mem_append, List.mem_cons, not_or]
    exact ⟨dec_no10 _, by decide, dec_no10 _⟩
theorem draw_no10 {ds : List Int} (h : ∀ d ∈ ds, 0 ≤ d ∧ d ≤ 255) : (10 : UInt8) ∉ toB (drawL ds) := by
  rw [drawL_join]
  refine joinC_no 32 10 (by decide) _ (fun p hp => ?_)
  rcases List.mem_cons.1 hp with rfl | hp
  · decide
  · obtain ⟨q, hq, rfl⟩ := List.mem_map.1 hp
    exact (byteU_no q (h q hq)).2
theorem bodyU_no : ∀ (ls : List (List C3)) (k : Nat), (∀ m ∈ ls, ∀ x ∈ m, okC x ∧ rightCall x.1 x.2.1 x.2.2) → ∀ p ∈ bodyU k ls, (10 : UInt8) ∉ p
  | [], _, _, p, hp => by cases hp
  | l :: r, k, h, p, hp => by
    have hp : p ∈ thrU k :: l.map callU ++ bodyU (k + 1) r := hp
    rcases List.mem_append.1 hp with hp | hp
    · rcases List.mem_cons.1 hp with rfl | hp
      · exact thrU_no k
      · obtain ⟨x, hx, rfl⟩ := List.mem_map.1 hp
        have := h l List.mem_cons_self x hx
        exact callU_no this.1 this.2
    · exact bodyU_no r (k + 1) (fun m hm => h m (List.mem_cons_of_mem _ hm)) p hp
/-- what is shown is parsed as it -/
theorem scene_fwd {c : Cf} {ls : List (List C3)} {ps ds : List Int} (hr : rightS c ls ps ds) (hk : okCs ls) (hd : ∀ d ∈ ds, 0 ≤ d ∧ d ≤ 255) : OutR (toB (textU (linesL c ls ps ds))) (.good c ls ps ds) := by
  obtain ⟨hc, hT, -, hpl, -, hcall, hps⟩ := hr
  have hT6 : 1 ≤ c.T ∧ c.T ≤ 6 := by
    obtain ⟨A, T, N, L, B, P, S⟩ := c
    exact hc.1.2.1
  have hall : ∀ m ∈ ls, ∀ x ∈ m, okC x ∧ rightCall x.1 x.2.1 x.2.2 := fun m hm x hx => by
    refine ⟨hk m hm x hx, ?_⟩
    obtain ⟨i, hi, rfl⟩ := List.mem_iff_getElem.1 hm
    obtain ⟨j, hj, rfl⟩ := List.mem_iff_getElem.1 hx
    have e : ls.getD i [] = ls[i] := by simp [List.getD, hi]
    have h1 := hcall i hi j (by rw [e]; exact hj)
    rw [e] at h1
    have e2 : ls[i].getD j (0, 0, 0) = ls[i][j] := by simp [List.getD, hj]
    rw [e2] at h1
    exact h1
  have hno : ∀ p ∈ confU c :: (bodyU 0 ls ++ [toB (pickL ps), toB (drawL ds)]), (10 : UInt8) ∉ p := fun p hp => by
    rcases List.mem_cons.1 hp with rfl | hp
    · exact confU_no10 c
    · rcases List.mem_append.1 hp with hp | hp
      · exact bodyU_no ls 0 hall p hp
      · simp only [List.mem_cons, List.not_mem_nil, or_false] at hp
        rcases hp with rfl | rfl
        · exact pick_no10 ps
        · exact draw_no10 hd
  have e := textU_u (linesL c ls ps ds)
  rw [linesL_u] at e
  obtain ⟨hL, hm⟩ := lines_text _ hno
  rw [← e] at hL hm
  unfold OutR
  rw [hL]
  refine .inl ⟨c, hc, rfl, ?_⟩
  rw [decide_eq_false hm]
  cases ls with
  | nil => simp at hT; omega
  | cons l rem =>
    obtain ⟨a', e2⟩ := inner_fwd (more := false) (c := c) rem l 0 [] [] 2 [toB (pickL ps), toB (drawL ds)] (by simp only [List.length_cons] at hT; omega) hall ⟨_, _, rfl, stop_picks ps⟩
    show _ = betwP false c 0 [] 1 (thrU 0 :: (l.map callU ++ bodyU (0 + 1) rem) ++ [toB (pickL ps), toB (drawL ds)])
    rw [List.cons_append, betwP_yes _ _ _ _ _ _ (show ((0 : Nat) : Int) < c.T by omega), List.append_assoc, e2, tailP, picks_fwd hT6.2 hps hpl]
    simp only
    rw [tail2P, draws_fwd hd]
    simp
/-- what is parsed is shown as just that text -/
theorem scene_bwd {t : List UInt8} {c : Cf} {cs : List (List C3)} {ps ds : List Int} (h : OutR t (.good c cs ps ds)) (hl : ps.length ≤ 60000) : t = toB (textU (linesL c cs ps ds)) ∧ okCs cs ∧ (∀ d ∈ ds, 0 ≤ d ∧ d ≤ 255) := by
  unfold OutR at h
  split at h
  · cases h
  · rename_i l L hL
    rcases h with ⟨c0, hc, hl0, h⟩ | ⟨_, h⟩
    rotate_left
    · cases h
    have hT : 1 ≤ c0.T ∧ c0.T ≤ 6 := by
      obtain ⟨A, T, N, L, B, P, S⟩ := c0
      exact hc.1.2.1
    have h := h.symm
    cases L with
    | nil => rw [betwP_nil] at h; cases h
    | cons x L =>
      by_cases hx : x = thrU 0
      · subst hx
        rw [betwP_yes _ _ _ _ _ _ (by omega)] at h
        obtain ⟨m, rem, TL, a', e1, e2, e3, e4⟩ := inner_bwd L 0 _ _ _ (by omega) h
        obtain ⟨rfl, -, hm, l1, l2, rfl, hp, hd⟩ := tail_bwd e4
        obtain ⟨hd1, hd2⟩ := draws_bwd hd
        have hp1 := picks_bwd hp hl
        have e2 : cs = m :: rem := e2
        subst e2
        have hmt : ¬ moreT t := of_decide_eq_false hm
        refine ⟨?_, fun y hy z hz => e3 y hy z hz, hd2⟩
        rw [text_lines t hmt, hL, textU_u, linesL_u, hl0, e1, ← hp1, ← hd1]
        show _ = (confU c :: (thrU 0 :: (m.map callU ++ bodyU (0 + 1) rem) ++ [l1, l2])).flatMap _
        rw [List.cons_append, List.append_assoc]
      · rw [betwP_no _ _ _ _ _ _ (by omega) hx] at h; cases h
end Go.Proofs.YtlhbgnoghjendaaDoor

/- Scenes: Little, a script made right. -/
namespace Go.Proofs.YtlhbgnoghjendaaDoor
open Go.RowKit
attribute [local irreducible] Instr.loadAt Instr.storeAt Instr.fieldAt Instr.indexAt Instr.sliceAt Instr.buildSlice Instr.box Instr.alloc Builtin.append_ Builtin.len_ Builtin.min_ Builtin.max_ Calls Instr.build Instr.makeSlice binSem convert Instr.index Instr.range Instr.next
theorem build_sc (c : Cf) (w : World) : (Instr.build TS #[(0, .agg (cf7 c))]).run Tryd.prog w = .ok (.agg (scV c (.slice none 0 0) (.slice none 0 0) (.slice none 0 0))) w := by
  obtain ⟨A, T, N, L, B, P, S⟩ := c
  kernel_rfl
theorem RfI.grow {w w1 w2 : World} {q p : Nat} {lv : Value} {L : List (List UInt8)} {c : Cf} {kv pv dv : Value} {cs : List (List C3)} {vals : List Value} (I : RfI w w1 q p lv L c kv pv dv cs vals) {x x' : Value} {e n m : Nat} {xs : List Value} (hs : Sl w1 e n x m xs) (h1 : e ≠ TS ∧ e ≠ 24 ∧ e ≠ TStr' ∧ 68 ≠ e ∧ 67 ≠ e)
    (hG : Grow w1 w2 x x') (hx : ∀ g, x.ownBlock = some g → w.heap.size ≤ g) : RfI w w2 q p lv L c kv pv dv cs vals :=
  ⟨hG.blk I.res (fun h => hs.blk_ne I.res h1.1 h), hG.blk I.conf (fun h => hs.blk_ne I.conf h1.2.1 h), hG.blk I.scr (fun h => hs.blk_ne I.scr h1.1 h), I.lst.upd hG.up (fun g hg hm => hs.ne_ I.lst h1.2.2.1 g (by simpa using hm) hg), I.calls.grow hs h1.2.2.2.1 h1.2.2.2.2 hG, I.up.step hG.up (fun g hg => .inr (hx g (by simpa using hg))), I.hpq, I.hpr, I.hpn, I.kvn⟩
theorem getD_m {α : Type} (l : List α) (i : Nat) (h : i < l.length) (d : α) : l.getD i d ∈ l := by simp [List.getD, h]
def okLi (l : List C3) : Prop := ∀ x ∈ l, okC x ∧ rightCall x.1 x.2.1 x.2.2
set_option maxRecDepth 10000 in
theorem little_c {w : World} {v : Value} {c0 c : Cf} {ls : List (List C3)} {ps ds : List Int} (h : Scr w c0 ls ps ds v) (hok : okCs ls) (hob : okB ds) (hc : rightC c) : Fn Tryd.prog 19 #[v, .agg (cf7 c), .int .i64 4, .int .i64 1500] w fun r w' =>
    (∃ ls' ps' ds', Scr w' c ls' ps' ds' r ∧ (ls'.length : Int) = c.T ∧ (∀ m ∈ ls', okLi m) ∧ tot ls' ≤ 24 ∧ (∀ x ∈ ps', 0 ≤ x ∧ x < c.T) ∧ ps'.length ≤ 1500 ∧ (∀ d ∈ ds', 0 ≤ d ∧ d ≤ 255) ∧ ds'.length ≤ 4096) ∧ Upd [] w w' := by
  obtain ⟨kv0, pv0, dv0, vals0, rfl, h2, h3, h4⟩ := h.h
  obtain ⟨ka, kc, rfl, hk1, hk2⟩ := h2.out.form
  obtain ⟨pa, pc, rfl, hp1, hp2⟩ := h3.form
  obtain ⟨da, dc, rfl, hd1, hd2⟩ := h4.form
  simp only [maxLen] at hk2 hp2 hd2
  have hT : 1 ≤ c.T ∧ c.T ≤ 6 := by
    obtain ⟨A, T, N, L, B, P, S⟩ := c
    exact hc.1.2.1
  refine fn_enter Tryd.func19 rfl rfl ?_
  refine bx fun w1 hb1 hu1 hs1 => ?_
  refine bx fun w2 hb2 hu2 hs2 => ?_
  have hb1 : Blk w2 w.heap.size TS (scV c0 (.slice ka ls.length kc) (.slice pa ps.length pc) (.slice da ds.length dc)) := hb1.upd hu2 (by simp)
  have hb2 : Blk w2 w1.heap.size 24 (cf7 c) := hb2
  have hU2 := hu1.trans hu2
  generalize w.heap.size = u at *
  refine al zSc (fun _ => by kernel_rfl) fun w3 hb3 hu3 hs3 => ?_
  have b23 := hb2.upd hu3 (by simp)
  refine ldw b23 (cf7_len c) ?_
  refine bd (scV c (.slice none 0 0) (.slice none 0 0) (.slice none 0 0)) (build_sc c) ?_
  refine al zSc (fun _ => by kernel_rfl) fun w4 hb4 hu4 hs4 => ?_
  refine stw hb4 rfl rfl rfl fun w5 hb5 hu5 hs5 => ?_
  have hlt2 := hb2.lt
  have hpq : w1.heap.size ≠ w3.heap.size := by omega
  have hpr : w2.heap.size ≠ w3.heap.size := by omega
  have hpn : w2.heap.size ≤ w3.heap.size := by omega
  have I5 : RfI w2 w5 w1.heap.size w3.heap.size (.slice none 0 0) [] c (.slice none 0 0) (.slice none 0 0) (.slice none 0 0) [] [] :=
    ⟨(hb3.upd hu4 (by simp)).upd hu5 (by simp; omega), (b23.upd hu4 (by simp)).upd hu5 (by simp; omega), hb5, Sl.nil_ _ _ _, CallsS.nil_ _, (hu3.trans hu4).step hu5 (by simp; omega), hpq, hpr, hpn, by simp [Value.ownBlock]⟩
  clear hb2 b23 hb3 hu3 hb4 hu4 hb5 hu5
  generalize w1.heap.size = q at *
  generalize w3.heap.size = p at *
  refine fa ?_
  refine ldb I5.conf (v := .int .i64 c.T) rfl ?_
  refine cN (by omega) ?_
  refine fa ?_
  refine ldb I5.conf (v := .int .i64 c.T) rfl ?_
  refine cN (by omega) ?_
  obtain ⟨T, hTe⟩ : ∃ T : Nat, c.T = (T : Int) := ⟨_, (Int.toNat_of_nonneg (by omega)).symm⟩
  refine loop_rule [2, 3, 4, 5, 8, 9] [10] (fun vs w' m => ∃ (k : Nat) (kv : Value) (cs : List (List C3)) (vals : List Value), vs = [.int .i64 (k : Int)] ∧ k ≤ T ∧ m = T - k ∧ RfI w2 w' q p (.slice none 0 0) [] c kv (.slice none 0 0) (.slice none 0 0) cs vals ∧ cs.length = k ∧ tot cs ≤ 4 * k ∧ ∀ m ∈ cs, okLi m) rfl [.int .i64 0] T rfl
    ⟨0, _, [], [], rfl, by omega, rfl, I5, rfl, by simp [tot], by simp⟩ ?_
  rintro _ w5 m ⟨k, kv, cs, vals, rfl, hk, rfl, I, hcl2, hto, hall⟩
  refine fa ?_
  refine ldb I.conf (v := .int .i64 c.T) rfl ?_
  refine cd (fun hlt => ?_) (fun hlt => ?_)
  · have hk6 : k < 6 := by omega
    obtain ⟨hB, hBl, hBk, hBv⟩ := I.lts
    refine loop_rule [2, 3, 4, 5, 8, 9, 10] [11, 12] (fun vs w' m => ∃ (j : Nat) (ev : Value) (acc : List C3), vs = [ev, .int .i64 (j : Int)] ∧ j ≤ 4 ∧ m = 4 - j ∧ acc.length = j ∧ RfI w2 w' q p (.slice none 0 0) [] c kv (.slice none 0 0) (.slice none 0 0) cs vals ∧ Sl w' TCall 3 ev acc.length (cellsC acc) ∧ (∀ g, ev.ownBlock = some g → w5.heap.size ≤ g) ∧ w5.heap.size ≤ w'.heap.size ∧ okLi acc) rfl [.slice none 0 0, .int .i64 0] 4 rfl
      ⟨0, _, [], rfl, by omega, rfl, rfl, I, Sl.nil_ _ _ _, by simp [Value.ownBlock], Nat.le_refl _, by simp [okLi]⟩ ?_
    rintro _ w6 m ⟨j, ev, acc, rfl, hj, rfl, hal, I4, hs4, hf4, hz4, hacc⟩
    have s1 := hb1.upd I4.up (by simp)
    have hh2 := (h2.upd0 hU2).upd0 I4.up
    refine fa ?_
    refine ldb s1 rfl ?_
    refine len_sl ?_
    by_cases hi : k < ls.length
    rotate_left
    · refine cN (by omega) ?_
      obtain ⟨ea, ec, rfl, -⟩ := hs4.form
      refine fa ?_
      refine ldb I4.scr (v := kv) rfl ?_
      refine bs #[.slice ea acc.length ec] (fun _ => by kernel_rfl) fun w9 hb9 hu9 hs9 => ?_
      have I9 := I4.upd0 hu9
      refine apg I9.calls.out hb9 rfl rfl (by decide) (by simp only [maxLen]; omega) (by omega) fun kv2 w10 hs10 hG10 => ?_
      have hC10 := I9.calls.push (hs4.upd hu9 (by simp)) (fun y hy g hg hg2 => by have h1 := hBv y hy g hg; have h2 := hf4 g hg2; omega) hG10 hs10
      have hnS : ∀ {T : TypeId} {cs : Array Value} {g : Nat}, Blk w9 g T cs → 68 ≠ T → kv.ownBlock ≠ some g := fun hb hne h => I9.calls.out.blk_ne hb hne h
      have hown2 : ∀ g, kv2.ownBlock = some g → w2.heap.size ≤ g := fun g hg => by
        rcases hG10.own g hg with h | h
        · exact I9.kvn g h
        · have := I9.up.size; omega
      obtain ⟨ka', kc', rfl, -⟩ := hs10.form
      have g1 := hG10.blk I9.scr (hnS I9.scr (by decide))
      refine fa ?_
      refine st g1 (by show 0 + 7 < 10; omega) rfl fun w11 hb11 hu11 hs11 => ?_
      refine ar64 (by omega) ?_
      exact round_mk [.int .i64 ((k + 1 : Nat) : Int)] (T - (k + 1)) rfl rfl ⟨k + 1, _, _, _, rfl, by omega, rfl,
        ⟨(hG10.blk I9.res (hnS I9.res (by decide))).upd hu11 (by simpa using hpr), (hG10.blk I9.conf (hnS I9.conf (by decide))).upd hu11 (by simpa using hpq), hb11, (I9.lst.upd hG10.up (fun g hg hm => I9.calls.out.ne_ I9.lst (by decide) g (by simpa using hm) hg)).farT g1 (by decide) hu11, hC10.far g1 (by decide) (by decide) hu11, (I9.up.step hG10.up (fun x hx => .inr (I9.kvn x (by simpa using hx)))).step hu11 (by simpa using hpn), hpq, hpr, hpn, hown2⟩, by simp [hcl2], by rw [tot_snoc]; omega, fun m hm => by
          rcases List.mem_append.1 hm with hm | hm
          · exact hall m hm
          · simp only [List.mem_singleton] at hm; subst hm; exact hacc⟩ (by omega)
    refine cY (by omega) ?_
    obtain ⟨kb, ko, kc2, he, -⟩ := hh2.out.some_ (by omega)
    cases he
    obtain ⟨x, hx, hrx⟩ := hh2.at_ k hi
    obtain ⟨xa, xc, rfl, hx1, hx2⟩ := hrx.form
    simp only [maxLen] at hx2
    refine fa ?_
    refine ldb s1 rfl ?_
    refine ix k rfl hi ?_
    refine ld (by rw [hh2.out.one rfl k hi]; exact hx) ?_
    refine len_sl ?_
    by_cases hjl : j < (ls.getD k []).length
    rotate_left
    · refine cN (by omega) ?_
      obtain ⟨ea, ec, rfl, -⟩ := hs4.form
      refine fa ?_
      refine ldb I4.scr (v := kv) rfl ?_
      refine bs #[.slice ea acc.length ec] (fun _ => by kernel_rfl) fun w9 hb9 hu9 hs9 => ?_
      have I9 := I4.upd0 hu9
      refine apg I9.calls.out hb9 rfl rfl (by decide) (by simp only [maxLen]; omega) (by omega) fun kv2 w10 hs10 hG10 => ?_
      have hC10 := I9.calls.push (hs4.upd hu9 (by simp)) (fun y hy g hg hg2 => by have h1 := hBv y hy g hg; have h2 := hf4 g hg2; omega) hG10 hs10
      have hnS : ∀ {T : TypeId} {cs : Array Value} {g : Nat}, Blk w9 g T cs → 68 ≠ T → kv.ownBlock ≠ some g := fun hb hne h => I9.calls.out.blk_ne hb hne h
      have hown2 : ∀ g, kv2.ownBlock = some g → w2.heap.size ≤ g := fun g hg => by
        rcases hG10.own g hg with h | h
        · exact I9.kvn g h
        · have := I9.up.size; omega
      obtain ⟨ka', kc', rfl, -⟩ := hs10.form
      have g1 := hG10.blk I9.scr (hnS I9.scr (by decide))
      refine fa ?_
      refine st g1 (by show 0 + 7 < 10; omega) rfl fun w11 hb11 hu11 hs11 => ?_
      refine ar64 (by omega) ?_
      exact round_mk [.int .i64 ((k + 1 : Nat) : Int)] (T - (k + 1)) rfl rfl ⟨k + 1, _, _, _, rfl, by omega, rfl,
        ⟨(hG10.blk I9.res (hnS I9.res (by decide))).upd hu11 (by simpa using hpr), (hG10.blk I9.conf (hnS I9.conf (by decide))).upd hu11 (by simpa using hpq), hb11, (I9.lst.upd hG10.up (fun g hg hm => I9.calls.out.ne_ I9.lst (by decide) g (by simpa using hm) hg)).farT g1 (by decide) hu11, hC10.far g1 (by decide) (by decide) hu11, (I9.up.step hG10.up (fun x hx => .inr (I9.kvn x (by simpa using hx)))).step hu11 (by simpa using hpn), hpq, hpr, hpn, hown2⟩, by simp [hcl2], by rw [tot_snoc]; omega, fun m hm => by
          rcases List.mem_append.1 hm with hm | hm
          · exact hall m hm
          · simp only [List.mem_singleton] at hm; subst hm; exact hacc⟩ (by omega)
    refine cY (by omega) ?_
    refine cd (fun hj4 => ?_) (fun hj4 => ?_)
    rotate_left
    · obtain ⟨ea, ec, rfl, -⟩ := hs4.form
      refine fa ?_
      refine ldb I4.scr (v := kv) rfl ?_
      refine bs #[.slice ea acc.length ec] (fun _ => by kernel_rfl) fun w9 hb9 hu9 hs9 => ?_
      have I9 := I4.upd0 hu9
      refine apg I9.calls.out hb9 rfl rfl (by decide) (by simp only [maxLen]; omega) (by omega) fun kv2 w10 hs10 hG10 => ?_
      have hC10 := I9.calls.push (hs4.upd hu9 (by simp)) (fun y hy g hg hg2 => by have h1 := hBv y hy g hg; have h2 := hf4 g hg2; omega) hG10 hs10
      have hnS : ∀ {T : TypeId} {cs : Array Value} {g : Nat}, Blk w9 g T cs → 68 ≠ T → kv.ownBlock ≠ some g := fun hb hne h => I9.calls.out.blk_ne hb hne h
      have hown2 : ∀ g, kv2.ownBlock = some g → w2.heap.size ≤ g := fun g hg => by
        rcases hG10.own g hg with h | h
        · exact I9.kvn g h
        · have := I9.up.size; omega
      obtain ⟨ka', kc', rfl, -⟩ := hs10.form
      have g1 := hG10.blk I9.scr (hnS I9.scr (by decide))
      refine fa ?_
      refine st g1 (by show 0 + 7 < 10; omega) rfl fun w11 hb11 hu11 hs11 => ?_
      refine ar64 (by omega) ?_
      exact round_mk [.int .i64 ((k + 1 : Nat) : Int)] (T - (k + 1)) rfl rfl ⟨k + 1, _, _, _, rfl, by omega, rfl,
        ⟨(hG10.blk I9.res (hnS I9.res (by decide))).upd hu11 (by simpa using hpr), (hG10.blk I9.conf (hnS I9.conf (by decide))).upd hu11 (by simpa using hpq), hb11, (I9.lst.upd hG10.up (fun g hg hm => I9.calls.out.ne_ I9.lst (by decide) g (by simpa using hm) hg)).farT g1 (by decide) hu11, hC10.far g1 (by decide) (by decide) hu11, (I9.up.step hG10.up (fun x hx => .inr (I9.kvn x (by simpa using hx)))).step hu11 (by simpa using hpn), hpq, hpr, hpn, hown2⟩, by simp [hcl2], by rw [tot_snoc]; omega, fun m hm => by
          rcases List.mem_append.1 hm with hm | hm
          · exact hall m hm
          · simp only [List.mem_singleton] at hm; subst hm; exact hacc⟩ (by omega)
    have hj4 : j < 4 := by omega
    obtain ⟨xb, xo, xc2, he, -⟩ := hrx.some_ (by omega)
    cases he
    refine fa ?_
    refine ldb s1 rfl ?_
    refine ix k rfl hi ?_
    refine ld (by rw [hh2.out.one rfl k hi]; exact hx) ?_
    refine ix j rfl hjl ?_
    refine ld3 hrx rfl j hjl ?_
    have hokx : okC ((ls.getD k []).getD j (0, 0, 0)) := hok _ (getD_m ls k hi []) _ (getD_m (ls.getD k []) j hjl (0, 0, 0))
    generalize (ls.getD k []).getD j (0, 0, 0) = x at *
    obtain ⟨o, kk, vv⟩ := x
    refine al z3 (fun _ => by kernel_rfl) fun w7 hb7 hu7 hs7 => ?_
    refine stw hb7 rfl rfl rfl fun w8 hb8 hu8 hs8 => ?_
    have hb8 : Blk w8 w6.heap.size TCall (c3 o kk vv) := hb8
    have I8 := (I4.upd0 hu7).step (B := w5.heap.size) hB hBl hBk hBv hu8 (by simp; omega)
    have e8 := (hs4.upd hu7 (by simp)).upd hu8 (fun g hg => by have := hs4.lt g hg; simp only [List.mem_singleton]; omega)
    have l8 := hs4.lt
    have ht1 : -3 < o.tmod 3 := Int.lt_tmod_of_pos o (by decide)
    have ht2 : o.tmod 3 < 3 := Int.tmod_lt_of_pos o (by decide)
    obtain ⟨d, hd⟩ : ∃ d, d = (o.tmod 3 + 3).tmod 3 := ⟨_, rfl⟩
    have hd2 : d = (o.tmod 3 + 3) % 3 := by rw [hd, Int.tmod_eq_emod_of_nonneg (by omega)]
    refine fa ?_
    refine ldb hb8 (v := .int .i64 o) rfl ?_
    refine rm (by decide) ?_
    refine val (o.tmod 3) rfl ?_
    refine ar64 (by omega) ?_
    refine rm (by decide) ?_
    refine val d hd.symm ?_
    refine bd (c3 d 0 0) (fun _ => by kernel_rfl) ?_
    refine al z3 (fun _ => by kernel_rfl) fun w9 hb9 hu9 hs9 => ?_
    refine stw hb9 rfl rfl rfl fun w10 hb10 hu10 hs10 => ?_
    have hb10 : Blk w10 w8.heap.size TCall (c3 d 0 0) := hb10
    have hl8 := hb8.lt
    have g10 := (hb8.upd hu9 (by simp)).upd hu10 (by simp; omega)
    have I10 := (I8.upd0 hu9).step (B := w5.heap.size) hB hBl hBk hBv hu10 (by simp; omega)
    have e10 := (e8.upd hu9 (by simp)).upd hu10 (fun g hg => by have := l8 g hg; simp only [List.mem_singleton]; omega)
    refine fa ?_
    refine ldb hb10 (v := .int .i64 d) rfl ?_
    refine cd (fun h0 => ?_) (fun h0 => ?_)
    · refine fa ?_
      refine ldb g10 (v := .int .u32 kk) rfl ?_
      refine fa ?_
      refine st hb10 (by show 0 + 1 < 3; omega) rfl fun w11 hb11 hu11 hs11 => ?_
      have g11 := g10.upd hu11 (by simp; omega)
      have I11 := I10.step (B := w5.heap.size) hB hBl hBk hBv hu11 (by simp; omega)
      have e11 := e10.upd hu11 (fun g hg => by have := l8 g hg; simp only [List.mem_singleton]; omega)
      refine fa ?_
      refine ldb g11 (v := .int .u32 vv) rfl ?_
      refine fa ?_
      refine st hb11 (by show 0 + 2 < 3; omega) rfl fun w12 hb12 hu12 hs12 => ?_
      have hb12 : Blk w12 w8.heap.size TCall (c3 d kk vv) := hb12
      have I12 := I11.step (B := w5.heap.size) hB hBl hBk hBv hu12 (by simp; omega)
      have e12 := e11.upd hu12 (fun g hg => by have := l8 g hg; simp only [List.mem_singleton]; omega)
      refine ldw hb12 rfl ?_
      refine bs (c3 d kk vv) (fun _ => by kernel_rfl) fun w21 hb21 hu21 hs21 => ?_
      have I21 := (I12).upd0 hu21
      refine apg ((e12).upd hu21 (by simp)) hb21 rfl rfl (by decide) (by simp only [maxLen]; omega) (by omega) fun ev2 w22 hs22 hG22 => ?_
      have hz21 := hu21.size
      have hz22 := hG22.up.size
      have hcc : cellsC (acc ++ [(d, kk, vv)]) = cellsC acc ++ (c3 d kk vv).toList := by rw [cellsC_app]; rfl
      refine ar64 (by omega) ?_
      exact round_mk [ev2, .int .i64 ((j + 1 : Nat) : Int)] (4 - (j + 1)) rfl rfl ⟨j + 1, ev2, acc ++ [(d, kk, vv)], rfl, by omega, rfl, by rw [List.length_append]; simp only [List.length_singleton]; omega, I21.step (B := w5.heap.size) hB hBl hBk hBv hG22.up (fun g hg => hf4 g (by simpa using hg)), by rw [hcc, List.length_append]; exact hs22, fun g hg => (hG22.own g hg).elim (fun h => hf4 g h) (fun h => by omega), by omega, fun x hx => by
        rcases List.mem_append.1 hx with hx | hx
        · exact hacc x hx
        · simp only [List.mem_singleton] at hx; subst hx; exact ⟨hokx, .inl h0⟩⟩ (by omega)
    · have hr : rightCall d 0 0 := .inr ⟨by omega, rfl, rfl⟩
      have hz : okC (d, 0, 0) := ⟨⟨Int.le_refl 0, (by decide : (0 : Int) ≤ 4294967295)⟩, ⟨Int.le_refl 0, (by decide : (0 : Int) ≤ 4294967295)⟩⟩
      refine ldw hb10 rfl ?_
      refine bs (c3 d 0 0) (fun _ => by kernel_rfl) fun w21 hb21 hu21 hs21 => ?_
      have I21 := (I10).upd0 hu21
      refine apg ((e10).upd hu21 (by simp)) hb21 rfl rfl (by decide) (by simp only [maxLen]; omega) (by omega) fun ev2 w22 hs22 hG22 => ?_
      have hz21 := hu21.size
      have hz22 := hG22.up.size
      have hcc : cellsC (acc ++ [(d, 0, 0)]) = cellsC acc ++ (c3 d 0 0).toList := by rw [cellsC_app]; rfl
      refine ar64 (by omega) ?_
      exact round_mk [ev2, .int .i64 ((j + 1 : Nat) : Int)] (4 - (j + 1)) rfl rfl ⟨j + 1, ev2, acc ++ [(d, 0, 0)], rfl, by omega, rfl, by rw [List.length_append]; simp only [List.length_singleton]; omega, I21.step (B := w5.heap.size) hB hBl hBk hBv hG22.up (fun g hg => hf4 g (by simpa using hg)), by rw [hcc, List.length_append]; exact hs22, fun g hg => (hG22.own g hg).elim (fun h => hf4 g h) (fun h => by omega), by omega, fun x hx => by
        rcases List.mem_append.1 hx with hx | hx
        · exact hacc x hx
        · simp only [List.mem_singleton] at hx; subst hx; exact ⟨hz, hr⟩⟩ (by omega)
  have hkT : k = T := by omega
  subst hkT
  refine loop_rule [2, 3, 4, 5, 8, 9] [15] (fun vs w' m => ∃ (i : Nat) (pv : Value) (xs : List Int), vs = [.int .i64 (i : Int)] ∧ i ≤ 1500 ∧ m = 1500 - i ∧ xs.length = i ∧ RfI w2 w' q p (.slice none 0 0) [] c kv pv (.slice none 0 0) cs vals ∧ Sl w' 3 1 pv xs.length (xs.map (.int .i64)) ∧ (∀ g, pv.ownBlock = some g → w2.heap.size ≤ g) ∧ ∀ x ∈ xs, 0 ≤ x ∧ x < c.T) rfl [.int .i64 0] 1500 rfl
    ⟨0, _, [], rfl, by omega, rfl, rfl, I, Sl.nil_ _ _ _, by simp [Value.ownBlock], by simp⟩ ?_
  clear I hlt
  rintro _ w20 m ⟨i, pv, xs, rfl, hi, rfl, hxl, I, hxs, hxo, hxT⟩
  have s1 := hb1.upd I.up (by simp)
  refine fa ?_
  refine ldb s1 rfl ?_
  refine len_sl ?_
  by_cases hil : i < ps.length
  rotate_left
  · refine cN (by omega) ?_
    refine loop_rule [2, 3, 4, 5, 8, 9] [16] (fun vs w' m => ∃ (j : Nat) (J : Int) (dv : Value) (ys : List Int), vs = [.int .i64 J] ∧ J = (j : Int) ∧ j ≤ 4096 ∧ m = 4096 - j ∧ ys.length = j ∧ RfI w2 w' q p (.slice none 0 0) [] c kv pv dv cs vals ∧ Sl w' 3 1 pv xs.length (xs.map (.int .i64)) ∧ Sl w' 5 1 dv ys.length (ys.map (.int .u8)) ∧ (∀ g, dv.ownBlock = some g → w2.heap.size ≤ g) ∧ ∀ d ∈ ys, 0 ≤ d ∧ d ≤ 255) rfl [.int .i64 0] 4096 rfl
      ⟨0, 0, _, [], rfl, rfl, by omega, rfl, rfl, I, hxs, Sl.nil_ _ _ _, by simp [Value.ownBlock], by simp⟩ ?_
    clear hxs s1 I
    rintro _ w30 m ⟨j, J, dv, ys, rfl, hJ, hj, rfl, hyl, I, hxs, hys, hyo, hyb⟩
    have s1 := hb1.upd I.up (by simp)
    refine fa ?_
    refine ldb s1 rfl ?_
    refine len_sl ?_
    by_cases hjl : j < ds.length
    rotate_left
    · refine cN (by omega) ?_
      obtain ⟨ka2, kc2, rfl, -⟩ := I.calls.out.form
      obtain ⟨pa2, pc2, rfl, -⟩ := hxs.form
      obtain ⟨da2, dc2, rfl, -⟩ := hys.form
      refine ldw I.scr rfl ?_
      refine stw I.res rfl rfl rfl fun wz hbz huz hsz => ?_
      refine rlw hbz rfl ?_
      exact ⟨⟨cs, xs, ys, ⟨_, _, _, vals, rfl, (I.calls.far I.res (by decide) (by decide) huz).rd, RdK.of_sl (hxs.farT I.res (by decide) huz), RdK.of_sl (hys.farT I.res (by decide) huz)⟩, by omega, hall, by omega, hxT, by omega, hyb, by omega⟩, (hU2.trans I.up).step huz (by have := hU2.size; simp only [List.mem_singleton]; rintro x rfl; exact .inr this)⟩
    refine cY (by omega) ?_
    refine cd (fun hj4 => ?_) (fun hj4 => ?_)
    rotate_left
    · obtain ⟨ka2, kc2, rfl, -⟩ := I.calls.out.form
      obtain ⟨pa2, pc2, rfl, -⟩ := hxs.form
      obtain ⟨da2, dc2, rfl, -⟩ := hys.form
      refine ldw I.scr rfl ?_
      refine stw I.res rfl rfl rfl fun wz hbz huz hsz => ?_
      refine rlw hbz rfl ?_
      exact ⟨⟨cs, xs, ys, ⟨_, _, _, vals, rfl, (I.calls.far I.res (by decide) (by decide) huz).rd, RdK.of_sl (hxs.farT I.res (by decide) huz), RdK.of_sl (hys.farT I.res (by decide) huz)⟩, by omega, hall, by omega, hxT, by omega, hyb, by omega⟩, (hU2.trans I.up).step huz (by have := hU2.size; simp only [List.mem_singleton]; rintro x rfl; exact .inr this)⟩
    have hj4 : j < 4096 := by omega
    obtain ⟨db, dof, dc3, he, -⟩ := h4.some_ (by omega)
    cases he
    have h4' := (h4.upd0 hU2).upd0 I.up
    refine draw_mix 8 [(0, true), (1, true), (2, true), (3, true), (4, true), (5, true), (6, true), (7, false)] (fun w' => Upd [] w30 w') (by decide +kernel) (Upd.refl [] w30).drew ?_
    refine q_fa ?_
    refine q_ld (v := dv) (fun w' hw' => (I.scr.upd hw' (by simp)).cell 9) ?_
    refine q_fa ?_
    refine q_ld (v := .slice (some ⟨db, dof, none⟩) ds.length _) (fun w' hw' => (s1.upd hw' (by simp)).cell 9) ?_
    refine q_ix j hJ hjl ?_
    refine q_ld (v := .int .u8 (ds.getD j 0)) (fun w' hw' => (h4'.upd0 hw').at_ rfl j hjl) ?_
    refine bs #[.int .u8 (ds.getD j 0)] (fun _ => by kernel_rfl) fun w31 hb31 hu31 hs31 => ?_
    have hu31 : Upd [] w30 w31 := (Upd.refl [] w30).drew.trans hu31
    refine ⟨hu31, ?_⟩
    have I31 := I.upd0 hu31
    have hy31 := hys.upd hu31 (by simp)
    have hx31 := hxs.upd hu31 (by simp)
    refine apg hy31 hb31 rfl rfl (by decide) (by simp only [maxLen]; omega) (by omega) fun dv2 w32 hy32 hG32 => ?_
    have I32 := I31.grow hy31 ⟨by decide, by decide, by decide, by decide, by decide⟩ hG32 hyo
    have hx32 := hx31.upd hG32.up (fun g hg hm => hx31.ne_ hy31 (by decide) g hg (by simpa using hm))
    have hyo2 : ∀ g, dv2.ownBlock = some g → w2.heap.size ≤ g := fun g hg => (hG32.own g hg).elim (fun h => hyo g h) (fun h => by have := I31.up.size; omega)
    obtain ⟨da3, dc4, rfl, -⟩ := hy32.form
    refine fa ?_
    refine st I32.scr (by show 0 + 9 < 10; omega) rfl fun w33 hb33 hu33 hs33 => ?_
    have I33 := I32.put hu33 hb33
    refine ar64 (by omega) ?_
    refine round_mk [.int .i64 (J + 1)] (4096 - (j + 1)) rfl rfl ⟨j + 1, J + 1, _, ys ++ [ds.getD j 0], rfl, by omega, by omega, rfl, by simp [hyl], I33, hx32.farT I32.scr (by decide) hu33, by rw [List.length_append, List.map_append]; exact hy32.farT I32.scr (by decide) hu33, hyo2, fun d hd => ?_⟩ (by omega)
    rcases List.mem_append.1 hd with hd | hd
    · exact hyb d hd
    · simp only [List.mem_singleton] at hd; subst hd; exact hob j hjl
  refine cY (by omega) ?_
  refine cd (fun hi4 => ?_) (fun hi4 => ?_)
  rotate_left
  · refine loop_rule [2, 3, 4, 5, 8, 9] [16] (fun vs w' m => ∃ (j : Nat) (J : Int) (dv : Value) (ys : List Int), vs = [.int .i64 J] ∧ J = (j : Int) ∧ j ≤ 4096 ∧ m = 4096 - j ∧ ys.length = j ∧ RfI w2 w' q p (.slice none 0 0) [] c kv pv dv cs vals ∧ Sl w' 3 1 pv xs.length (xs.map (.int .i64)) ∧ Sl w' 5 1 dv ys.length (ys.map (.int .u8)) ∧ (∀ g, dv.ownBlock = some g → w2.heap.size ≤ g) ∧ ∀ d ∈ ys, 0 ≤ d ∧ d ≤ 255) rfl [.int .i64 0] 4096 rfl
      ⟨0, 0, _, [], rfl, rfl, by omega, rfl, rfl, I, hxs, Sl.nil_ _ _ _, by simp [Value.ownBlock], by simp⟩ ?_
    clear hxs s1 I
    rintro _ w30 m ⟨j, J, dv, ys, rfl, hJ, hj, rfl, hyl, I, hxs, hys, hyo, hyb⟩
    have s1 := hb1.upd I.up (by simp)
    refine fa ?_
    refine ldb s1 rfl ?_
    refine len_sl ?_
    by_cases hjl : j < ds.length
    rotate_left
    · refine cN (by omega) ?_
      obtain ⟨ka2, kc2, rfl, -⟩ := I.calls.out.form
      obtain ⟨pa2, pc2, rfl, -⟩ := hxs.form
      obtain ⟨da2, dc2, rfl, -⟩ := hys.form
      refine ldw I.scr rfl ?_
      refine stw I.res rfl rfl rfl fun wz hbz huz hsz => ?_
      refine rlw hbz rfl ?_
      exact ⟨⟨cs, xs, ys, ⟨_, _, _, vals, rfl, (I.calls.far I.res (by decide) (by decide) huz).rd, RdK.of_sl (hxs.farT I.res (by decide) huz), RdK.of_sl (hys.farT I.res (by decide) huz)⟩, by omega, hall, by omega, hxT, by omega, hyb, by omega⟩, (hU2.trans I.up).step huz (by have := hU2.size; simp only [List.mem_singleton]; rintro x rfl; exact .inr this)⟩
    refine cY (by omega) ?_
    refine cd (fun hj4 => ?_) (fun hj4 => ?_)
    rotate_left
    · obtain ⟨ka2, kc2, rfl, -⟩ := I.calls.out.form
      obtain ⟨pa2, pc2, rfl, -⟩ := hxs.form
      obtain ⟨da2, dc2, rfl, -⟩ := hys.form
      refine ldw I.scr rfl ?_
      refine stw I.res rfl rfl rfl fun wz hbz huz hsz => ?_
      refine rlw hbz rfl ?_
      exact ⟨⟨cs, xs, ys, ⟨_, _, _, vals, rfl, (I.calls.far I.res (by decide) (by decide) huz).rd, RdK.of_sl (hxs.farT I.res (by decide) huz), RdK.of_sl (hys.farT I.res (by decide) huz)⟩, by omega, hall, by omega, hxT, by omega, hyb, by omega⟩, (hU2.trans I.up).step huz (by have := hU2.size; simp only [List.mem_singleton]; rintro x rfl; exact .inr this)⟩
    have hj4 : j < 4096 := by omega
    obtain ⟨db, dof, dc3, he, -⟩ := h4.some_ (by omega)
    cases he
    have h4' := (h4.upd0 hU2).upd0 I.up
    refine draw_mix 8 [(0, true), (1, true), (2, true), (3, true), (4, true), (5, true), (6, true), (7, false)] (fun w' => Upd [] w30 w') (by decide +kernel) (Upd.refl [] w30).drew ?_
    refine q_fa ?_
    refine q_ld (v := dv) (fun w' hw' => (I.scr.upd hw' (by simp)).cell 9) ?_
    refine q_fa ?_
    refine q_ld (v := .slice (some ⟨db, dof, none⟩) ds.length _) (fun w' hw' => (s1.upd hw' (by simp)).cell 9) ?_
    refine q_ix j hJ hjl ?_
    refine q_ld (v := .int .u8 (ds.getD j 0)) (fun w' hw' => (h4'.upd0 hw').at_ rfl j hjl) ?_
    refine bs #[.int .u8 (ds.getD j 0)] (fun _ => by kernel_rfl) fun w31 hb31 hu31 hs31 => ?_
    have hu31 : Upd [] w30 w31 := (Upd.refl [] w30).drew.trans hu31
    refine ⟨hu31, ?_⟩
    have I31 := I.upd0 hu31
    have hy31 := hys.upd hu31 (by simp)
    have hx31 := hxs.upd hu31 (by simp)
    refine apg hy31 hb31 rfl rfl (by decide) (by simp only [maxLen]; omega) (by omega) fun dv2 w32 hy32 hG32 => ?_
    have I32 := I31.grow hy31 ⟨by decide, by decide, by decide, by decide, by decide⟩ hG32 hyo
    have hx32 := hx31.upd hG32.up (fun g hg hm => hx31.ne_ hy31 (by decide) g hg (by simpa using hm))
    have hyo2 : ∀ g, dv2.ownBlock = some g → w2.heap.size ≤ g := fun g hg => (hG32.own g hg).elim (fun h => hyo g h) (fun h => by have := I31.up.size; omega)
    obtain ⟨da3, dc4, rfl, -⟩ := hy32.form
    refine fa ?_
    refine st I32.scr (by show 0 + 9 < 10; omega) rfl fun w33 hb33 hu33 hs33 => ?_
    have I33 := I32.put hu33 hb33
    refine ar64 (by omega) ?_
    refine round_mk [.int .i64 (J + 1)] (4096 - (j + 1)) rfl rfl ⟨j + 1, J + 1, _, ys ++ [ds.getD j 0], rfl, by omega, by omega, rfl, by simp [hyl], I33, hx32.farT I32.scr (by decide) hu33, by rw [List.length_append, List.map_append]; exact hy32.farT I32.scr (by decide) hu33, hyo2, fun d hd => ?_⟩ (by omega)
    rcases List.mem_append.1 hd with hd | hd
    · exact hyb d hd
    · simp only [List.mem_singleton] at hd; subst hd; exact hob j hjl
  have hi4 : i < 1500 := by omega
  obtain ⟨pb, pof, pc3, he, -⟩ := h3.some_ (by omega)
  cases he
  have h3' := (h3.upd0 hU2).upd0 I.up
  have ht1 : -c.T < (ps.getD i 0).tmod c.T := Int.lt_tmod_of_pos _ (by omega)
  have ht2 : (ps.getD i 0).tmod c.T < c.T := Int.tmod_lt_of_pos _ (by omega)
  obtain ⟨e, he⟩ : ∃ e, e = ((ps.getD i 0).tmod c.T + c.T).tmod c.T := ⟨_, rfl⟩
  have he0 : 0 ≤ e := by rw [he]; exact Int.tmod_nonneg _ (by omega)
  have he1 : e < c.T := by rw [he]; exact Int.tmod_lt_of_pos _ (by omega)
  refine draw_mix 17 [(0, true), (1, true), (2, true), (3, true), (4, true), (5, true), (6, true), (7, true), (8, true), (9, true), (10, true), (11, true), (12, true), (13, true), (14, true), (15, true), (16, false)] (fun w' => Upd [] w20 w') (by decide +kernel) (Upd.refl [] w20).drew ?_
  refine q_fa ?_
  refine q_ld (v := pv) (fun w' hw' => (I.scr.upd hw' (by simp)).cell 8) ?_
  refine q_fa ?_
  refine q_ld (v := .slice (some ⟨pb, pof, none⟩) ps.length _) (fun w' hw' => (s1.upd hw' (by simp)).cell 8) ?_
  refine q_ix i rfl hil ?_
  refine q_ld (v := .int .i64 (ps.getD i 0)) (fun w' hw' => (h3'.upd0 hw').at_ rfl i hil) ?_
  refine q_fa ?_
  refine q_ld (v := .int .i64 c.T) (fun w' hw' => (I.conf.upd hw' (by simp)).cell 1) ?_
  refine rq (.int .i64 ((ps.getD i 0).tmod c.T)) (fun _ _ => rm (by omega) (val _ rfl ⟨rfl, rfl⟩)) ?_
  refine q_fa ?_
  refine q_ld (v := .int .i64 c.T) (fun w' hw' => (I.conf.upd hw' (by simp)).cell 1) ?_
  refine q_ar64 (by omega) ?_
  refine q_fa ?_
  refine q_ld (v := .int .i64 c.T) (fun w' hw' => (I.conf.upd hw' (by simp)).cell 1) ?_
  refine rq (.int .i64 e) (fun _ _ => rm (by omega) (val _ he.symm ⟨rfl, rfl⟩)) ?_
  refine bs #[.int .i64 e] (fun _ => by kernel_rfl) fun w21 hb21 hu21 hs21 => ?_
  have hu21 : Upd [] w20 w21 := (Upd.refl [] w20).drew.trans hu21
  refine ⟨hu21, ?_⟩
  have I21 := I.upd0 hu21
  have hx21 := hxs.upd hu21 (by simp)
  refine apg hx21 hb21 rfl rfl (by decide) (by simp only [maxLen]; omega) (by omega) fun pv2 w22 hx22 hG22 => ?_
  have I22 := I21.grow hx21 ⟨by decide, by decide, by decide, by decide, by decide⟩ hG22 hxo
  have hxo2 : ∀ g, pv2.ownBlock = some g → w2.heap.size ≤ g := fun g hg => (hG22.own g hg).elim (fun h => hxo g h) (fun h => by have := I21.up.size; omega)
  obtain ⟨pa3, pc4, rfl, -⟩ := hx22.form
  refine fa ?_
  refine st I22.scr (by show 0 + 8 < 10; omega) rfl fun w23 hb23 hu23 hs23 => ?_
  have I23 := I22.put hu23 hb23
  refine ar64 (by omega) ?_
  refine round_mk [.int .i64 ((i + 1 : Nat) : Int)] (1500 - (i + 1)) rfl rfl ⟨i + 1, _, xs ++ [e], rfl, by omega, rfl, by simp [hxl], I23, by rw [List.length_append, List.map_append]; exact hx22.farT I22.scr (by decide) hu23, hxo2, fun x hx => ?_⟩ (by omega)
  rcases List.mem_append.1 hx with hx | hx
  · exact hxT x hx
  · simp only [List.mem_singleton] at hx; subst hx; exact ⟨he0, he1⟩
end Go.Proofs.YtlhbgnoghjendaaDoor

/- The law SceneBack. -/
namespace Go.Proofs.YtlhbgnoghjendaaDoor
open Go.RowKit
attribute [local irreducible] Instr.loadAt Instr.storeAt Instr.fieldAt Instr.indexAt Instr.sliceAt Instr.buildSlice Instr.box Instr.alloc Builtin.append_ Builtin.len_ Builtin.min_ Builtin.max_ Calls Instr.build Instr.makeSlice binSem convert Instr.index Instr.range Instr.next
theorem textU_le (M : Nat) : ∀ (L : List (List Int)), (∀ l ∈ L, l.length ≤ M) → (textU L).length ≤ (M + 1) * L.length
  | [], _ => by simp [textU]
  | x :: L, h => by
    have h1 := textU_le M L (fun l hl => h l (List.mem_cons_of_mem _ hl))
    have h2 := h x List.mem_cons_self
    show (x ++ [10] ++ textU L).length ≤ _
    simp only [List.length_append, List.length_cons, List.length_nil]
    rw [Nat.mul_add]
    omega
theorem bodyN_mem3 {ls : List (List C3)} (h : okCs ls) : ∀ k, k ≤ ls.length → k ≤ 20 → ∀ l ∈ bodyN ls k, l.length ≤ 147
  | 0, _, _, l, hl => by simp [bodyN] at hl
  | k + 1, hk, hk2, l, hl => by
    simp only [bodyN, List.mem_append, List.mem_cons, List.mem_map] at hl
    rcases hl with hl | rfl | ⟨x, hx, rfl⟩
    · exact bodyN_mem3 h k (by omega) (by omega) l hl
    · have := thrL_len k (by omega); omega
    · have hm : ls.getD k [] ∈ ls := by simp [List.getD, show k < ls.length by omega]
      have := callL_len (h _ hm x hx); omega
theorem scene_len {c : Cf} {ls : List (List C3)} {ps ds : List Int} (hc : rightC c) (hk : okCs ls) (hl : ls.length ≤ 6) (ht : tot ls ≤ 24) (hp : okP ps) (hp2 : ps.length ≤ 1500) (hd : ds.length ≤ 4096) : (textU (linesL c ls ps ds)).length ≤ 80000 := by
  have h1 := textU_le 147 (confL c :: bodyN ls ls.length) (fun l hm => by
    rcases List.mem_cons.1 hm with rfl | hm
    · exact confL_len hc
    · exact bodyN_mem3 hk ls.length (by omega) (by omega) l hm)
  have h2 := bodyN_len ls ls.length (by omega)
  rw [List.take_length] at h2
  have h3 := pickF_len ps 0 hp (by omega)
  have h4 := drawL_len ds
  have h5 : (pickL ps).length = 5 + (pickF 0 ps).length := by unfold pickL; rw [List.length_append]; rfl
  have h6 : (textU (linesL c ls ps ds)).length = (textU (confL c :: bodyN ls ls.length)).length + ((pickL ps).length + 1 + ((drawL ds).length + 1)) := by
    unfold linesL
    rw [textU_app, List.length_append]
    simp [textU]; omega
  rw [List.length_cons, h2] at h1
  omega
set_option maxRecDepth 10000 in
theorem back_law {w : World} {v : Value} {c0 c : Cf} {ls : List (List C3)} {ps ds : List Int} (h : Scr w c0 ls ps ds v) (hok : okCs ls) (hob : okB ds) (l : List UInt8) : Fn Tryd.prog 6 #[v, .agg (cf7 c), .string (by8 l)] w fun r w' => r = .bool true ∧ Upd [] w w' := by
  have hsz := by8_size l
  obtain ⟨a0, b0, cc0, a1, b1, cc1, a2, b2, cc2, rfl⟩ := h.form
  refine fn_enter Tryd.func6 rfl rfl ?_
  refine bx fun w1 hb1 hu1 hs1 => ?_
  refine bx fun w2 hb2 hu2 hs2 => ?_
  have hb1 : Blk w2 w.heap.size TS (scV c0 (.slice a0 b0 cc0) (.slice a1 b1 cc1) (.slice a2 b2 cc2)) := hb1.upd hu2 (by simp)
  have hb2 : Blk w2 w1.heap.size 24 (cf7 c) := hb2
  have hU2 := hu1.trans hu2
  have h2 := h.upd0 hU2
  refine len_str ?_
  refine cd (fun h3 => ?_) (fun h3 => ?_)
  · refine cl (lives36 w2) ?_
    rintro _ w3 ⟨rfl, hu3⟩
    exact ⟨rfl, hU2.trans hu3⟩
  refine ldw hb2 (cf7_len c) ?_
  refine cl (rright_c c w2) ?_
  rintro _ w3 ⟨rfl, hu3⟩
  have hU3 := hU2.trans hu3
  by_cases hc : rightC c
  rotate_left
  · rw [decide_eq_false hc]
    clear hc hb2
    refine cl (scparse_c l (by omega) w3) ?_
    rintro _ w20 ⟨⟨o, ho, v, c, cs, ps, ds, k, e, rfl, hs, hd⟩, hu20⟩
    obtain ⟨kv, pv, dv, vals, rfl, hcs, hps, hds⟩ := hs.h
    obtain ⟨ka, kc, rfl, -⟩ := hcs.out.form
    obtain ⟨pa, pc, rfl, -⟩ := hps.form
    obtain ⟨da, dc, rfl, -⟩ := hds.form
    refine al zSc (fun _ => by kernel_rfl) fun w21 hb21 hu21 hs21 => ?_
    refine stw hb21 rfl rfl rfl fun w22 hb22 hu22 hs22 => ?_
    have hu202 : Upd [] w20 w22 := hu21.step hu22 (by simp)
    have hU22 := ((hU3).trans hu20).trans hu202
    have hs22 := hs.upd0 hu202
    have hcase : (e ≠ 0 ∧ cs = []) ∨ (e = 0 ∧ ∃ c' cs' ps' ds', o = .good c' cs' ps' ds' ∧ rightS c' cs' ps' ds' ∧ c = c' ∧ cs = cs' ∧ ps = ps' ∧ ds = ds') := by
      cases o with
      | bad n => obtain ⟨-, h2, -, -, -, h6⟩ := hd; exact .inl ⟨by omega, h2⟩
      | good c' cs' ps' ds' =>
        rcases hd with ⟨h0, h1, h2, h3, h4, -, h6⟩ | ⟨-, -, h2, -, -, -, h6⟩
        · exact .inr ⟨h6, _, _, _, _, rfl, h0, h1, h2, h3, h4⟩
        · exact .inl ⟨by omega, h2⟩
    rcases hcase with ⟨he, rfl⟩ | ⟨rfl, _, _, _, _, rfl, hr, rfl, rfl, rfl, rfl⟩
    · refine cY he ?_
      refine fa ?_
      refine ldb hb22 rfl ?_
      refine len_sl ?_
      refine cl (lives36 w22) ?_
      rintro _ w23 ⟨rfl, hu23⟩
      exact ⟨rfl, hU22.trans hu23⟩
    · obtain ⟨e1, e2, e3⟩ := scene_bwd ho hr.2.2.2.1
      have hcT : 1 ≤ c.T ∧ c.T ≤ 6 := by
        obtain ⟨A, T, N, L, B, P, S⟩ := c
        exact hr.1.1.2.1
      have hr2 := hr.2
      refine ldw hb22 rfl ?_
      refine cl (show36_y2 hs22 ⟨hr, ⟨by omega, by omega, hr2.2.2.1, by omega⟩, e2, fun i hi => e3 _ (getD_m ds i hi 0)⟩) ?_
      rintro _ w23 ⟨rfl, hu23⟩
      rw [str_by8, ← e1]
      refine cY rfl ?_
      refine cl (lives36 w23) ?_
      rintro _ w24 ⟨rfl, hu24⟩
      exact ⟨rfl, (hU22.trans hu23).trans hu24⟩
  rw [decide_eq_true hc]
  have hcT : 1 ≤ c.T ∧ c.T ≤ 6 := by
    obtain ⟨A, T, N, L, B, P, S⟩ := c
    exact hc.1.2.1
  refine ldw (hb1.upd hu3 (by simp)) rfl ?_
  refine ldw (hb2.upd hu3 (by simp)) (cf7_len c) ?_
  refine cl (little_c (h2.upd0 hu3) hok hob hc) ?_
  rintro _ w4 ⟨⟨cs, qs, es, hx, hxT, hxc, hxt, hqT, hql, hes, hel⟩, hu4⟩
  have hU4 := hU3.trans hu4
  have hokc : okCs cs := fun m hm x hx => (hxc m hm x hx).1
  have hqT' : ∀ i, i < qs.length → 0 ≤ qs.getD i 0 ∧ qs.getD i 0 < c.T := fun i hi => hqT _ (getD_m qs i hi 0)
  have hr : rightS c cs qs es := ⟨hc, hxT, by omega, by omega, hel, fun i hi j hj => (hxc _ (getD_m cs i hi []) _ (getD_m (cs.getD i []) j hj (0, 0, 0))).2, hqT'⟩
  have hbd := scene_len hc hokc (by omega) hxt (fun i hi => by have := hqT' i hi; omega) hql hel
  obtain ⟨x0, y0, z0, x1, y1, z1, x2, y2, z2, rfl⟩ := hx.form
  refine al zSc (fun _ => by kernel_rfl) fun w5 hb5 hu5 hs5 => ?_
  refine stw hb5 rfl rfl rfl fun w6 hb6 hu6 hs6 => ?_
  have hu46 : Upd [] w4 w6 := hu5.step hu6 (by simp)
  have hx6 := hx.upd0 hu46
  have hU6 := hU4.trans hu46
  refine ldw hb6 rfl ?_
  refine cl (show36_y2 hx6 ⟨hr, ⟨by omega, by omega, by omega, by omega⟩, hokc, fun i hi => hes _ (getD_m es i hi 0)⟩) ?_
  rintro _ w7 ⟨rfl, hu7⟩
  have hU7 := hU6.trans hu7
  rw [str_by8]
  refine cl (scparse_c (toB (textU (linesL c cs qs es))) (by unfold toB; rw [List.length_map]; exact hbd) w7) ?_
  rintro _ w8 ⟨⟨o, ho, v', c', cs', ps', ds', k', e', rfl, hs', hd'⟩, hu8⟩
  obtain rfl := ho.uniq (scene_fwd hr hokc hes)
  obtain ⟨rfl, rfl, rfl, rfl, rfl, rfl⟩ : c' = c ∧ cs' = cs ∧ ps' = qs ∧ ds' = es ∧ k' = 0 ∧ e' = 0 := by
    rcases hd' with ⟨-, h1, h2, h3, h4, h5, h6⟩ | ⟨h0, -⟩
    · exact ⟨h1, h2, h3, h4, h5, h6⟩
    · exact absurd hr h0
  obtain ⟨x0', y0', z0', x1', y1', z1', x2', y2', z2', rfl⟩ := hs'.form
  refine al zSc (fun _ => by kernel_rfl) fun w9 hb9 hu9 hs9 => ?_
  refine stw hb9 rfl rfl rfl fun w10 hb10 hu10 hs10 => ?_
  have hu810 : Upd [] w8 w10 := hu9.step hu10 (by simp)
  have hU10 := (hU7.trans hu8).trans hu810
  refine ldw (((hb6.upd hu7 (by simp)).upd hu8 (by simp)).upd hu810 (by simp)) rfl ?_
  refine ldw hb10 rfl ?_
  refine cl (same_c (((hx6.upd0 hu7).upd0 hu8).upd0 hu810) (hs'.upd0 hu810)) ?_
  rintro _ w11 ⟨rfl, hu11⟩
  have hU11 := hU10.trans hu11
  clear ho hx hx6 hs' hb10 hb9 hb6 hb5 hr
  refine cl (scparse_c l (by omega) w11) ?_
  rintro _ w20 ⟨⟨o, ho, v, c, cs, ps, ds, k, e, rfl, hs, hd⟩, hu20⟩
  obtain ⟨kv, pv, dv, vals, rfl, hcs, hps, hds⟩ := hs.h
  obtain ⟨ka, kc, rfl, -⟩ := hcs.out.form
  obtain ⟨pa, pc, rfl, -⟩ := hps.form
  obtain ⟨da, dc, rfl, -⟩ := hds.form
  refine al zSc (fun _ => by kernel_rfl) fun w21 hb21 hu21 hs21 => ?_
  refine stw hb21 rfl rfl rfl fun w22 hb22 hu22 hs22 => ?_
  have hu202 : Upd [] w20 w22 := hu21.step hu22 (by simp)
  have hU22 := ((hU11).trans hu20).trans hu202
  have hs22 := hs.upd0 hu202
  have hcase : (e ≠ 0 ∧ cs = []) ∨ (e = 0 ∧ ∃ c' cs' ps' ds', o = .good c' cs' ps' ds' ∧ rightS c' cs' ps' ds' ∧ c = c' ∧ cs = cs' ∧ ps = ps' ∧ ds = ds') := by
    cases o with
    | bad n => obtain ⟨-, h2, -, -, -, h6⟩ := hd; exact .inl ⟨by omega, h2⟩
    | good c' cs' ps' ds' =>
      rcases hd with ⟨h0, h1, h2, h3, h4, -, h6⟩ | ⟨-, -, h2, -, -, -, h6⟩
      · exact .inr ⟨h6, _, _, _, _, rfl, h0, h1, h2, h3, h4⟩
      · exact .inl ⟨by omega, h2⟩
  rcases hcase with ⟨he, rfl⟩ | ⟨rfl, _, _, _, _, rfl, hr, rfl, rfl, rfl, rfl⟩
  · refine cY he ?_
    refine fa ?_
    refine ldb hb22 rfl ?_
    refine len_sl ?_
    refine cl (lives36 w22) ?_
    rintro _ w23 ⟨rfl, hu23⟩
    exact ⟨rfl, hU22.trans hu23⟩
  · obtain ⟨e1, e2, e3⟩ := scene_bwd ho hr.2.2.2.1
    have hcT : 1 ≤ c.T ∧ c.T ≤ 6 := by
      obtain ⟨A, T, N, L, B, P, S⟩ := c
      exact hr.1.1.2.1
    have hr2 := hr.2
    refine ldw hb22 rfl ?_
    refine cl (show36_y2 hs22 ⟨hr, ⟨by omega, by omega, hr2.2.2.1, by omega⟩, e2, fun i hi => e3 _ (getD_m ds i hi 0)⟩) ?_
    rintro _ w23 ⟨rfl, hu23⟩
    rw [str_by8, ← e1]
    refine cY rfl ?_
    refine cl (lives36 w23) ?_
    rintro _ w24 ⟨rfl, hu24⟩
    exact ⟨rfl, (hU22.trans hu23).trans hu24⟩
theorem SceneBack_walk (w : World) (v : Value) (c0 : Cf) (ls : List (List C3)) (ps ds : List Int) (h : ScrIn w v c0 ls ps ds) (l : List Int) (wl : Fits [.i64, .i64, .i64, .i64, .i64, .i64, .i64] l) (s : ByteArray) (hs : s.size ≤ 140737488351232) :
    Calls Tryd.prog 6 #[v, .agg (mkInts [.i64, .i64, .i64, .i64, .i64, .i64, .i64] l).toArray, .string s] w fun e w' => e = .returned (.bool true) ∧ Below w.heap.size w w' := by
  obtain ⟨c, rfl⟩ := cf_of wl
  have e : (mkInts [.i64, .i64, .i64, .i64, .i64, .i64, .i64] (cfL c)).toArray = cf7 c := by cases c; rfl
  rw [e, ← by8_data s]
  exact (back_law h.scr (fun l hl x hx => h.keys l hl x hx) (fun i hi => h.bytes _ (getD_m ds i hi 0)) s.data.toList).mono fun _ _ ⟨_, he, hv, hu⟩ => ⟨by rw [he, hv], hu.below⟩
end Go.Proofs.YtlhbgnoghjendaaDoor

