/- Histories: their text. -/
import Derived.Test.YtblngbagjieeiaaOd
import Derived.Test.YtblngbagjieeiaaOe
namespace Go.Proofs.Ytblngbagjieeiaa
open Go.RowKit
attribute [local irreducible] Instr.loadAt Instr.storeAt Instr.fieldAt Instr.indexAt Instr.sliceAt Instr.buildSlice Instr.box Instr.alloc Builtin.append_ Builtin.len_ Builtin.min_ Builtin.max_ Calls Instr.build Instr.makeSlice binSem convert Instr.index Instr.range Instr.next
attribute [local irreducible] Builtin.unsafeSliceData_ Builtin.unsafeString_
open Lib (IsBuilder BuilderAt strCells byteCells)
def thL (n : Int) : List Int := if thereP n then [48 + n] else [63]
def lineL (e : EvD) : List Int := thL e.th ++ (if e.bk then [32, 62, 32] ++ tellL e.a.1 e.a.2.1.toNat e.a.2.2.toNat else [32, 60, 32] ++ showL e.c.1 e.c.2.1.toNat e.c.2.2.toNat) ++ [10]
def u32P (n : Int) : Prop := 0 ≤ n ∧ n < 4294967296
def okE (e : EvD) : Prop := (u32P e.c.2.1 ∧ u32P e.c.2.2) ∧ u32P e.a.2.1 ∧ u32P e.a.2.2
def textL (l : List EvD) : List Int := l.flatMap lineL
theorem textL_app (l : List EvD) (e : EvD) : textL (l ++ [e]) = textL l ++ lineL e := by simp [textL]
theorem showL_len (o : Int) (k v : Nat) (hk : k < 4294967296) (hv : v < 4294967296) : (showL o k v).length ≤ 30 := by
  have l1 : (decB k).length ≤ 10 := decB_len 9 k (by omega)
  have l2 : (decB v).length ≤ 10 := decB_len 9 v (by omega)
  unfold showL
  repeat' split
  all_goals simp
  omega
theorem tellL_len (o : Int) (k v : Nat) (hk : k < 4294967296) (hv : v < 4294967296) : (tellL o k v).length ≤ 30 := by
  have l1 : (decB k).length ≤ 10 := decB_len 9 k (by omega)
  have l2 : (decB v).length ≤ 10 := decB_len 9 v (by omega)
  unfold tellL
  repeat' split
  all_goals simp
  omega
theorem thL_len (n : Int) : (thL n).length = 1 := by unfold thL; split <;> rfl
theorem lineL_len {e : EvD} (h : okE e) : (lineL e).length ≤ 40 ∧ 0 < (lineL e).length := by
  obtain ⟨⟨h1, h2⟩, h3, h4⟩ := h
  unfold u32P at *
  have s1 := showL_len e.c.1 e.c.2.1.toNat e.c.2.2.toNat (by omega) (by omega)
  have s2 := tellL_len e.a.1 e.a.2.1.toNat e.a.2.2.toNat (by omega) (by omega)
  have s3 := thL_len e.th
  unfold lineL
  split
  · simp; omega
  · simp; omega
theorem textL_len : ∀ {l : List EvD}, (∀ e ∈ l, okE e) → (textL l).length ≤ 40 * l.length
  | [], _ => by simp [textL]
  | e :: l, h => by
    have h1 := (lineL_len (h e List.mem_cons_self)).1
    have h2 := textL_len (l := l) (fun x hx => h x (List.mem_cons_of_mem _ hx))
    show (lineL e ++ textL l).length ≤ _
    rw [List.length_append, List.length_cons]; omega
def by_ (xs : List Int) : List UInt8 := xs.map fun n => UInt8.ofNat n.toNat
theorem by_str (xs : List Int) : strOfNums xs = ⟨(by_ xs).toArray⟩ := rfl
theorem by_cells (xs : List Int) : strCells (strOfNums xs) = byteCells (by_ xs) := rfl
theorem by_app (a b : List Int) : byteCells (by_ (a ++ b)) = byteCells (by_ a) ++ byteCells (by_ b) := by unfold by_; rw [List.map_append, Lib.byteCells_append]
theorem by_len (a : List Int) : (byteCells (by_ a)).length = a.length := by rw [Lib.byteCells_length]; simp [by_]
section
variable {w w' : World} {B b : Nat} {bs : List Value}
theorem bld_upd {p : Value} (h : BuilderAt TB TU8 B b p bs w) (hu : Upd [] w w') : BuilderAt TB TU8 B b p bs w' := by
  obtain ⟨v, hv, hown, hne, hB⟩ := BuilderAt.blk h
  refine ⟨hB, v, hv.upd hu (by simp), ⟨hown.1, ?_⟩, hne⟩
  rcases hown.2 with h1 | ⟨g, cap, cur, h1, h2, h3, h4⟩
  · exact .inl h1
  · have hg : g < w.heap.size := (Array.getElem?_eq_some_iff.1 h3).1
    exact .inr ⟨g, cap, cur, h1, h2, (hu.block g hg (by simp)).trans h3, h4⟩
theorem isb_upd (h : IsBuilder TB TU8 B b bs w) (hu : Upd [] w w') : IsBuilder TB TU8 B b bs w' := h.imp (bld_upd · hu) (bld_upd · hu)
theorem below_upd {w0 w1 w2 : World} (h : Below B w0 w1) (hB : B ≤ w1.heap.size) (hu : Upd [] w1 w2) : Below B w0 w2 := h.trans ⟨hu.os, hu.tape, hu.output, hu.size, fun k hk => hu.block k (by omega) (by simp)⟩
theorem thread_c (n : Int) (w : World) : Fn Try.prog 39 #[.int .i64 n] w fun r w' => r = .string (strOfNums (thL n)) ∧ w' = w := by
  refine fn_enter Try.func39 rfl rfl ?_
  refine cl (there_c n w) ?_
  rintro _ _ ⟨rfl, rfl⟩
  unfold thL
  by_cases q : thereP n
  · refine cN (fun h => h q) ?_
    rw [if_pos q]
    have q' := q
    unfold thereP at q'
    obtain ⟨m, rfl⟩ := Int.eq_ofNat_of_zero_le q'.1
    refine ar64 (by omega) ?_
    refine s_lohi m (m + 1) rfl (by omega) (by omega) (by show m + 1 ≤ 10; omega) ?_
    exact ⟨congrArg Value.string (digit_at m (by omega)), rfl⟩
  · refine cY q ?_
    rw [if_neg q]
    exact ⟨rfl, rfl⟩
end
theorem ev_c {w : World} {g : Nat} {e : EvD} (hb : Blk w g TEv (evV e)) : ∀ (j : Nat) (u : Value), (c3V e.c).toList[j]? = some u → w.cell? ⟨g, 0 + 2 + j, none⟩ = some u := fun j u hu => by
  rw [hb.cell]
  match j, hu with
  | 0, hu => exact hu
  | 1, hu => exact hu
  | 2, hu => exact hu
theorem ev_a {w : World} {g : Nat} {e : EvD} (hb : Blk w g TEv (evV e)) : ∀ (j : Nat) (u : Value), (c3V e.a).toList[j]? = some u → w.cell? ⟨g, 0 + 5 + j, none⟩ = some u := fun j u hu => by
  rw [hb.cell]
  match j, hu with
  | 0, hu => exact hu
  | 1, hu => exact hu
  | 2, hu => exact hu
theorem c3_e (x : C3) (h1 : u32P x.2.1) (h2 : u32P x.2.2) : c3V x = c3 x.1 ((x.2.1.toNat : Nat) : Int) ((x.2.2.toNat : Nat) : Int) := by
  unfold c3V c3
  rw [Int.toNat_of_nonneg h1.1, Int.toNat_of_nonneg h2.1]
theorem show_e (x : C3) (h1 : u32P x.2.1) (h2 : u32P x.2.2) (w : World) : Fn Try.prog 36 #[.agg (c3V x)] w fun r w' => r = .string (strOfNums (showL x.1 x.2.1.toNat x.2.2.toNat)) ∧ Upd [] w w' := by
  rw [c3_e x h1 h2]
  unfold u32P at h1 h2
  exact show_c x.1 x.2.1.toNat x.2.2.toNat (by omega) (by omega) w
theorem tell_e (x : C3) (h1 : u32P x.2.1) (h2 : u32P x.2.2) (w : World) : Fn Try.prog 37 #[.agg (c3V x)] w fun r w' => r = .string (strOfNums (tellL x.1 x.2.1.toNat x.2.2.toNat)) ∧ Upd [] w w' := by
  rw [c3_e x h1 h2]
  unfold u32P at h1 h2
  exact tell_c x.1 x.2.1.toNat x.2.2.toNat (by omega) (by omega) w
theorem rshow_e (x : C3) (h1 : u32P x.2.1) (h2 : u32P x.2.2) (w : World) : Fn Try.prog 43 #[.agg (c3V x)] w fun r w' => r = .string (strOfNums (showL x.1 x.2.1.toNat x.2.2.toNat)) ∧ Upd [] w w' := by
  rw [c3_e x h1 h2]
  unfold u32P at h1 h2
  exact rshow_c x.1 x.2.1.toNat x.2.2.toNat (by omega) (by omega) w
theorem rtell_e (x : C3) (h1 : u32P x.2.1) (h2 : u32P x.2.2) (w : World) : Fn Try.prog 42 #[.agg (c3V x)] w fun r w' => r = .string (strOfNums (tellL x.1 x.2.1.toNat x.2.2.toNat)) ∧ Upd [] w w' := by
  rw [c3_e x h1 h2]
  unfold u32P at h1 h2
  exact rtell_c x.1 x.2.1.toNat x.2.2.toNat (by omega) (by omega) w
set_option maxRecDepth 10000 in
theorem show_h {w : World} {v : Value} {l : List EvD} (h : RdE w v l) (hok : ∀ e ∈ l, okE e) (hl : l.length ≤ 1000) : Fn Try.prog 18 #[v] w fun r w' => r = .string (strOfNums (textL l)) ∧ Upd [] w w' := by
  obtain ⟨va, vc, rfl, hl1, hl2⟩ := h.form
  refine fn_enter Try.func18 rfl rfl ?_
  refine al #[.pointer none, .slice none 0 0] (fun _ => by kernel_rfl) fun w1 hb1 hu1 hs1 => ?_
  have hb1 : Blk w1 w.heap.size TB #[.pointer none, .slice none 0 0] := hb1
  refine len_sl ?_
  have hbel1 : Below w.heap.size w w1 := hu1.below
  generalize hB : w.heap.size = B at *
  refine loop_rule [3, 7, 8] [9] (fun vs w' mm => ∃ i : Nat, vs = [.int .i64 (i : Int)] ∧ i ≤ l.length ∧ mm = l.length - i ∧ IsBuilder TB TU8 B B (byteCells (by_ (textL (l.take i)))) w' ∧ (i = 0 → Blk w' B TB #[.pointer none, .slice none 0 0]) ∧ Below B w w' ∧ B + 1 ≤ w'.heap.size) rfl [.int .i64 0] l.length rfl
    ⟨0, rfl, by omega, rfl, .inl ⟨Nat.le_refl _, .slice none 0 0, hb1, World.ownsRow_nil _ _ _ _, by simp [Value.ownBlock]⟩, fun _ => hb1, hbel1, by omega⟩ ?_
  rintro _ w2 mm ⟨i, rfl, hi, rfl, hI, hI0, hbel, hsz⟩
  refine cd (fun hlt => ?_) (fun hlt => ?_)
  · have hlt : i < l.length := by omega
    have hu2 : Upd [] w w2 := Upd.of_below (by rw [hB]; exact hbel)
    have h2 := h.upd0 hu2
    obtain ⟨b, o, c, hv, -⟩ := h2.some_ (by omega)
    cases hv
    have he := hok _ (show l.getD i evZ ∈ l by simp [List.getD, hlt])
    have htk := take_snoc evZ l i hlt
    have hld := h2.ldE rfl i hlt
    generalize l.getD i evZ = e at *
    have hll := lineL_len he
    have htl := textL_len (l := l.take i) (fun x hx => hok x (List.mem_of_mem_take hx))
    rw [List.length_take, Nat.min_eq_left (by omega)] at htl
    obtain ⟨⟨k1, k2⟩, k3, k4⟩ := he
    unfold u32P at k1 k2 k3 k4
    obtain ⟨ck, hck⟩ := Int.eq_ofNat_of_zero_le k1.1
    obtain ⟨cv', hcv⟩ := Int.eq_ofNat_of_zero_le k2.1
    obtain ⟨ak, hak⟩ := Int.eq_ofNat_of_zero_le k3.1
    obtain ⟨av, hav⟩ := Int.eq_ofNat_of_zero_le k4.1
    have hsl := showL_len e.c.1 e.c.2.1.toNat e.c.2.2.toNat (by omega) (by omega)
    have htl2 := tellL_len e.a.1 e.a.2.1.toNat e.a.2.2.toNat (by omega) (by omega)
    refine ix i rfl hlt ?_
    refine lda (evL e) rfl hld ?_
    refine al (evV evZ) (fun _ => by kernel_rfl) fun w3 hb3 hu3 hs3 => ?_
    refine stw hb3 rfl rfl rfl fun w4 hb4 hu4 hs4 => ?_
    have hb4 : Blk w4 w2.heap.size TEv (evV e) := hb4
    have hU4 : Upd [] w2 w4 := hu3.step hu4 (by simp)
    refine fa ?_
    refine lda (c3V e.c).toList rfl (ev_c hb4) ?_
    refine cl (show_e e.c k1 k2 w4) ?_
    rintro _ w5 ⟨rfl, hu5⟩
    refine sadd (a := strOfNums [32, 60, 32]) (by rw [strOfNums_size, strOfNums_size]; simp; omega) ?_
    rw [str_add]
    have hb5 := hb4.upd hu5 (by simp)
    refine fa ?_
    refine ldb hb5 (v := .bool e.bk) rfl ?_
    have hI5 := isb_upd (isb_upd hI hU4) hu5
    have hbel5 := below_upd (below_upd hbel (by omega) hU4) (by have := hU4.size; omega) hu5
    have hz5 := hu5.size
    have hz4 := hU4.size
    cases hbk : e.bk with
    | false =>
      refine fa ?_
      refine ldb hb5 (v := .int .i64 e.th) rfl ?_
      refine cl (thread_c e.th w5) ?_
      rintro _ _ ⟨rfl, rfl⟩
      have hth1 := thL_len e.th
      refine sadd (by rw [strOfNums_size, strOfNums_size]; simp; omega) ?_
      rw [str_add]
      refine sadd (b := strOfNums [10]) (by rw [strOfNums_size, strOfNums_size]; simp; omega) ?_
      rw [str_add]
      refine cl (write_c hI5 (by omega) _ (by rw [by_len, strOfNums_size]; simp; omega)) ?_
      rintro _ w8 ⟨hI8, hbel8, hz8⟩
      have hline : thL e.th ++ ([32, 60, 32] ++ showL e.c.1 e.c.2.1.toNat e.c.2.2.toNat) ++ [10] = lineL e := (by unfold lineL; rw [hbk]; rfl)
      rw [hline, by_cells, ← by_app, ← textL_app, ← htk] at hI8
      refine ar64 (by omega) ?_
      exact round_mk [.int .i64 ((i + 1 : Nat) : Int)] (l.length - (i + 1)) rfl rfl ⟨i + 1, rfl, by omega, rfl, .inr hI8, fun h => absurd h (by omega), (hbel5).trans hbel8, by omega⟩ (by omega)
    | true =>
      refine fa ?_
      refine lda (c3V e.a).toList rfl (ev_a hb5) ?_
      refine cl (tell_e e.a k3 k4 w5) ?_
      rintro _ w6 ⟨rfl, hu6⟩
      refine sadd (a := strOfNums [32, 62, 32]) (by rw [strOfNums_size, strOfNums_size]; simp; omega) ?_
      rw [str_add]
      have hb6 := hb5.upd hu6 (by simp)
      have hI6 := isb_upd hI5 hu6
      have hbel6 := below_upd hbel5 (by omega) hu6
      have hz6 := hu6.size
      refine fa ?_
      refine ldb hb6 (v := .int .i64 e.th) rfl ?_
      refine cl (thread_c e.th w6) ?_
      rintro _ _ ⟨rfl, rfl⟩
      have hth1 := thL_len e.th
      refine sadd (by rw [strOfNums_size, strOfNums_size]; simp; omega) ?_
      rw [str_add]
      refine sadd (b := strOfNums [10]) (by rw [strOfNums_size, strOfNums_size]; simp; omega) ?_
      rw [str_add]
      refine cl (write_c hI6 (by omega) _ (by rw [by_len, strOfNums_size]; simp; omega)) ?_
      rintro _ w8 ⟨hI8, hbel8, hz8⟩
      have hline : thL e.th ++ ([32, 62, 32] ++ tellL e.a.1 e.a.2.1.toNat e.a.2.2.toNat) ++ [10] = lineL e := (by unfold lineL; rw [hbk]; rfl)
      rw [hline, by_cells, ← by_app, ← textL_app, ← htk] at hI8
      refine ar64 (by omega) ?_
      exact round_mk [.int .i64 ((i + 1 : Nat) : Int)] (l.length - (i + 1)) rfl rfl ⟨i + 1, rfl, by omega, rfl, .inr hI8, fun h => absurd h (by omega), (hbel6).trans hbel8, by omega⟩ (by omega)
  · have hie : i = l.length := by omega
    subst hie
    rw [List.take_length] at hI
    by_cases h0 : l = []
    · subst h0
      refine cl (string_0 (hI0 rfl)) ?_
      rintro _ w3 ⟨rfl, rfl⟩
      exact ⟨rfl, Upd.of_below (by rw [hB]; exact below_upd hbel (by omega) (Upd.refl _ _).drew)⟩
    · have hpos : 0 < (textL l).length := by
        cases l with
        | nil => exact absurd rfl h0
        | cons e l =>
          have := (lineL_len (hok e List.mem_cons_self)).2
          show 0 < (lineL e ++ textL l).length
          rw [List.length_append]; omega
      have hne : by_ (textL l) ≠ [] := fun h => by
        have := congrArg List.length h
        simp [by_] at this
        rw [this] at hpos
        exact absurd hpos (by simp)
      have htl := textL_len hok
      have hbl : (by_ (textL l)).length ≤ 140737488355328 := by simp [by_]; omega
      have hS : Fn Try.prog 40 #[pB B] w2 fun r w' => r = .string ⟨(by_ (textL l)).toArray⟩ ∧ Below B w2 w' := by
        rcases hI with hI | hI
        · exact string_c hI hne hbl
        · exact string_c hI hne hbl
      refine cl hS ?_
      rintro _ w3 ⟨rfl, h3⟩
      exact ⟨rfl, Upd.of_below (by rw [hB]; exact hbel.trans h3)⟩
end Go.Proofs.Ytblngbagjieeiaa
