/- The law HistNotes: its walk. -/
import Derived.Test.YtblngbagjieeiaaOj
import Derived.Test.YtblngbagjieeiaaV21
namespace Go.Proofs.Ytblngbagjieeiaa
open Go.RowKit
attribute [local irreducible] Instr.loadAt Instr.storeAt Instr.fieldAt Instr.indexAt Instr.sliceAt Instr.buildSlice Instr.box Instr.alloc Builtin.append_ Builtin.len_ Builtin.min_ Builtin.max_ Calls Instr.build Instr.makeSlice binSem convert Instr.index Instr.range Instr.next
attribute [local irreducible] Builtin.unsafeSliceData_ Builtin.unsafeString_ Instr.lookup Instr.mapUpdate Instr.makeMap Builtin.delete_
theorem sto {P : Program} {t n g T o : Nat} [AggT P t n] {K : World → Prop} {w : World} {cs new : Array Value} (hb : Blk w g T cs) (hl : o + n ≤ cs.size) (hn : new.toList.length = n) (h1 : new.toList.all (·.oneCell') = true)
    (k : ∀ w', Blk w' g T (new.toList.zipIdx.foldl (fun cs (p : Value × Nat) => cs.setIfInBounds (o + p.2) p.1) cs) → Upd [g] w w' → w'.heap.size = w.heap.size → K w') : RunU P (Instr.storeAt t (.pointer (some ⟨g, o, none⟩)) (.agg new)) K w := by
  obtain ⟨h2, h3, h4⟩ := run_setCells_blk g T new.toList o w cs hb
  refine ⟨⟨_, run_storeAt_mid w g o t new (fun j hj => ?_) (by rw [AggT.i (P := P) (t := t) (n := n)]; simpa using hn.symm) (by rw [← Array.all_toList]; exact h1), k _ h2 h3 h4⟩⟩
  refine ⟨?_, hb.frozen (o + j)⟩
  rw [hb.cell]
  simp at hn
  simp; omega
theorem own_to {w w' : World} {v v' : Value} (h : Grow w w' v v') : To w v.ownBlock.toList w' v'.ownBlock.toList := ⟨h.up, fun k hk => by
  rcases h.own k (by simpa using hk) with h1 | h1
  · exact .inl (by simpa using h1)
  · exact .inr h1⟩
def normE (e : EvD) : EvD := if e.bk then { e with c := z3 } else { e with a := z3 }
theorem normE_null (e : EvD) : nullP (normE e) := by
  unfold nullP normE
  cases h : e.bk <;> simp [h]
def obX (v : Value) (l : List EvD) : Ob := obSl TEv 8 v l.length (evsC l)
def notL (g : Nat) (lv mv xv : Value) (xs : List EvD) : List Ob := [obH g lv mv xs (fOf xs), obX xv xs]
structure Nt (w w' : World) (g : Nat) (lv mv xv : Value) (xs : List EvD) (i : Nat) : Prop where
  h : Held w w' (notL g lv mv xv xs)
  r : rightH xs
  n : xs.length ≤ i
section
variable {w w' w'' : World} {g : Nat} {lv mv xv : Value} {xs : List EvD} {i : Nat}
theorem nt_h {x : Ob} (h : Held w w' [obH g lv mv xs (fOf xs), x]) : IsH w' g lv mv xs (fOf xs) := h.at_ (i := 0) (x := obH g lv mv xs (fOf xs)) rfl
theorem nt_x {o : Ob} (h : Held w w' [o, obX xv xs]) : Sl w' TEv 8 xv xs.length (evsC xs) := h.at_ (i := 1) (x := obX xv xs) rfl
end
set_option maxRecDepth 100000 in
set_option maxHeartbeats 4000000 in
theorem notes_law {w : World} {v : Value} {l : List EvD} (h : RdE w v l) : Fn Try.prog 3 #[v] w fun r w' => r = .bool true ∧ Upd [] w w' := by
  obtain ⟨va, vc, rfl, hl1, hl2⟩ := h.form
  refine fn_enter Try.func3 rfl rfl ?_
  refine len_sl ?_
  by_cases q0 : (l.length : Int) > 200
  · refine cY q0 ?_
    refine cl (lives12 w) ?_
    rintro _ wx ⟨rfl, hux⟩
    exact ⟨rfl, hux⟩
  refine cN q0 ?_
  refine al #[.slice none 0 0, .map none] (fun _ => by kernel_rfl) fun w1 hb1 hu1 hs1 => ?_
  have I1 : IsH w1 w.heap.size (.slice none 0 0) (.map none) [] (fOf []) := ⟨hb1, Sl.nil_ _ _ _, .inl ⟨rfl, fun _ => rfl⟩⟩
  have S1 : Held w w1 [obH w.heap.size (.slice none 0 0) (.map none) [] (fOf [])] := ⟨Sep.cons (Sep.nil w1) I1 (by simp [feet]), hu1, by simp [feet, obH, footH, mvOwn, Value.ownBlock]⟩
  have N1 : Nt w w1 w.heap.size (.slice none 0 0) (.map none) (.slice none 0 0) [] 0 := ⟨S1.add (y := obX (.slice none 0 0) []) (Upd.refl _ _) (Sl.nil_ _ _ _) (by simp [obX, obSl, Value.ownBlock]), rightH_nil, by simp⟩
  clear S1 I1
  generalize hg : w.heap.size = g at *
  refine loop_rule [0, 3] [4, 5] (fun vs w' mm => ∃ (i : Nat) (lv mv xv : Value) (xs : List EvD), vs = [xv, .int .i64 (i : Int)] ∧ i ≤ l.length ∧ mm = l.length - i ∧ Nt w w' g lv mv xv xs i) rfl [.slice none 0 0, .int .i64 0] l.length rfl ⟨0, _, _, _, _, rfl, by omega, rfl, N1⟩ ?_
  clear N1
  rintro _ w2 mm ⟨i, lv, mv, xv, xs, rfl, hi, rfl, N⟩
  refine len_sl ?_
  refine cd (fun hlt => ?_) (fun hlt => ?_)
  · have hlt : i < l.length := by omega
    have h2 := h.upd0 N.h.up
    obtain ⟨b, o, c, hv, -⟩ := h2.some_ (by omega)
    cases hv
    refine ix i rfl hlt ?_
    refine lda (evL (l.getD i evZ)) rfl (h2.ldE rfl i hlt) ?_
    refine al (evV evZ) (fun _ => by kernel_rfl) fun w3 hb3 hu3 hs3 => ?_
    refine stw hb3 rfl rfl rfl fun w4 hb4 hu4 hs4 => ?_
    have hb4 : Blk w4 w2.heap.size TEv (evV (l.getD i evZ)) := hb4
    have hU4 : Upd [] w2 w4 := hu3.step hu4 (by simp)
    generalize l.getD i evZ = e0 at *
    refine fa ?_
    refine ldb hb4 (v := .bool e0.bk) rfl ?_
    obtain ⟨th, bk, c, a⟩ := e0
    cases bk with
    | true =>
      refine bd (c3V z3) (fun _ => by kernel_rfl) ?_
      refine fa ?_
      refine sto hb4 (by show 0 + 2 + 3 ≤ 8; omega) rfl rfl fun w5 hb5 hu5 hs5 => ?_
      have hb5 : Blk w5 w2.heap.size TEv (evV ⟨th, true, z3, a⟩) := hb5
      have hU5 : Upd [] w2 w5 := hU4.step hu5 (by simp)
      refine ldw hb5 rfl ?_
      refine bs (evV (⟨th, true, z3, a⟩ : EvD)) (fun _ => by kernel_rfl) fun w6 hb6 hu6 hs6 => ?_
      have H6 : Held w w6 [obH g lv mv xs (fOf xs), obX xv xs] := (N.h.upd0 hU5).upd0 hu6
      have hx6 := nt_x H6
      have hxlt : xv.ownBlock ≠ some w2.heap.size := fun h => by
        have := (nt_x N.h).lt _ h
        omega
      have hi200 : xs.length ≤ 200 := by have := N.n; omega
      refine apg hx6 hb6 rfl rfl (by decide) (by simp only [maxLen]; omega) (by omega) fun xv' w7 hs7 hG7 => ?_
      have hs7' : Sl w7 TEv 8 xv' (xs ++ [(⟨th, true, z3, a⟩ : EvD)]).length (evsC (xs ++ [(⟨th, true, z3, a⟩ : EvD)])) := by rw [List.length_append, evsC_app]; exact hs7
      have H7 : Held w w7 [obH g lv mv xs (fOf xs), obX xv' (xs ++ [(⟨th, true, z3, a⟩ : EvD)])] := H6.set (i := 1) (x := obX xv xs) (y := obX xv' (xs ++ [(⟨th, true, z3, a⟩ : EvD)])) rfl hs7' (own_to hG7)
      have hb7 := hG7.blk (hb5.upd hu6 (by simp)) hxlt
      obtain ⟨xa, xc, hxe, hxc, -⟩ := hs7'.form
      have hxl : (xs ++ [(⟨th, true, z3, a⟩ : EvD)]).length = xs.length + 1 := by simp
      have hi200 : xs.length ≤ 200 := by have := N.n; omega
      rw [hxe, hxl]
      refine len_sl ?_
      refine ar64 (by omega) ?_
      rw [show ((xs.length + 1 : Nat) : Int) - 1 = ((xs.length : Nat) : Int) by omega, ← hxl, ← hxe]
      refine cl (rmayH_c (RdR.of_sl hs7') xs.length (by omega)) ?_
      rintro _ w8 ⟨rfl, hu8⟩
      rw [mayE_app]
      have H8 := H7.upd0 hu8
      have hb8 := hb7.upd hu8 (by simp)
      have I8 := nt_h H8
      have hfl : ∀ k ∈ footH g lv mv, k ≠ w2.heap.size := fun k hk e => by
        have := (nt_h N.h).lt k hk
        omega
      have hnl : nullP (⟨th, true, z3, a⟩ : EvD) := rfl
      by_cases q1 : evE (fOf xs) (⟨th, true, z3, a⟩ : EvD) = 0
      · refine cN (fun h => h q1) ?_
        refine fa ?_
        refine ldb hb8 (v := .bool ((⟨th, true, z3, a⟩ : EvD)).bk) rfl ?_
        refine fa ?_
        refine ldb hb8 (v := .int .i64 ((⟨th, true, z3, a⟩ : EvD)).th) rfl ?_
        refine fa ?_
        refine lda (c3V a).toList rfl (ev_a hb8) ?_
        refine cl (respond_c I8 (by omega) th a) ?_
        rintro _ w9 ⟨rfl, r1, r2⟩
        obtain ⟨lv', mv', i1, i2⟩ := r2 q1
        have H9 : Held w w9 [obH g lv' mv' (xs ++ [(⟨th, true, z3, a⟩ : EvD)]) (fOf (xs ++ [(⟨th, true, z3, a⟩ : EvD)])), obX xv' (xs ++ [(⟨th, true, z3, a⟩ : EvD)])] := H8.set (i := 0) (x := obH g lv mv xs (fOf xs)) (y := obH g lv' mv' (xs ++ [(⟨th, true, z3, a⟩ : EvD)]) (fOf (xs ++ [(⟨th, true, z3, a⟩ : EvD)]))) rfl (by rw [fOf_app]; exact i1) i2
        have hb9 := hb8.upd i2.up (fun hk => hfl _ hk rfl)
        refine cN (fun h => h rfl) ?_
        refine fa ?_
        refine ldb hb9 (v := .int .i64 ((⟨th, true, z3, a⟩ : EvD)).th) rfl ?_
        refine cl (busy_c (nt_h H9) ((⟨th, true, z3, a⟩ : EvD)).th) ?_
        rintro _ w10 ⟨rfl, hu10⟩
        have H10 := H9.upd0 hu10
        have hb10 := hb9.upd hu10 (by simp)
        rw [hxe]
        refine len_sl ?_
        refine cY (by omega) ?_
        rw [← hxe]
        refine fa ?_
        refine ldb hb10 (v := .int .i64 ((⟨th, true, z3, a⟩ : EvD)).th) rfl ?_
        refine cl (busyL_c (RdR.of_sl (nt_x H10)) ((⟨th, true, z3, a⟩ : EvD)).th) ?_
        rintro _ _ ⟨rfl, rfl⟩
        refine bnq ?_
        cases (fOf (xs ++ [(⟨th, true, z3, a⟩ : EvD)]) ((⟨th, true, z3, a⟩ : EvD)).th).isSome <;>
        · refine ar64 (by omega) ?_
          exact round_mk [_, .int .i64 ((i + 1 : Nat) : Int)] (l.length - (i + 1)) rfl rfl ⟨i + 1, lv', mv', xv', xs ++ [(⟨th, true, z3, a⟩ : EvD)], rfl, by omega, rfl, ⟨H10, rightH_app N.r q1 hnl, by have := N.n; omega⟩⟩ (by omega)
      · refine cY q1 ?_
        rw [hxe, hxl]
        refine len_sl ?_
        refine ar64 (by omega) ?_
        refine sl_hi xs.length (by omega) (by omega) ?_
        have hx8 := nt_x H8
        have H8' : Held w w8 [obH g lv mv xs (fOf xs), obX (.slice xa xs.length xc) xs] := H8.set (i := 1) (x := obX xv' (xs ++ [(⟨th, true, z3, a⟩ : EvD)])) (y := obX (.slice xa xs.length xc) xs) rfl (by
          cases xa with
          | none =>
            exfalso
            have := hx8.some_ (by omega)
            rw [hxe] at this
            obtain ⟨_, _, _, h, -⟩ := this
            cases h
          | some xa =>
            obtain ⟨g9, o9, c9, h9, -⟩ := hx8.some_ (by omega)
            rw [hxe] at h9
            cases h9
            have := hx8.take_ hxe xs.length (by omega)
            rw [evsC_app, List.take_left' (evsC_len xs)] at this
            exact this) ⟨Upd.refl _ _, fun k hk => .inl (by
            rw [hxe]
            cases xa <;> exact hk)⟩
        refine fa ?_
        refine ldb hb8 (v := .bool ((⟨th, true, z3, a⟩ : EvD)).bk) rfl ?_
        refine fa ?_
        refine ldb hb8 (v := .int .i64 ((⟨th, true, z3, a⟩ : EvD)).th) rfl ?_
        refine fa ?_
        refine lda (c3V a).toList rfl (ev_a hb8) ?_
        refine cl (respond_c I8 (by omega) th a) ?_
        rintro _ w9 ⟨rfl, r1, r2⟩
        have u9 := r1 q1
        have H9 := H8'.upd0 u9
        have hb9 := hb8.upd u9 (by simp)
        refine cN (fun h => h rfl) ?_
        refine fa ?_
        refine ldb hb9 (v := .int .i64 ((⟨th, true, z3, a⟩ : EvD)).th) rfl ?_
        refine cl (busy_c (nt_h H9) ((⟨th, true, z3, a⟩ : EvD)).th) ?_
        rintro _ w10 ⟨rfl, hu10⟩
        have H10 := H9.upd0 hu10
        have hb10 := hb9.upd hu10 (by simp)
        refine len_sl ?_
        refine cd (fun q2 => ?_) (fun q2 => ?_)
        · refine fa ?_
          refine ldb hb10 (v := .int .i64 ((⟨th, true, z3, a⟩ : EvD)).th) rfl ?_
          refine cl (busyL_c (RdR.of_sl (nt_x H10)) ((⟨th, true, z3, a⟩ : EvD)).th) ?_
          rintro _ _ ⟨rfl, rfl⟩
          refine bnq ?_
          cases (fOf (xs) ((⟨th, true, z3, a⟩ : EvD)).th).isSome <;>
          · refine ar64 (by omega) ?_
            exact round_mk [_, .int .i64 ((i + 1 : Nat) : Int)] (l.length - (i + 1)) rfl rfl ⟨i + 1, lv, mv, _, xs, rfl, by omega, rfl, ⟨H10, N.r, by have := N.n; omega⟩⟩ (by omega)
        · have hx0 : xs = [] := List.length_eq_zero_iff.1 (by omega)
          have hf0 : (fOf xs ((⟨th, true, z3, a⟩ : EvD)).th).isSome = false := by rw [hx0]; rfl
          rw [hf0]
          refine bnq ?_
          refine ar64 (by omega) ?_
          exact round_mk [_, .int .i64 ((i + 1 : Nat) : Int)] (l.length - (i + 1)) rfl rfl ⟨i + 1, lv, mv, _, xs, rfl, by omega, rfl, ⟨H10, N.r, by have := N.n; omega⟩⟩ (by omega)
    | false =>
      refine bd (c3V z3) (fun _ => by kernel_rfl) ?_
      refine fa ?_
      refine sto hb4 (by show 0 + 5 + 3 ≤ 8; omega) rfl rfl fun w5 hb5 hu5 hs5 => ?_
      have hb5 : Blk w5 w2.heap.size TEv (evV ⟨th, false, c, z3⟩) := hb5
      have hU5 : Upd [] w2 w5 := hU4.step hu5 (by simp)
      refine ldw hb5 rfl ?_
      refine bs (evV (⟨th, false, c, z3⟩ : EvD)) (fun _ => by kernel_rfl) fun w6 hb6 hu6 hs6 => ?_
      have H6 : Held w w6 [obH g lv mv xs (fOf xs), obX xv xs] := (N.h.upd0 hU5).upd0 hu6
      have hx6 := nt_x H6
      have hxlt : xv.ownBlock ≠ some w2.heap.size := fun h => by
        have := (nt_x N.h).lt _ h
        omega
      have hi200 : xs.length ≤ 200 := by have := N.n; omega
      refine apg hx6 hb6 rfl rfl (by decide) (by simp only [maxLen]; omega) (by omega) fun xv' w7 hs7 hG7 => ?_
      have hs7' : Sl w7 TEv 8 xv' (xs ++ [(⟨th, false, c, z3⟩ : EvD)]).length (evsC (xs ++ [(⟨th, false, c, z3⟩ : EvD)])) := by rw [List.length_append, evsC_app]; exact hs7
      have H7 : Held w w7 [obH g lv mv xs (fOf xs), obX xv' (xs ++ [(⟨th, false, c, z3⟩ : EvD)])] := H6.set (i := 1) (x := obX xv xs) (y := obX xv' (xs ++ [(⟨th, false, c, z3⟩ : EvD)])) rfl hs7' (own_to hG7)
      have hb7 := hG7.blk (hb5.upd hu6 (by simp)) hxlt
      obtain ⟨xa, xc, hxe, hxc, -⟩ := hs7'.form
      have hxl : (xs ++ [(⟨th, false, c, z3⟩ : EvD)]).length = xs.length + 1 := by simp
      have hi200 : xs.length ≤ 200 := by have := N.n; omega
      rw [hxe, hxl]
      refine len_sl ?_
      refine ar64 (by omega) ?_
      rw [show ((xs.length + 1 : Nat) : Int) - 1 = ((xs.length : Nat) : Int) by omega, ← hxl, ← hxe]
      refine cl (rmayH_c (RdR.of_sl hs7') xs.length (by omega)) ?_
      rintro _ w8 ⟨rfl, hu8⟩
      rw [mayE_app]
      have H8 := H7.upd0 hu8
      have hb8 := hb7.upd hu8 (by simp)
      have I8 := nt_h H8
      have hfl : ∀ k ∈ footH g lv mv, k ≠ w2.heap.size := fun k hk e => by
        have := (nt_h N.h).lt k hk
        omega
      have hnl : nullP (⟨th, false, c, z3⟩ : EvD) := rfl
      by_cases q1 : evE (fOf xs) (⟨th, false, c, z3⟩ : EvD) = 0
      · refine cN (fun h => h q1) ?_
        refine fa ?_
        refine ldb hb8 (v := .bool ((⟨th, false, c, z3⟩ : EvD)).bk) rfl ?_
        refine fa ?_
        refine ldb hb8 (v := .int .i64 ((⟨th, false, c, z3⟩ : EvD)).th) rfl ?_
        refine fa ?_
        refine lda (c3V c).toList rfl (ev_c hb8) ?_
        refine cl (invoke_c I8 (by omega) th c) ?_
        rintro _ w9 ⟨rfl, r1, r2⟩
        obtain ⟨lv', mv', i1, i2⟩ := r2 q1
        have H9 : Held w w9 [obH g lv' mv' (xs ++ [(⟨th, false, c, z3⟩ : EvD)]) (fOf (xs ++ [(⟨th, false, c, z3⟩ : EvD)])), obX xv' (xs ++ [(⟨th, false, c, z3⟩ : EvD)])] := H8.set (i := 0) (x := obH g lv mv xs (fOf xs)) (y := obH g lv' mv' (xs ++ [(⟨th, false, c, z3⟩ : EvD)]) (fOf (xs ++ [(⟨th, false, c, z3⟩ : EvD)]))) rfl (by rw [fOf_app]; exact i1) i2
        have hb9 := hb8.upd i2.up (fun hk => hfl _ hk rfl)
        refine cN (fun h => h rfl) ?_
        refine fa ?_
        refine ldb hb9 (v := .int .i64 ((⟨th, false, c, z3⟩ : EvD)).th) rfl ?_
        refine cl (busy_c (nt_h H9) ((⟨th, false, c, z3⟩ : EvD)).th) ?_
        rintro _ w10 ⟨rfl, hu10⟩
        have H10 := H9.upd0 hu10
        have hb10 := hb9.upd hu10 (by simp)
        rw [hxe]
        refine len_sl ?_
        refine cY (by omega) ?_
        rw [← hxe]
        refine fa ?_
        refine ldb hb10 (v := .int .i64 ((⟨th, false, c, z3⟩ : EvD)).th) rfl ?_
        refine cl (busyL_c (RdR.of_sl (nt_x H10)) ((⟨th, false, c, z3⟩ : EvD)).th) ?_
        rintro _ _ ⟨rfl, rfl⟩
        refine bnq ?_
        cases (fOf (xs ++ [(⟨th, false, c, z3⟩ : EvD)]) ((⟨th, false, c, z3⟩ : EvD)).th).isSome <;>
        · refine ar64 (by omega) ?_
          exact round_mk [_, .int .i64 ((i + 1 : Nat) : Int)] (l.length - (i + 1)) rfl rfl ⟨i + 1, lv', mv', xv', xs ++ [(⟨th, false, c, z3⟩ : EvD)], rfl, by omega, rfl, ⟨H10, rightH_app N.r q1 hnl, by have := N.n; omega⟩⟩ (by omega)
      · refine cY q1 ?_
        rw [hxe, hxl]
        refine len_sl ?_
        refine ar64 (by omega) ?_
        refine sl_hi xs.length (by omega) (by omega) ?_
        have hx8 := nt_x H8
        have H8' : Held w w8 [obH g lv mv xs (fOf xs), obX (.slice xa xs.length xc) xs] := H8.set (i := 1) (x := obX xv' (xs ++ [(⟨th, false, c, z3⟩ : EvD)])) (y := obX (.slice xa xs.length xc) xs) rfl (by
          cases xa with
          | none =>
            exfalso
            have := hx8.some_ (by omega)
            rw [hxe] at this
            obtain ⟨_, _, _, h, -⟩ := this
            cases h
          | some xa =>
            obtain ⟨g9, o9, c9, h9, -⟩ := hx8.some_ (by omega)
            rw [hxe] at h9
            cases h9
            have := hx8.take_ hxe xs.length (by omega)
            rw [evsC_app, List.take_left' (evsC_len xs)] at this
            exact this) ⟨Upd.refl _ _, fun k hk => .inl (by
            rw [hxe]
            cases xa <;> exact hk)⟩
        refine fa ?_
        refine ldb hb8 (v := .bool ((⟨th, false, c, z3⟩ : EvD)).bk) rfl ?_
        refine fa ?_
        refine ldb hb8 (v := .int .i64 ((⟨th, false, c, z3⟩ : EvD)).th) rfl ?_
        refine fa ?_
        refine lda (c3V c).toList rfl (ev_c hb8) ?_
        refine cl (invoke_c I8 (by omega) th c) ?_
        rintro _ w9 ⟨rfl, r1, r2⟩
        have u9 := r1 q1
        have H9 := H8'.upd0 u9
        have hb9 := hb8.upd u9 (by simp)
        refine cN (fun h => h rfl) ?_
        refine fa ?_
        refine ldb hb9 (v := .int .i64 ((⟨th, false, c, z3⟩ : EvD)).th) rfl ?_
        refine cl (busy_c (nt_h H9) ((⟨th, false, c, z3⟩ : EvD)).th) ?_
        rintro _ w10 ⟨rfl, hu10⟩
        have H10 := H9.upd0 hu10
        have hb10 := hb9.upd hu10 (by simp)
        refine len_sl ?_
        refine cd (fun q2 => ?_) (fun q2 => ?_)
        · refine fa ?_
          refine ldb hb10 (v := .int .i64 ((⟨th, false, c, z3⟩ : EvD)).th) rfl ?_
          refine cl (busyL_c (RdR.of_sl (nt_x H10)) ((⟨th, false, c, z3⟩ : EvD)).th) ?_
          rintro _ _ ⟨rfl, rfl⟩
          refine bnq ?_
          cases (fOf (xs) ((⟨th, false, c, z3⟩ : EvD)).th).isSome <;>
          · refine ar64 (by omega) ?_
            exact round_mk [_, .int .i64 ((i + 1 : Nat) : Int)] (l.length - (i + 1)) rfl rfl ⟨i + 1, lv, mv, _, xs, rfl, by omega, rfl, ⟨H10, N.r, by have := N.n; omega⟩⟩ (by omega)
        · have hx0 : xs = [] := List.length_eq_zero_iff.1 (by omega)
          have hf0 : (fOf xs ((⟨th, false, c, z3⟩ : EvD)).th).isSome = false := by rw [hx0]; rfl
          rw [hf0]
          refine bnq ?_
          refine ar64 (by omega) ?_
          exact round_mk [_, .int .i64 ((i + 1 : Nat) : Int)] (l.length - (i + 1)) rfl rfl ⟨i + 1, lv, mv, _, xs, rfl, by omega, rfl, ⟨H10, N.r, by have := N.n; omega⟩⟩ (by omega)
  · have hn := N.n
    refine cl (events_c (nt_h N.h) (by omega)) ?_
    rintro ev w3 ⟨h3, hu3⟩
    have H3 := N.h.upd0 hu3
    refine cl (same_c (RdR.of_sl h3) (RdR.of_sl (nt_x H3))) ?_
    rintro _ w4 ⟨rfl, hu4⟩
    have H4 := H3.upd0 hu4
    refine cY rfl ?_
    refine cl (rightH_c (RdR.of_sl (nt_x H4)) (by omega)) ?_
    rintro _ w5 ⟨rfl, hu5⟩
    refine cY N.r ?_
    refine cl (lives12 w5) ?_
    rintro _ w6 ⟨rfl, hu6⟩
    exact ⟨rfl, (H4.up.trans hu5).trans hu6⟩
end Go.Proofs.Ytblngbagjieeiaa
