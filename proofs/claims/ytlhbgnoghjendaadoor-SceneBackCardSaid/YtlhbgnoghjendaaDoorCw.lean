/- The law CallParses: its walk, and the contracts of what reads texts. -/
import Derived.Test.YtlhbgnoghjendaaDoorCv
namespace Go.Proofs.YtlhbgnoghjendaaDoor
open Go.RowKit
attribute [local irreducible] Instr.loadAt Instr.storeAt Instr.fieldAt Instr.indexAt Instr.sliceAt Instr.buildSlice Instr.box Instr.alloc Builtin.append_ Builtin.len_ Builtin.min_ Builtin.max_ Calls Instr.build Instr.makeSlice binSem convert Instr.index Instr.range Instr.next

theorem ext_take (l : List UInt8) (n : Nat) : (by8 l).extract 0 n = by8 (l.take n) := by
  apply ByteArray.ext; apply Array.ext'; simp [by8]
theorem ext_drop (l : List UInt8) (n : Nat) : (by8 l).extract n (by8 l).size = by8 (l.drop n) := by
  rw [by8_size]; apply ByteArray.ext; apply Array.ext'; simp [by8]
  exact List.take_of_length_le (by simp)
theorem hasp_c (l : List UInt8) (w : World) : Fn Tryd.prog 94 #[.string (by8 l), .string ⟨#[105, 110, 115, 101, 114, 116, 32]⟩] w fun r w' => r = .bool (decide (l.take 7 = p7)) ∧ w' = w := by
  refine fn_enter Tryd.func94 rfl rfl ?_
  refine len_str ?_
  refine len_str ?_
  refine cd (fun h => ?_) (fun h => ?_)
  · rw [by8_size] at h
    have h7 : 7 ≤ l.length := by have h : ((7 : Nat) : Int) ≤ (l.length : Int) := h; omega
    refine len_str ?_
    refine s_hi 7 rfl (by rw [by8_size]; exact h7) ?_
    rw [ext_take]
    refine ⟨?_, rfl⟩
    show Value.bool ((by8 (l.take 7)).toList == (ByteArray.mk p7.toArray).toList) = _
    rw [eqs]
  · rw [by8_size] at h
    have h7 : ¬ 7 ≤ l.length := fun h' => h (by show ((7 : Nat) : Int) ≤ (l.length : Int); omega)
    refine ⟨?_, rfl⟩
    rw [decide_eq_false (fun e : l.take 7 = p7 => h7 (by have := congrArg List.length e; simp [p7] at this; omega))]
    rfl
def cpV (l : List UInt8) : Array Value := if l.take 7 = p7 then #[.string (by8 (l.drop 7)), .bool true] else #[.string (by8 l), .bool false]
theorem cutp0_c (l : List UInt8) (w : World) : Fn Tryd.prog 95 #[.string (by8 l), .string ⟨#[105, 110, 115, 101, 114, 116, 32]⟩] w fun r w' => r = .tuple (cpV l) ∧ w' = w := by
  refine fn_enter Tryd.func95 rfl rfl ?_
  refine cl (hasp_c l w) ?_
  rintro _ w ⟨rfl, rfl⟩
  unfold cpV
  refine cd (fun h => ?_) (fun h => ?_)
  · have h : ¬ l.take 7 = p7 := h
    rw [if_neg h]
    exact ⟨rfl, rfl⟩
  · have h : l.take 7 = p7 := by simpa using h
    have h7 : 7 ≤ l.length := by have := congrArg List.length h; simp [p7] at this; omega
    rw [if_pos h]
    refine len_str ?_
    refine s_lo 7 rfl (by rw [by8_size]; exact h7) ?_
    rw [ext_drop]
    exact ⟨rfl, rfl⟩
theorem cutp_c (l : List UInt8) (w : World) : Fn Tryd.prog 82 #[.string (by8 l), .string ⟨#[105, 110, 115, 101, 114, 116, 32]⟩] w fun r w' => r = .tuple (cpV l) ∧ w' = w := by
  refine fn_enter Tryd.func82 rfl rfl ?_
  refine cl (cutp0_c l w) ?_
  rintro _ w ⟨rfl, rfl⟩
  unfold cpV
  by_cases h : l.take 7 = p7
  · rw [if_pos h]; exact ⟨rfl, rfl⟩
  · rw [if_neg h]; exact ⟨rfl, rfl⟩

set_option maxRecDepth 10000 in
theorem parse_c (l : List UInt8) (hl : l.length ≤ 9223372036854775806) (w : World) : Fn Tryd.prog 60 #[.string (by8 l)] w fun r w' => r = outR (parseR l) ∧ Upd [] w w' := by
  refine fn_enter Tryd.func60 rfl rfl ?_
  refine al z3 (fun _ => by kernel_rfl) fun w1 hb1 hu1 hs1 => ?_
  refine cd (fun h => ?_) (fun h0 => ?_)
  · rw [by8_list, ByteArray.toList_eq] at h
    have h : l = s_del := h
    refine bd (c3 1 0 0) (fun _ => by kernel_rfl) ?_
    refine stw hb1 rfl rfl rfl fun w2 hb2 hu2 hs2 => ?_
    refine rlw hb2 rfl ?_
    refine ⟨?_, hu1.step hu2 (by simp)⟩
    subst h
    rfl
  have h0 : l ≠ s_del := by rw [by8_list, ByteArray.toList_eq] at h0; exact h0
  refine cd (fun h => ?_) (fun h1 => ?_)
  · rw [by8_list, ByteArray.toList_eq] at h
    have h : l = s_peek := h
    refine bd (c3 2 0 0) (fun _ => by kernel_rfl) ?_
    refine stw hb1 rfl rfl rfl fun w2 hb2 hu2 hs2 => ?_
    refine rlw hb2 rfl ?_
    refine ⟨?_, hu1.step hu2 (by simp)⟩
    subst h
    rfl
  have h1 : l ≠ s_peek := by rw [by8_list, ByteArray.toList_eq] at h1; exact h1
  refine cl (cutp_c l w1) ?_
  rintro _ w1 ⟨rfl, rfl⟩
  unfold parseR
  rw [if_neg h0, if_neg h1]
  unfold cpV
  by_cases hp : l.take 7 = p7
  · rw [if_pos hp, if_pos hp]
    refine cl (pair_c (l.drop 7) (by simp; omega) w1) ?_
    rintro _ w2 ⟨rfl, hu2⟩
    have hr2 := hb1.upd hu2 (by simp)
    have hU2 := hu1.trans hu2
    unfold pairV
    cases hq : pairOf (l.drop 7) with
    | none =>
      refine bd (c3 0 0 0) (fun _ => by kernel_rfl) ?_
      refine stw hr2 rfl rfl rfl fun w3 hb3 hu3 hs3 => ?_
      refine rlw hb3 rfl ?_
      exact ⟨rfl, hU2.step hu3 (by simp)⟩
    | some p =>
      obtain ⟨a, b⟩ := p
      refine bd (c3 0 (a : Int) (b : Int)) (fun _ => by kernel_rfl) ?_
      refine stw hr2 rfl rfl rfl fun w3 hb3 hu3 hs3 => ?_
      refine rlw hb3 rfl ?_
      exact ⟨rfl, hU2.step hu3 (by simp)⟩
  · rw [if_neg hp, if_neg hp]
    refine cl (pair_c l hl w1) ?_
    rintro _ w2 ⟨rfl, hu2⟩
    have hr2 := hb1.upd hu2 (by simp)
    have hU2 := hu1.trans hu2
    unfold pairV
    cases hq : pairOf l with
    | none =>
      refine bd (c3 0 0 0) (fun _ => by kernel_rfl) ?_
      refine stw hr2 rfl rfl rfl fun w3 hb3 hu3 hs3 => ?_
      refine rlw hb3 rfl ?_
      exact ⟨rfl, hU2.step hu3 (by simp)⟩
    | some p =>
      obtain ⟨a, b⟩ := p
      refine bd (c3 0 0 0) (fun _ => by kernel_rfl) ?_
      refine stw hr2 rfl rfl rfl fun w3 hb3 hu3 hs3 => ?_
      refine rlw hb3 rfl ?_
      exact ⟨rfl, hU2.step hu3 (by simp)⟩

theorem cdd {p X Y : Prop} [Decidable p] (h1 : p → X) (h2 : ¬ p → Y) : (Bool.rec (motive := fun _ => Prop) Y X (decide p) : Prop) := CondP.mk' (fun h => h1 (of_decide_eq_true h)) (fun h => h2 (of_decide_eq_false h))
def u64V (n : Nat) : Value := .int .u64 (n : Int)
theorem take_nextU (l : List UInt8) (j : Nat) (h : j < l.length) : l.take (j + 1) = l.take j ++ [l.getD j 0] := by
  rw [List.take_add_one]; simp [List.getD, h]
theorem set_lastU (front : List Nat) (x y : Nat) : ((front ++ [x]).map u64V).set front.length (u64V y) = (front ++ [y]).map u64V := by simp [List.set_append]
structure NumI (l : List UInt8) (w w' : World) (j : Nat) (v : Value) (b : Bool) (rs : List Nat) : Prop where
  le : j ≤ l.length
  fold : (l.take j).foldl numStep (false, []) = (b, rs)
  sl : Sl w' 109 1 v rs.length (rs.map u64V)
  own : ∀ g, v.ownBlock = some g → w.heap.size ≤ g
  small : ∀ n ∈ rs, n < 17592186044416
  ne : b = true → rs ≠ []
  len : rs.length ≤ j
  up : Upd [] w w'
set_option maxRecDepth 100000 in
theorem numbers_c (l : List UInt8) (hl : l.length < 4294967296) (w : World) : Fn Tryd.prog 65 #[.string (by8 l)] w fun r w' => Sl w' 109 1 r (numRows l).length ((numRows l).map u64V) ∧ (∀ n ∈ numRows l, n < 17592186044416) ∧ (∀ g, r.ownBlock = some g → w.heap.size ≤ g) ∧ Upd [] w w' := by
  refine fn_enter Tryd.func65 rfl rfl ?_
  refine loop_rule [0] [3, 4, 5] (fun vs w' m => ∃ (j : Nat) (v : Value) (b : Bool) (rs : List Nat), vs = [v, .bool b, .int .i64 j] ∧ m = l.length - j ∧ NumI l w w' j v b rs) rfl [.slice none 0 0, .bool false, .int .i64 0] l.length rfl
    ⟨0, _, false, [], rfl, rfl, ⟨by omega, rfl, Sl.nil_ _ _ _, by simp [Value.ownBlock], by simp, by simp, by simp, Upd.refl _ _⟩⟩ ?_
  rintro _ w1 m ⟨j, v, b, rs, rfl, rfl, I⟩
  refine len_str ?_
  refine cd (fun hj => ?_) (fun hj => ?_)
  · rw [by8_size] at hj
    have hj : j < l.length := by omega
    have hjs : j < (by8 l).size := by rw [by8_size]; exact hj
    refine ixs j rfl hjs ?_
    rw [by8_at]
    refine cd (fun h48 => ?_) (fun h48 => ?_)
    · refine ixs j rfl hjs ?_
      rw [by8_at]
      refine cd (fun h57 => ?_) (fun h57 => ?_)
      · have hd : isD (l.getD j 0) = true := by rw [isD_iff]; omega
        have hU := I.up
        have hlenj := I.len
        cases b with
        | false =>
          refine bs #[.int .u64 0] (fun _ => by kernel_rfl) fun w2 hb2 hu2 hs2 => ?_
          have hsl2 := I.sl.upd hu2 (by simp)
          refine app hsl2 hb2 rfl rfl (by decide) (by simp [maxLen]; omega) (by omega) fun g o cap w5 hs5 hu5 hg5 => ?_
          obtain ⟨front, hf⟩ : ∃ front, front = rs := ⟨rs, rfl⟩
          obtain ⟨x, hx0⟩ : ∃ x : Nat, x = 0 := ⟨0, rfl⟩
          have hs5 : Sl w5 109 1 (.slice (some ⟨g, o, none⟩) (front ++ [x]).length cap) (front ++ [x]).length ((front ++ [x]).map u64V) := by subst hf; subst hx0; simp only [List.map_append, List.length_append, List.length_singleton, List.map_cons, List.map_nil]; exact hs5
          have hz2 := hu2.size
          have hg : ∀ g', Value.ownBlock (.slice (some ⟨g, o, none⟩) (front ++ [x]).length cap) = some g' → w.heap.size ≤ g' := by
            intro g' he
            have : g = g' := by simpa [Value.ownBlock] using he
            subst this
            have hz := hU.size
            rcases hg5 with h | h
            · exact I.own _ h
            · omega
          have hU5 : Upd [] w w5 := (hU.trans hu2).step hu5 (fun k hk => by simp at hk; exact .inr (I.own k hk))
          have hsm : ∀ n ∈ front, n < 17592186044416 := by rw [hf]; exact I.small
          have hxs : x < 17592186044416 := by omega
          have hfl : front.length ≤ j := by rw [hf]; exact hlenj
          have hlen0 : (front ++ [x]).length = rs.length + 1 := by rw [← hf]; simp
          have e1 : Value.slice (some ⟨g, o, none⟩) (rs.length + 1) cap = .slice (some ⟨g, o, none⟩) (front ++ [x]).length cap := by rw [hlen0]
          rw [e1]
          have hstep : numStep (false, rs) (l.getD j 0) = (true, front ++ [upd9 x (l.getD j 0)]) := by unfold numStep; rw [if_pos hd, hf, hx0]; rfl
          have hlen : (front ++ [x]).length = front.length + 1 := by simp
          have hcell : ∀ w', w' = w5 ∨ w' = w5.drew → w'.cell? ⟨g, o + front.length * 1, none⟩ = some (u64V x) := by
            have h1 := hs5.get rfl front.length (by simp)
            have h2 : (front ++ [x])[front.length] = x := by simp
            rw [h2] at h1
            rintro w' (rfl | rfl)
            · exact h1
            · exact h1
          refine len_sl ?_
          refine ar64 (by omega) ?_
          refine ix front.length (by omega) (by omega) ?_
          obtain ⟨xi, hxi⟩ : ∃ xi : Int, xi = (x : Int) := ⟨_, rfl⟩
          refine ld (v := .int .u64 xi) (by rw [hxi]; exact hcell _ (.inl rfl)) ?_
          refine cdd (fun hx => ?_) (fun hx => ?_)
          · refine draw_tail 14 (by decide +kernel) ?_
            refine q_ix front.length (by omega) (by omega) ?_
            refine q_ld (v := .int .u64 (x : Int)) (by rintro _ rfl; exact hcell _ (.inr rfl)) ?_
            refine q_arU (by omega) ?_
            refine rq (.int .u8 ((l.getD j 0).toNat : Int)) (fun _ _ => ixs j rfl (by rw [by8_size]; exact hj) ⟨by rw [by8_at], rfl⟩) ?_
            refine rq (.int .u64 ((l.getD j 0).toNat : Int)) (fun _ _ => cv (arU (by omega) ⟨rfl, rfl⟩)) ?_
            refine q_arU (by omega) ?_
            refine q_arU (by omega) ?_
            refine q_ix front.length (by omega) (by omega) ?_
            have hs6 : Sl w5.drew 109 1 _ _ _ := hs5.drew
            refine stS hs6 rfl (by omega) rfl fun w6 hs7 hu7 hz7 => ?_
            have hup : upd9 x (l.getD j 0) = 10 * x + ((l.getD j 0).toNat - 48) := if_pos (by omega)
            have hval : Value.int .u64 (10 * (x : Int) + ((l.getD j 0).toNat : Int) - 48) = u64V (upd9 x (l.getD j 0)) := by rw [hup, u64V]; congr 1; omega
            rw [hval, set_lastU] at hs7
            refine ar64 (by omega) ?_
            refine round_mk [_, .bool true, .int .i64 ((j + 1 : Nat) : Int)] (l.length - (j + 1)) rfl rfl ⟨j + 1, _, true, front ++ [upd9 x (l.getD j 0)], rfl, rfl, ⟨hj, ?_, by simpa using hs7, hg, ?_, by simp, by simp; omega, ?_⟩⟩ (by omega)
            · rw [take_nextU l j hj, List.foldl_append, I.fold, List.foldl_cons, hstep]; rfl
            · intro n hn
              simp only [List.mem_append, List.mem_singleton] at hn
              rcases hn with hn | rfl
              · exact hsm n hn
              · rw [hup]; omega
            · exact hU5.step (show Upd [g] w5 w6 from ⟨hu7.os, hu7.tape, hu7.output, hu7.size, hu7.block⟩) (by simpa using hg g rfl)
          · have hup : upd9 x (l.getD j 0) = x := if_neg (by omega)
            refine ar64 (by omega) ?_
            refine round_mk [_, .bool true, .int .i64 ((j + 1 : Nat) : Int)] (l.length - (j + 1)) rfl rfl ⟨j + 1, _, true, front ++ [upd9 x (l.getD j 0)], rfl, rfl, ⟨hj, ?_, by rw [hup]; simpa using hs5, hg, ?_, by simp, by simp; omega, hU5⟩⟩ (by omega)
            · rw [take_nextU l j hj, List.foldl_append, I.fold, List.foldl_cons, hstep]; rfl
            · intro n hn
              rw [hup] at hn
              simp only [List.mem_append, List.mem_singleton] at hn
              rcases hn with hn | rfl
              · exact hsm n hn
              · exact hxs
        | true =>
          obtain ⟨front, x, hrs⟩ : ∃ front x, rs = front ++ [x] := ⟨rs.dropLast, rs.getLast (I.ne rfl), (List.dropLast_concat_getLast (I.ne rfl)).symm⟩
          subst hrs
          obtain ⟨g, o, cap, rfl, hcap⟩ := I.sl.some_ (by simp)
          have hs5 := I.sl
          have hg := I.own
          have hU5 := hU
          have hsm : ∀ n ∈ front, n < 17592186044416 := fun n hn => I.small n (by simp [hn])
          have hxs : x < 17592186044416 := I.small x (by simp)
          have hfl : front.length ≤ j := by simp at hlenj; omega
          obtain ⟨w5, rfl⟩ : ∃ w5, w5 = w1 := ⟨w1, rfl⟩
          have hstep : numStep (true, front ++ [x]) (l.getD j 0) = (true, front ++ [upd9 x (l.getD j 0)]) := by
            unfold numStep
            rw [if_pos hd]
            have : (front ++ [x]).getD ((front ++ [x]).length - 1) 0 = x := by simp [List.getD]
            simp only [if_true]
            rw [this]
            simp
          have hlen : (front ++ [x]).length = front.length + 1 := by simp
          have hcell : ∀ w', w' = w5 ∨ w' = w5.drew → w'.cell? ⟨g, o + front.length * 1, none⟩ = some (u64V x) := by
            have h1 := hs5.get rfl front.length (by simp)
            have h2 : (front ++ [x])[front.length] = x := by simp
            rw [h2] at h1
            rintro w' (rfl | rfl)
            · exact h1
            · exact h1
          refine len_sl ?_
          refine ar64 (by omega) ?_
          refine ix front.length (by omega) (by omega) ?_
          obtain ⟨xi, hxi⟩ : ∃ xi : Int, xi = (x : Int) := ⟨_, rfl⟩
          refine ld (v := .int .u64 xi) (by rw [hxi]; exact hcell _ (.inl rfl)) ?_
          refine cdd (fun hx => ?_) (fun hx => ?_)
          · refine draw_tail 14 (by decide +kernel) ?_
            refine q_ix front.length (by omega) (by omega) ?_
            refine q_ld (v := .int .u64 (x : Int)) (by rintro _ rfl; exact hcell _ (.inr rfl)) ?_
            refine q_arU (by omega) ?_
            refine rq (.int .u8 ((l.getD j 0).toNat : Int)) (fun _ _ => ixs j rfl (by rw [by8_size]; exact hj) ⟨by rw [by8_at], rfl⟩) ?_
            refine rq (.int .u64 ((l.getD j 0).toNat : Int)) (fun _ _ => cv (arU (by omega) ⟨rfl, rfl⟩)) ?_
            refine q_arU (by omega) ?_
            refine q_arU (by omega) ?_
            refine q_ix front.length (by omega) (by omega) ?_
            have hs6 : Sl w5.drew 109 1 _ _ _ := hs5.drew
            refine stS hs6 rfl (by omega) rfl fun w6 hs7 hu7 hz7 => ?_
            have hup : upd9 x (l.getD j 0) = 10 * x + ((l.getD j 0).toNat - 48) := if_pos (by omega)
            have hval : Value.int .u64 (10 * (x : Int) + ((l.getD j 0).toNat : Int) - 48) = u64V (upd9 x (l.getD j 0)) := by rw [hup, u64V]; congr 1; omega
            rw [hval, set_lastU] at hs7
            refine ar64 (by omega) ?_
            refine round_mk [_, .bool true, .int .i64 ((j + 1 : Nat) : Int)] (l.length - (j + 1)) rfl rfl ⟨j + 1, _, true, front ++ [upd9 x (l.getD j 0)], rfl, rfl, ⟨hj, ?_, by simpa using hs7, hg, ?_, by simp, by simp; omega, ?_⟩⟩ (by omega)
            · rw [take_nextU l j hj, List.foldl_append, I.fold, List.foldl_cons, hstep]; rfl
            · intro n hn
              simp only [List.mem_append, List.mem_singleton] at hn
              rcases hn with hn | rfl
              · exact hsm n hn
              · rw [hup]; omega
            · exact hU5.step (show Upd [g] w5 w6 from ⟨hu7.os, hu7.tape, hu7.output, hu7.size, hu7.block⟩) (by simpa using hg g rfl)
          · have hup : upd9 x (l.getD j 0) = x := if_neg (by omega)
            refine ar64 (by omega) ?_
            refine round_mk [_, .bool true, .int .i64 ((j + 1 : Nat) : Int)] (l.length - (j + 1)) rfl rfl ⟨j + 1, _, true, front ++ [upd9 x (l.getD j 0)], rfl, rfl, ⟨hj, ?_, by rw [hup]; simpa using hs5, hg, ?_, by simp, by simp; omega, hU5⟩⟩ (by omega)
            · rw [take_nextU l j hj, List.foldl_append, I.fold, List.foldl_cons, hstep]; rfl
            · intro n hn
              rw [hup] at hn
              simp only [List.mem_append, List.mem_singleton] at hn
              rcases hn with hn | rfl
              · exact hsm n hn
              · exact hxs
      · refine ar64 (by omega) ?_
        refine round_mk [v, .bool false, .int .i64 ((j + 1 : Nat) : Int)] (l.length - (j + 1)) rfl rfl ⟨j + 1, v, false, rs, rfl, rfl, ⟨hj, ?_, I.sl, I.own, I.small, by simp, by have := I.len; omega, I.up⟩⟩ (by omega)
        rw [take_nextU l j hj, List.foldl_append, I.fold, List.foldl_cons]
        have hnd : ¬ isD (l.getD j 0) = true := by rw [isD_iff]; omega
        unfold numStep
        rw [if_neg hnd]
        rfl
    · refine ar64 (by omega) ?_
      refine round_mk [v, .bool false, .int .i64 ((j + 1 : Nat) : Int)] (l.length - (j + 1)) rfl rfl ⟨j + 1, v, false, rs, rfl, rfl, ⟨hj, ?_, I.sl, I.own, I.small, by simp, by have := I.len; omega, I.up⟩⟩ (by omega)
      rw [take_nextU l j hj, List.foldl_append, I.fold, List.foldl_cons]
      have hnd : ¬ isD (l.getD j 0) = true := by rw [isD_iff]; omega
      unfold numStep
      rw [if_neg hnd]
      rfl
  · rw [by8_size] at hj
    have hj : j = l.length := by have := I.le; omega
    subst hj
    have hr : numRows l = rs := by unfold numRows; have := I.fold; rw [List.take_length] at this; rw [this]
    rw [hr]
    exact ⟨I.sl, I.small, I.own, I.up⟩
end Go.Proofs.YtlhbgnoghjendaaDoor
