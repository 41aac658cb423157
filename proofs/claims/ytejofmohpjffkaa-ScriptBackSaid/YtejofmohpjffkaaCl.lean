/- The laws CallCodes and CallTexts: their walks, and the contracts of the reference's texts. -/
import Derived.Test.YtejofmohpjffkaaCk
namespace Go.Proofs.Ytejofmohpjffkaa
open Go.RowKit
attribute [local irreducible] Instr.loadAt Instr.storeAt Instr.fieldAt Instr.indexAt Instr.sliceAt Instr.buildSlice Instr.box Instr.alloc Builtin.append_ Builtin.len_ Builtin.min_ Builtin.max_ Calls Instr.build Instr.makeSlice binSem convert Instr.index Instr.range Instr.next

theorem eq3 {w : World} (o k v : Int) {x y : Operand} : RunP Try.prog (binSem .eql 43 x y (.agg (c3 o k v)) (.agg (c3 o k v))) (fun v' w' => v' = .bool true ∧ w' = w) w :=
  aq rfl rfl ⟨by rw [eqCells_refl [.i .i64, .i .u32, .i .u32] _ rfl], rfl⟩
theorem eqa3 {w : World} (o k v : Int) {x y : Operand} : RunP Try.prog (binSem .eql 45 x y (.agg (c3 o k v)) (.agg (c3 o k v))) (fun v' w' => v' = .bool true ∧ w' = w) w :=
  aq rfl rfl ⟨by rw [eqCells_refl [.i .i64, .i .u32, .i .u32] _ rfl], rfl⟩
theorem dec_right (l : List Int) : rightCall (decR l).1 (decR l).2.1 (decR l).2.2 := by
  by_cases h0 : decO l = 0
  · rw [decR_yes h0]; exact .inl rfl
  · rw [decR_no h0]
    have : 0 ≤ decO l ∧ decO l < 3 := by unfold decO; omega
    exact .inr ⟨by show decO l = 1 ∨ decO l = 2; omega, rfl, rfl⟩
set_option maxRecDepth 10000 in
theorem codes_law (v : Value) (l : List Int) (w : World) (hv : Bts w v l) : Fn Try.prog 7 #[v] w fun r w' => r = .bool true ∧ Upd [] w w' := by
  obtain ⟨a, cap, rfl, hcap⟩ := hv.form
  refine fn_enter Try.func7 rfl rfl ?_
  refine len_sl ?_
  refine cd (fun h => ?_) (fun h => ?_)
  · refine cl (lives_c w) ?_
    rintro _ w1 ⟨rfl, hu1⟩
    exact ⟨rfl, hu1⟩
  refine cl (decode_c _ l w hv) ?_
  rintro _ w1 ⟨rfl, hu1⟩
  refine al z3 (fun _ => by kernel_rfl) fun w2 hb2 hu2 hs2 => ?_
  refine stw hb2 rfl rfl rfl fun w3 hb3 hu3 hs3 => ?_
  have z1 := hu1.size
  have hU := (hu1.trans hu2).step hu3 (by simp; omega)
  have hc : ∀ w', Upd [] w3 w' → Blk w' w1.heap.size 43 (c3 (decR l).1 (decR l).2.1 (decR l).2.2) := fun w' h => hb3.upd h (by simp)
  refine draw_all (fun w' => Upd [] w3 w') (by decide +kernel) (Upd.refl _ _).drew ?_
  refine rq (.agg (c3 (decR l).1 (decR l).2.1 (decR l).2.2)) (fun w' hw' => ldw (hc w' hw') rfl ⟨rfl, rfl⟩) ?_
  refine q_cl (.agg (c3 (decR l).1 (decR l).2.1 (decR l).2.2)) (fun w' hw' => (rdecode_c _ l w' (hv.upd (hU.trans hw'))).mono fun _ _ ⟨u, he, h1, h2⟩ => ⟨u, he, h1, hw'.trans h2⟩) ?_
  refine rq (.bool true) (fun _ _ => eq3 _ _ _) ?_
  refine rq (.agg (c3 (decR l).1 (decR l).2.1 (decR l).2.2)) (fun w' hw' => ldw (hc w' hw') rfl ⟨rfl, rfl⟩) ?_
  have hr := decide_eq_true (dec_right l)
  refine q_cl (.bool true) (fun w' hw' => (right_c26 _ _ _ w').mono fun _ _ ⟨u, he, h1, h2⟩ => ⟨u, he, by rw [h1, hr], hw'.trans h2⟩) ?_
  refine q_cl (.bool true) (fun w' hw' => (lives_c w').mono fun _ _ ⟨u, he, h1, h2⟩ => ⟨u, he, h1, hw'.trans h2⟩) ?_
  intro w9 hw9
  exact ⟨rfl, hU.trans hw9⟩
theorem CallCodes_walk (w : World) (v : Value) (ls : List (List Int)) (h : SlRows w w.heap.size [.u8] v ls) : Calls Try.prog 7 #[v] w fun e w' => e = .returned (.bool true) ∧ Below w.heap.size w w' :=
  (codes_law v _ w ⟨h.ints⟩).mono fun _ _ ⟨_, he, hv, hu⟩ => ⟨by rw [he, hv], hu.below⟩

set_option maxRecDepth 10000 in
theorem rshow_c (o : Int) (k v : Nat) (hk : k < 4294967296) (hv : v < 4294967296) (w : World) : Fn Try.prog 32 #[.agg (c3 o k v)] w fun r w' => r = .string (strOfNums (showL o k v)) ∧ Upd [] w w' := by
  refine fn_enter Try.func32 rfl rfl ?_
  refine bx fun w1 hb1 hu1 hs1 => ?_
  have hb1 : Blk w1 w.heap.size 43 (c3 o k v) := hb1
  refine ldw hb1 rfl ?_
  refine cl (right_c24 o k v _) ?_
  rintro _ w2 ⟨rfl, hu2⟩
  have hb2 := hb1.upd hu2 (by simp)
  have hU2 := hu1.trans hu2
  unfold showL
  refine cd (fun h => ?_) (fun h => ?_)
  · have h : ¬ rightCall o k v := h
    exact ⟨by rw [if_pos h]; rfl, hU2⟩
  have h : rightCall o k v := by simpa using h
  rw [if_neg (fun hn => hn h)]
  refine fa ?_
  refine ldb hb2 rfl ?_
  refine cd (fun h1 => ?_) (fun h1 => ?_)
  · exact ⟨by rw [if_pos h1]; rfl, hU2⟩
  rw [if_neg h1]
  refine cd (fun h2 => ?_) (fun h2 => ?_)
  · exact ⟨by rw [if_pos h2]; rfl, hU2⟩
  rw [if_neg h2]
  have l1 : (decB k).length ≤ 10 := decB_len 9 k (by omega)
  have l2 : (decB v).length ≤ 10 := decB_len 9 v (by omega)
  refine draw_all (fun w' => Upd [] w2 w') (by decide +kernel) (Upd.refl _ _).drew ?_
  refine q_fa ?_
  refine q_ld (v := .int .u32 k) (fun w' hw' => (hb2.upd hw' (by simp)).cell 1) ?_
  refine rq (.int .u64 (k : Int)) (fun _ _ => cv (arU (by omega) ⟨rfl, rfl⟩)) ?_
  refine q_cl (.string (strOfNums (decB k))) (fun w' hw' => (rdigits_c k (by omega) w').mono fun _ _ ⟨u, he, h1, h2⟩ => ⟨u, he, h1, by rw [h2]; exact hw'⟩) ?_
  refine rq (.string (strOfNums ([105, 110, 115, 101, 114, 116, 32] ++ decB k))) (fun w' _ => sadd (a := strOfNums [105, 110, 115, 101, 114, 116, 32]) (by rw [strOfNums_size, strOfNums_size]; simp; omega) ⟨by rw [str_add], rfl⟩) ?_
  refine rq (.string (strOfNums ([105, 110, 115, 101, 114, 116, 32] ++ decB k ++ [32]))) (fun w' _ => sadd (b := strOfNums [32]) (by rw [strOfNums_size, strOfNums_size]; simp; omega) ⟨by rw [str_add], rfl⟩) ?_
  refine q_fa ?_
  refine q_ld (v := .int .u32 v) (fun w' hw' => (hb2.upd hw' (by simp)).cell 2) ?_
  refine rq (.int .u64 (v : Int)) (fun _ _ => cv (arU (by omega) ⟨rfl, rfl⟩)) ?_
  refine q_cl (.string (strOfNums (decB v))) (fun w' hw' => (rdigits_c v (by omega) w').mono fun _ _ ⟨u, he, h1, h2⟩ => ⟨u, he, h1, by rw [h2]; exact hw'⟩) ?_
  refine rq (.string (strOfNums ([105, 110, 115, 101, 114, 116, 32] ++ decB k ++ [32] ++ decB v))) (fun w' _ => sadd (by rw [strOfNums_size, strOfNums_size]; simp; omega) ⟨by rw [str_add], rfl⟩) ?_
  intro w3 hw3
  exact ⟨rfl, hU2.trans hw3⟩

/-- an answer's text -/
def tellL (o : Int) (k v : Nat) : List Int :=
  if ¬ rightAns o k v then [63] else if o = 0 then [100, 111, 110, 101] else if o = 1 then [102, 117, 108, 108] else if o = 3 then [101, 109, 112, 116, 121] else decB k ++ [32] ++ decB v
set_option maxRecDepth 10000 in
theorem tell_c (o : Int) (k v : Nat) (hk : k < 4294967296) (hv : v < 4294967296) (w : World) : Fn Try.prog 33 #[.agg (c3 o k v)] w fun r w' => r = .string (strOfNums (tellL o k v)) ∧ Upd [] w w' := by
  refine fn_enter Try.func33 rfl rfl ?_
  refine bx fun w1 hb1 hu1 hs1 => ?_
  have hb1 : Blk w1 w.heap.size 45 (c3 o k v) := hb1
  refine ldw hb1 rfl ?_
  refine cl (right_c54 o k v _) ?_
  rintro _ w2 ⟨rfl, hu2⟩
  have hb2 := hb1.upd hu2 (by simp)
  have hU2 := hu1.trans hu2
  unfold tellL
  refine cd (fun h => ?_) (fun h => ?_)
  · have h : ¬ rightAns o k v := h
    exact ⟨by rw [if_pos h]; rfl, hU2⟩
  have h : rightAns o k v := by simpa using h
  rw [if_neg (fun hn => hn h)]
  refine fa ?_
  refine ldb hb2 rfl ?_
  refine cd (fun h1 => ?_) (fun h1 => ?_)
  · exact ⟨by rw [if_pos h1]; rfl, hU2⟩
  rw [if_neg h1]
  refine cd (fun h2 => ?_) (fun h2 => ?_)
  · exact ⟨by rw [if_pos h2]; rfl, hU2⟩
  rw [if_neg h2]
  refine cd (fun h3 => ?_) (fun h3 => ?_)
  · exact ⟨by rw [if_pos h3]; rfl, hU2⟩
  rw [if_neg h3]
  have l1 : (decB k).length ≤ 10 := decB_len 9 k (by omega)
  have l2 : (decB v).length ≤ 10 := decB_len 9 v (by omega)
  refine draw_all (fun w' => Upd [] w2 w') (by decide +kernel) (Upd.refl _ _).drew ?_
  refine q_fa ?_
  refine q_ld (v := .int .u32 k) (fun w' hw' => (hb2.upd hw' (by simp)).cell 1) ?_
  refine q_cl (.string (strOfNums (decB k))) (fun w' hw' => (digits_c k hk w').mono fun _ _ ⟨u, he, h1, h2⟩ => ⟨u, he, h1, hw'.trans h2⟩) ?_
  refine rq (.string (strOfNums (decB k ++ [32]))) (fun w' _ => sadd (b := strOfNums [32]) (by rw [strOfNums_size, strOfNums_size]; simp; omega) ⟨by rw [str_add], rfl⟩) ?_
  refine q_fa ?_
  refine q_ld (v := .int .u32 v) (fun w' hw' => (hb2.upd hw' (by simp)).cell 2) ?_
  refine q_cl (.string (strOfNums (decB v))) (fun w' hw' => (digits_c v hv w').mono fun _ _ ⟨u, he, h1, h2⟩ => ⟨u, he, h1, hw'.trans h2⟩) ?_
  refine rq (.string (strOfNums (decB k ++ [32] ++ decB v))) (fun w' _ => sadd (by rw [strOfNums_size, strOfNums_size]; simp; omega) ⟨by rw [str_add], rfl⟩) ?_
  intro w3 hw3
  exact ⟨rfl, hU2.trans hw3⟩
set_option maxRecDepth 10000 in
theorem rtell_c (o : Int) (k v : Nat) (hk : k < 4294967296) (hv : v < 4294967296) (w : World) : Fn Try.prog 34 #[.agg (c3 o k v)] w fun r w' => r = .string (strOfNums (tellL o k v)) ∧ Upd [] w w' := by
  refine fn_enter Try.func34 rfl rfl ?_
  refine bx fun w1 hb1 hu1 hs1 => ?_
  have hb1 : Blk w1 w.heap.size 45 (c3 o k v) := hb1
  refine ldw hb1 rfl ?_
  refine cl (may_c25 o k v _) ?_
  rintro _ w2 ⟨rfl, hu2⟩
  have hb2 := hb1.upd hu2 (by simp)
  have hU2 := hu1.trans hu2
  unfold tellL
  refine cd (fun h => ?_) (fun h => ?_)
  · have h : ¬ rightAns o k v := h
    exact ⟨by rw [if_pos h]; rfl, hU2⟩
  have h : rightAns o k v := by simpa using h
  rw [if_neg (fun hn => hn h)]
  refine fa ?_
  refine ldb hb2 rfl ?_
  refine cd (fun h1 => ?_) (fun h1 => ?_)
  · exact ⟨by rw [if_pos h1]; rfl, hU2⟩
  rw [if_neg h1]
  refine cd (fun h2 => ?_) (fun h2 => ?_)
  · exact ⟨by rw [if_pos h2]; rfl, hU2⟩
  rw [if_neg h2]
  refine cd (fun h3 => ?_) (fun h3 => ?_)
  · exact ⟨by rw [if_pos h3]; rfl, hU2⟩
  rw [if_neg h3]
  have l1 : (decB k).length ≤ 10 := decB_len 9 k (by omega)
  have l2 : (decB v).length ≤ 10 := decB_len 9 v (by omega)
  refine draw_all (fun w' => Upd [] w2 w') (by decide +kernel) (Upd.refl _ _).drew ?_
  refine q_fa ?_
  refine q_ld (v := .int .u32 k) (fun w' hw' => (hb2.upd hw' (by simp)).cell 1) ?_
  refine rq (.int .u64 (k : Int)) (fun _ _ => cv (arU (by omega) ⟨rfl, rfl⟩)) ?_
  refine q_cl (.string (strOfNums (decB k))) (fun w' hw' => (rdigits_c k (by omega) w').mono fun _ _ ⟨u, he, h1, h2⟩ => ⟨u, he, h1, by rw [h2]; exact hw'⟩) ?_
  refine rq (.string (strOfNums (decB k ++ [32]))) (fun w' _ => sadd (b := strOfNums [32]) (by rw [strOfNums_size, strOfNums_size]; simp; omega) ⟨by rw [str_add], rfl⟩) ?_
  refine q_fa ?_
  refine q_ld (v := .int .u32 v) (fun w' hw' => (hb2.upd hw' (by simp)).cell 2) ?_
  refine rq (.int .u64 (v : Int)) (fun _ _ => cv (arU (by omega) ⟨rfl, rfl⟩)) ?_
  refine q_cl (.string (strOfNums (decB v))) (fun w' hw' => (rdigits_c v (by omega) w').mono fun _ _ ⟨u, he, h1, h2⟩ => ⟨u, he, h1, by rw [h2]; exact hw'⟩) ?_
  refine rq (.string (strOfNums (decB k ++ [32] ++ decB v))) (fun w' _ => sadd (by rw [strOfNums_size, strOfNums_size]; simp; omega) ⟨by rw [str_add], rfl⟩) ?_
  intro w3 hw3
  exact ⟨rfl, hU2.trans hw3⟩

theorem c3n {l : List Int} (h : Fits [.i64, .u32, .u32] l) : ∃ (o : Int) (k v : Nat), l = [o, (k : Int), (v : Int)] ∧ k < 4294967296 ∧ v < 4294967296 := by
  obtain ⟨o, k, v, rfl⟩ := c3_of h
  have h1 := h.2 1 .u32 k rfl rfl
  have h2 := h.2 2 .u32 v rfl rfl
  simp only [Lit.wf] at h1 h2
  have h1 : IntKind.u32.min ≤ k ∧ k ≤ IntKind.u32.max := by simpa using h1
  have h2 : IntKind.u32.min ≤ v ∧ v ≤ IntKind.u32.max := by simpa using h2
  have h1 : (0 : Int) ≤ k ∧ k ≤ 4294967295 := h1
  have h2 : (0 : Int) ≤ v ∧ v ≤ 4294967295 := h2
  obtain ⟨k, rfl⟩ := Int.eq_ofNat_of_zero_le h1.1
  obtain ⟨v, rfl⟩ := Int.eq_ofNat_of_zero_le h2.1
  exact ⟨o, k, v, rfl, by omega, by omega⟩
set_option maxRecDepth 10000 in
theorem texts_law (o : Int) (k v : Nat) (hk : k < 4294967296) (hv : v < 4294967296) (p : Int) (q r : Nat) (hq : q < 4294967296) (hr : r < 4294967296) (w : World) : Fn Try.prog 8 #[.agg (c3 o k v), .agg (c3 p q r)] w fun x w' => x = .bool true ∧ Upd [] w w' := by
  refine fn_enter Try.func8 rfl rfl ?_
  refine bx fun w1 hb1 hu1 hs1 => ?_
  refine bx fun w2 hb2 hu2 hs2 => ?_
  have hb1 : Blk w2 w.heap.size 43 (c3 o k v) := hb1.upd hu2 (by simp)
  have hb2 : Blk w2 w1.heap.size 45 (c3 p q r) := hb2
  have hU := hu1.trans hu2
  have hc : ∀ w', Upd [] w2 w' → Blk w' w.heap.size 43 (c3 o k v) := fun w' h => hb1.upd h (by simp)
  have ha : ∀ w', Upd [] w2 w' → Blk w' w1.heap.size 45 (c3 p q r) := fun w' h => hb2.upd h (by simp)
  refine draw_all (fun w' => Upd [] w2 w') (by decide +kernel) (Upd.refl _ _).drew ?_
  refine rq (.agg (c3 o k v)) (fun w' hw' => ldw (hc w' hw') rfl ⟨rfl, rfl⟩) ?_
  refine q_cl (.string (strOfNums (showL o k v))) (fun w' hw' => (show_c o k v hk hv w').mono fun _ _ ⟨u, he, h1, h2⟩ => ⟨u, he, h1, hw'.trans h2⟩) ?_
  refine rq (.agg (c3 o k v)) (fun w' hw' => ldw (hc w' hw') rfl ⟨rfl, rfl⟩) ?_
  refine q_cl (.string (strOfNums (showL o k v))) (fun w' hw' => (rshow_c o k v hk hv w').mono fun _ _ ⟨u, he, h1, h2⟩ => ⟨u, he, h1, hw'.trans h2⟩) ?_
  refine cY rfl ?_
  refine rq (.agg (c3 p q r)) (fun w' hw' => ldw (ha w' hw') rfl ⟨rfl, rfl⟩) ?_
  refine q_cl (.string (strOfNums (tellL p q r))) (fun w' hw' => (tell_c p q r hq hr w').mono fun _ _ ⟨u, he, h1, h2⟩ => ⟨u, he, h1, hw'.trans h2⟩) ?_
  refine rq (.agg (c3 p q r)) (fun w' hw' => ldw (ha w' hw') rfl ⟨rfl, rfl⟩) ?_
  refine q_cl (.string (strOfNums (tellL p q r))) (fun w' hw' => (rtell_c p q r hq hr w').mono fun _ _ ⟨u, he, h1, h2⟩ => ⟨u, he, h1, hw'.trans h2⟩) ?_
  refine cY rfl ?_
  refine q_cl (.bool true) (fun w' hw' => (lives_c w').mono fun _ _ ⟨u, he, h1, h2⟩ => ⟨u, he, h1, hw'.trans h2⟩) ?_
  intro w9 hw9
  exact ⟨rfl, hU.trans hw9⟩
theorem CallTexts_walk (w : World) (l1 : List Int) (hl1 : Fits [.i64, .u32, .u32] l1) (l2 : List Int) (hl2 : Fits [.i64, .u32, .u32] l2) :
    Calls Try.prog 8 #[.agg (mkInts [.i64, .u32, .u32] l1).toArray, .agg (mkInts [.i64, .u32, .u32] l2).toArray] w fun e w' => e = .returned (.bool true) ∧ Below w.heap.size w w' := by
  obtain ⟨o, k, v, rfl, hk, hv⟩ := c3n hl1
  obtain ⟨p, q, r, rfl, hq, hr⟩ := c3n hl2
  exact (texts_law o k v hk hv p q r hq hr w).mono fun _ _ ⟨_, he, hv, hu⟩ => ⟨by rw [he, hv], hu.below⟩
end Go.Proofs.Ytejofmohpjffkaa
