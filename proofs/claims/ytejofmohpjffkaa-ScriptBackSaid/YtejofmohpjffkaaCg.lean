/- Contracts of the calls' functions: what is read and shown. -/
import Derived.Test.YtejofmohpjffkaaCe
namespace Go.Proofs.Ytejofmohpjffkaa
open Go.RowKit
attribute [local irreducible] Instr.loadAt Instr.storeAt Instr.fieldAt Instr.indexAt Instr.sliceAt Instr.buildSlice Instr.box Instr.alloc Builtin.append_ Builtin.len_ Builtin.min_ Builtin.max_ Calls Instr.build Instr.makeSlice binSem convert Instr.index Instr.range Instr.next

def z3 : Array Value := #[.int .i64 0, .int .u32 0, .int .u32 0]
def s_done : List UInt8 := [100, 111, 110, 101]
def s_full : List UInt8 := [102, 117, 108, 108]
def s_empty : List UInt8 := [101, 109, 112, 116, 121]
/-- an answer that is read -/
def readR (l : List UInt8) : Option (Int × Int × Int) :=
  if l = s_done then some (0, 0, 0) else if l = s_full then some (1, 0, 0) else if l = s_empty then some (3, 0, 0)
  else (pairOf l).map fun p => (2, (p.1 : Int), (p.2 : Int))
def outR (x : Option (Int × Int × Int)) : Value :=
  match x with
  | none => .tuple #[.agg (c3 0 0 0), .int .i64 8]
  | some (o, k, v) => .tuple #[.agg (c3 o k v), .int .i64 0]
theorem eqs (l : List UInt8) (a : List UInt8) : ((by8 l).toList == (ByteArray.mk a.toArray).toList) = decide (l = a) := by
  rw [by8_list, ByteArray.toList_eq]
  show (l == a) = _
  by_cases h : l = a <;> simp [h]
set_option maxRecDepth 10000 in
theorem read_c (l : List UInt8) (hl : l.length ≤ 9223372036854775806) (w : World) : Fn Try.prog 36 #[.string (by8 l)] w fun r w' => r = outR (readR l) ∧ Upd [] w w' := by
  refine fn_enter Try.func36 rfl rfl ?_
  refine al z3 (fun _ => by kernel_rfl) fun w1 hb1 hu1 hs1 => ?_
  have done : ∀ (o k v : Int) (w2 : World), Blk w2 w.heap.size 45 (c3 o k v) → True := fun _ _ _ _ _ => trivial
  refine cd (fun h => ?_) (fun h0 => ?_)
  · rw [by8_list, ByteArray.toList_eq] at h
    have h : l = s_done := h
    refine bd (c3 0 0 0) (fun _ => by kernel_rfl) ?_
    refine stw hb1 rfl rfl rfl fun w2 hb2 hu2 hs2 => ?_
    refine rlw hb2 rfl ?_
    refine ⟨?_, hu1.step hu2 (by simp)⟩
    subst h
    rfl
  have h0 : l ≠ s_done := by rw [by8_list, ByteArray.toList_eq] at h0; exact h0
  refine cd (fun h => ?_) (fun h1 => ?_)
  · rw [by8_list, ByteArray.toList_eq] at h
    have h : l = s_full := h
    refine bd (c3 1 0 0) (fun _ => by kernel_rfl) ?_
    refine stw hb1 rfl rfl rfl fun w2 hb2 hu2 hs2 => ?_
    refine rlw hb2 rfl ?_
    refine ⟨?_, hu1.step hu2 (by simp)⟩
    subst h
    rfl
  have h1 : l ≠ s_full := by rw [by8_list, ByteArray.toList_eq] at h1; exact h1
  refine cd (fun h => ?_) (fun h2 => ?_)
  · rw [by8_list, ByteArray.toList_eq] at h
    have h : l = s_empty := h
    refine bd (c3 3 0 0) (fun _ => by kernel_rfl) ?_
    refine stw hb1 rfl rfl rfl fun w2 hb2 hu2 hs2 => ?_
    refine rlw hb2 rfl ?_
    refine ⟨?_, hu1.step hu2 (by simp)⟩
    subst h
    rfl
  have h2 : l ≠ s_empty := by rw [by8_list, ByteArray.toList_eq] at h2; exact h2
  refine cl (pair_c l hl w1) ?_
  rintro _ w2 ⟨rfl, hu2⟩
  have hr2 := hb1.upd hu2 (by simp)
  have hU2 := hu1.trans hu2
  unfold readR
  rw [if_neg h0, if_neg h1, if_neg h2]
  unfold pairV
  cases hp : pairOf l with
  | none =>
    refine bd (c3 0 0 0) (fun _ => by kernel_rfl) ?_
    refine stw hr2 rfl rfl rfl fun w3 hb3 hu3 hs3 => ?_
    refine rlw hb3 rfl ?_
    exact ⟨rfl, hU2.step hu3 (by simp)⟩
  | some p =>
    obtain ⟨a, b⟩ := p
    refine bd (c3 2 (a : Int) (b : Int)) (fun _ => by kernel_rfl) ?_
    refine stw hr2 rfl rfl rfl fun w3 hb3 hu3 hs3 => ?_
    refine rlw hb3 rfl ?_
    exact ⟨rfl, hU2.step hu3 (by simp)⟩

def t_ins : List Int := [105, 110, 115, 101, 114, 116, 32]
/-- a call's text -/
def showL (o : Int) (k v : Nat) : List Int :=
  if ¬ rightCall o k v then [63] else if o = 1 then [100, 101, 108, 101, 116, 101, 109, 105, 110] else if o = 2 then [112, 101, 101, 107, 109, 105, 110] else [105, 110, 115, 101, 114, 116, 32] ++ decB k ++ [32] ++ decB v
set_option maxRecDepth 10000 in
theorem show_c (o : Int) (k v : Nat) (hk : k < 4294967296) (hv : v < 4294967296) (w : World) : Fn Try.prog 31 #[.agg (c3 o k v)] w fun r w' => r = .string (strOfNums (showL o k v)) ∧ Upd [] w w' := by
  refine fn_enter Try.func31 rfl rfl ?_
  refine bx fun w1 hb1 hu1 hs1 => ?_
  have hb1 : Blk w1 w.heap.size 43 (c3 o k v) := hb1
  refine ldw hb1 rfl ?_
  refine cl (right_c26 o k v _) ?_
  rintro _ w2 ⟨rfl, hu2⟩
  have hb2 := hb1.upd hu2 (by simp)
  have hU2 := hu1.trans hu2
  unfold showL
  refine cd (fun h => ?_) (fun h => ?_)
  · have h : ¬ rightCall o k v := h
    exact ⟨by rw [if_pos h]; rfl, hU2⟩
  have h : rightCall o k v := by simpa using h
  rw [if_neg (fun hn => hn h)]
  refine fa ?_
  refine ldb hb2 rfl ?_
  refine cd (fun h1 => ?_) (fun h1 => ?_)
  · exact ⟨by rw [if_pos h1]; rfl, hU2⟩
  rw [if_neg h1]
  refine fa ?_
  refine ldb hb2 rfl ?_
  refine cd (fun h2 => ?_) (fun h2 => ?_)
  · exact ⟨by rw [if_pos h2]; rfl, hU2⟩
  rw [if_neg h2]
  have l1 : (decB k).length ≤ 10 := decB_len 9 k (by omega)
  have l2 : (decB v).length ≤ 10 := decB_len 9 v (by omega)
  refine draw_all (fun w' => Upd [] w2 w') (by decide +kernel) (Upd.refl _ _).drew ?_
  refine q_fa ?_
  refine q_ld (v := .int .u32 k) (fun w' hw' => (hb2.upd hw' (by simp)).cell 1) ?_
  refine q_cl (.string (strOfNums (decB k))) (fun w' hw' => (digits_c k hk w').mono fun _ _ ⟨u, he, h1, h2⟩ => ⟨u, he, h1, hw'.trans h2⟩) ?_
  refine rq (.string (strOfNums ([105, 110, 115, 101, 114, 116, 32] ++ decB k))) (fun w' _ => sadd (a := strOfNums [105, 110, 115, 101, 114, 116, 32]) (by rw [strOfNums_size, strOfNums_size]; simp; omega) ⟨by rw [str_add], rfl⟩) ?_
  refine rq (.string (strOfNums ([105, 110, 115, 101, 114, 116, 32] ++ decB k ++ [32]))) (fun w' _ => sadd (b := strOfNums [32]) (by rw [strOfNums_size, strOfNums_size]; simp; omega) ⟨by rw [str_add], rfl⟩) ?_
  refine q_fa ?_
  refine q_ld (v := .int .u32 v) (fun w' hw' => (hb2.upd hw' (by simp)).cell 2) ?_
  refine q_cl (.string (strOfNums (decB v))) (fun w' hw' => (digits_c v hv w').mono fun _ _ ⟨u, he, h1, h2⟩ => ⟨u, he, h1, hw'.trans h2⟩) ?_
  refine rq (.string (strOfNums ([105, 110, 115, 101, 114, 116, 32] ++ decB k ++ [32] ++ decB v))) (fun w' _ => sadd (by rw [strOfNums_size, strOfNums_size]; simp; omega) ⟨by rw [str_add], rfl⟩) ?_
  intro w3 hw3
  exact ⟨rfl, hU2.trans hw3⟩
end Go.Proofs.Ytejofmohpjffkaa
