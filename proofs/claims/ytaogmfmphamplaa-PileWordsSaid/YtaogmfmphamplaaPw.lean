/- The law PileWords: piles of strings, piles that aren't there; its walk. -/
import Derived.Test.YtaogmfmphamplaaPile
import Derived.Test.YtaogmfmphamplaaV13
namespace Go.Proofs.Ytaogmfmphamplaa
open Go.RowKit
attribute [local irreducible] Instr.loadAt Instr.storeAt Instr.fieldAt Instr.indexAt Instr.sliceAt Instr.buildSlice Instr.box Instr.alloc Builtin.append_ Builtin.len_ Builtin.min_ Builtin.max_ Calls Instr.build Instr.makeSlice binSem convert Instr.index Instr.range Instr.next

structure IsPS (w : World) (p : Nat) (v : Value) (l : List ByteArray) : Prop where
  blk : Blk w p 80 #[v]
  sl : Sl w 9 1 v l.length (l.map Value.string)
theorem push0 (s : ByteArray) (w : World) : Fn Try.prog 54 #[.pointer none, .string s] w fun _ w' => w' = w := by
  refine fn_enter Try.func54 rfl rfl ?_
  refine ptr_ne0 ?_
  exact rfl
theorem len0 (w : World) : Fn Try.prog 58 #[.pointer none] w fun r w' => r = .int .i64 0 ∧ w' = w := by
  refine fn_enter Try.func58 rfl rfl ?_
  refine ptr_eq0 ?_
  exact ⟨rfl, rfl⟩
theorem at0 (i : Int) (w : World) : Fn Try.prog 57 #[.pointer none, .int .i64 i] w fun r w' => (∃ e : ByteArray, e = ⟨#[]⟩ ∧ r = .tuple #[.string e, .bool false]) ∧ w' = w := by
  refine fn_enter Try.func57 rfl rfl ?_
  refine ptr_eq0 ?_
  exact ⟨⟨_, rfl, rfl⟩, rfl⟩
theorem pop0 (w : World) : Fn Try.prog 55 #[.pointer none] w fun r w' => (∃ e : ByteArray, e = ⟨#[]⟩ ∧ r = .tuple #[.string e, .bool false]) ∧ w' = w := by
  refine fn_enter Try.func55 rfl rfl ?_
  refine cl (len0 w) ?_
  rintro _ w ⟨rfl, rfl⟩
  refine val (-1) rfl ?_
  refine cl (at0 _ w) ?_
  rintro _ w ⟨⟨e, he, rfl⟩, rfl⟩
  exact ⟨⟨e, he, rfl⟩, rfl⟩
theorem shift0 (w : World) : Fn Try.prog 56 #[.pointer none] w fun r w' => (∃ e : ByteArray, e = ⟨#[]⟩ ∧ r = .tuple #[.string e, .bool false]) ∧ w' = w := by
  refine fn_enter Try.func56 rfl rfl ?_
  refine cl (at0 _ w) ?_
  rintro _ w ⟨⟨e, he, rfl⟩, rfl⟩
  exact ⟨⟨e, he, rfl⟩, rfl⟩
theorem has0 (s : ByteArray) (w : World) : Fn Try.prog 59 #[.pointer none, .string s] w fun r w' => r = .bool false ∧ w' = w := by
  refine fn_enter Try.func59 rfl rfl ?_
  refine ptr_ne0 ?_
  exact ⟨rfl, rfl⟩
theorem keep0 (f : Value) (w : World) : Fn Try.prog 60 #[.pointer none, f] w fun r w' => r = .int .i64 0 ∧ w' = w := by
  refine fn_enter Try.func60 rfl rfl ?_
  refine ptr_eq0 ?_
  exact ⟨rfl, rfl⟩
theorem list0 (w : World) : Fn Try.prog 62 #[.pointer none] w fun r w' => r = .slice none 0 0 ∧ w' = w := by
  refine fn_enter Try.func62 rfl rfl ?_
  refine ptr_eq0 ?_
  exact ⟨rfl, rfl⟩
theorem fn_nil {w : World} {x y : Operand} : (binSem .eql 86 x y .nilFunc .nilFunc).run Try.prog w = .ok (.bool true) w := bin_of rfl (by kernel_rfl)
theorem keepnil (p : Nat) (w : World) : Fn Try.prog 60 #[.pointer (some ⟨p, 0, none⟩), .nilFunc] w fun r w' => r = .int .i64 0 ∧ w' = w := by
  refine fn_enter Try.func60 rfl rfl ?_
  refine ptr_eq ?_
  refine rn _ _ fn_nil ?_
  exact ⟨rfl, rfl⟩
theorem lenS {w : World} {p : Nat} {v : Value} {l : List ByteArray} (h : IsPS w p v l) : Fn Try.prog 58 #[.pointer (some ⟨p, 0, none⟩)] w fun r w' => r = .int .i64 l.length ∧ w' = w := by
  obtain ⟨a, cap, rfl, -⟩ := h.sl.form
  refine fn_enter Try.func58 rfl rfl ?_
  refine ptr_eq ?_
  refine fa ?_
  refine ldb h.blk rfl ?_
  refine len_sl ?_
  exact ⟨rfl, rfl⟩
theorem pushS {w : World} {p : Nat} {v : Value} {l : List ByteArray} (h : IsPS w p v l) (x : ByteArray) (hl : l.length < 4294967296) :
    Fn Try.prog 54 #[.pointer (some ⟨p, 0, none⟩), .string x] w fun _ w' => ∃ v', IsPS w' p v' (l ++ [x]) ∧ Upd (p :: v.ownBlock.toList) w w' ∧ ∀ k, v'.ownBlock = some k → v.ownBlock = some k ∨ w.heap.size ≤ k := by
  refine fn_enter Try.func54 rfl rfl ?_
  refine ptr_ne ?_
  refine fa ?_
  refine ldb h.blk rfl ?_
  refine bs #[.string x] (fun _ => by kernel_rfl) fun w1 hb1 hu1 hs1 => ?_
  have hne := h.sl.blk_ne h.blk (by decide)
  refine apg (h.sl.upd hu1 (by simp)) hb1 rfl rfl (by decide) (by simp only [maxLen]; omega) (by omega) fun v2 w2 hs2 hG2 => ?_
  have hb2 := hG2.blk (h.blk.upd hu1 (by simp)) hne
  have hz1 := hu1.size
  have hpl := h.blk.lt
  have hvp : v2.ownBlock ≠ some p := by
    intro he
    rcases hG2.own p he with h1 | h1
    · exact hne h1
    · omega
  refine fa ?_
  obtain ⟨a2, c2, rfl, -⟩ := hs2.form
  refine st hb2 (by simp) rfl fun w3 hb3 hu3 hs3 => ?_
  refine ⟨_, ⟨hb3, ?_⟩, ?_, ?_⟩
  · have := hs2.upd hu3 (fun g hg => by simp; intro e; subst e; exact hvp hg)
    simpa using this
  · exact (((hu1.mono (by simp)).trans (hG2.up.mono (by intro k hk; simp at hk ⊢; exact .inr hk)))).trans (hu3.mono (by simp))
  · intro k hk
    rcases hG2.own k hk with h1 | h1
    · exact .inl h1
    · right; omega
def hasS (l : List ByteArray) (s : ByteArray) : Bool := l.any fun x => x.toList == s.toList
theorem indexS {w : World} {v : Value} {l : List ByteArray} (h : Sl w 9 1 v l.length (l.map Value.string)) (s : ByteArray) : Fn Try.prog 80 #[v, .string s] w fun r w' => (∃ i : Int, r = .int .i64 i ∧ decide (i ≥ 0) = hasS l s) ∧ w' = w := by
  have hle := h.le
  simp only [maxLen] at hle
  obtain ⟨a, cap, rfl, -⟩ := h.form
  refine fn_enter Try.func80 rfl rfl ?_
  refine len_sl ?_
  refine loop_rule [0, 1, 7] [8] (fun vs w' m => ∃ j : Nat, vs = [.int .i64 j] ∧ j ≤ l.length ∧ m = l.length - j ∧ hasS (l.take j) s = false ∧ w' = w) rfl [.int .i64 0] l.length rfl ⟨0, rfl, by omega, rfl, rfl, rfl⟩ ?_
  rintro _ w1 m ⟨j, rfl, hj, rfl, ht, rfl⟩
  refine cd (fun hlt => ?_) (fun hlt => ?_)
  · have hlt : j < l.length := by omega
    obtain ⟨b, o, c2, he, -⟩ := h.some_ (by omega)
    cases he
    refine ix j rfl hlt ?_
    refine ld (v := .string (l.getD j ⟨#[]⟩)) (by rw [h.get rfl j hlt]; simp [List.getD, hlt]) ?_
    have htk : l.take (j + 1) = l.take j ++ [l.getD j ⟨#[]⟩] := by rw [List.take_add_one]; simp [List.getD, hlt]
    refine cd (fun heq => ?_) (fun heq => ?_)
    · refine ⟨⟨(j : Int), rfl, ?_⟩, rfl⟩
      have : hasS l s = true := by
        unfold hasS
        rw [List.any_eq_true]
        exact ⟨l.getD j ⟨#[]⟩, by simp [List.getD, hlt], by simp [heq]⟩
      rw [this]
      exact decide_eq_true (by omega)
    · refine ar64 (by omega) ?_
      refine round_mk [.int .i64 ((j + 1 : Nat) : Int)] (l.length - (j + 1)) rfl rfl ⟨j + 1, rfl, by omega, rfl, ?_, rfl⟩ (by omega)
      unfold hasS at *
      rw [htk, List.any_append, ht]
      simp only [List.any_cons, List.any_nil, Bool.or_false, Bool.false_or, beq_eq_false_iff_ne]
      exact fun e => heq e.symm
  · have hj : j = l.length := by omega
    subst hj
    rw [List.take_length] at ht
    exact ⟨⟨-1, rfl, by rw [ht]; rfl⟩, rfl⟩
theorem hasS_c {w : World} {p : Nat} {v : Value} {l : List ByteArray} (h : IsPS w p v l) (s : ByteArray) : Fn Try.prog 59 #[.pointer (some ⟨p, 0, none⟩), .string s] w fun r w' => r = .bool (hasS l s) ∧ w' = w := by
  have hcont : Fn Try.prog 72 #[v, .string s] w fun r w' => r = .bool (hasS l s) ∧ w' = w := by
    refine fn_enter Try.func72 rfl rfl ?_
    refine cl (indexS h.sl s) ?_
    rintro _ w ⟨⟨i, rfl, hi⟩, rfl⟩
    exact ⟨by rw [← hi]; rfl, rfl⟩
  refine fn_enter Try.func59 rfl rfl ?_
  refine ptr_ne ?_
  refine fa ?_
  refine ldb h.blk rfl ?_
  refine cl hcont ?_
  rintro _ w ⟨rfl, rfl⟩
  exact ⟨rfl, rfl⟩
set_option maxRecDepth 100000 in
theorem words_law {w : World} {v : Value} {l : List ByteArray} (hv : RdV w v (l.map .string)) (s : ByteArray) : Fn Try.prog 13 #[v, .string s] w fun r w' => r = .bool true ∧ Upd [] w w' := by
  obtain ⟨a, ca, rfl, -⟩ := hv.form
  refine fn_enter Try.func13 rfl rfl ?_
  refine len_sl ?_
  refine cd (fun hbig => ?_) (fun hbig => ?_)
  · refine cl (lives04 w) ?_
    rintro _ w1 ⟨rfl, hlive⟩
    exact ⟨rfl, (Upd.refl [] w).trans hlive⟩
  have hbig : l.length ≤ 1000 := by simp at hbig; omega
  refine al #[.slice none 0 0] (fun _ => by kernel_rfl) fun w1 hb1 hu1 hs1 => ?_
  have h1 : IsPS w1 w.heap.size (.slice none 0 0) [] := ⟨hb1, Sl.nil_ _ _ _⟩
  refine cl (push0 s w1) ?_
  rintro _ w1 rfl
  refine cl (pop0 w1) ?_
  rintro _ w1 ⟨⟨e1, he1, rfl⟩, rfl⟩
  refine cl (shift0 w1) ?_
  rintro _ w1 ⟨⟨e2, he2, rfl⟩, rfl⟩
  refine cl (at0 _ w1) ?_
  rintro _ w1 ⟨⟨e3, he3, rfl⟩, rfl⟩
  refine cN (fun h => h (by rw [he1])) ?_
  refine cN (fun h => h (by rw [he2])) ?_
  refine cl (len0 w1) ?_
  rintro _ w1 ⟨rfl, rfl⟩
  refine cl (has0 s w1) ?_
  rintro _ w1 ⟨rfl, rfl⟩
  refine cl (keep0 _ w1) ?_
  rintro _ w1 ⟨rfl, rfl⟩
  refine cl (list0 w1) ?_
  rintro _ w1 ⟨rfl, rfl⟩
  refine len_sl ?_
  refine cl (keepnil _ w1) ?_
  rintro _ w1 ⟨rfl, rfl⟩
  generalize hp : w.heap.size = p at *
  refine loop_rule [0, 1, 5] [13, 14] (fun vs w' m => ∃ (j : Nat) (pv : Value), vs = [.bool (hasS (l.take j) s), .int .i64 j] ∧ j ≤ l.length ∧ m = l.length - j ∧ IsPS w' p pv (l.take j) ∧ (∀ k, pv.ownBlock = some k → p ≤ k) ∧ Upd [] w w') rfl [.bool false, .int .i64 0] l.length rfl ⟨0, _, rfl, by omega, rfl, h1, by simp [Value.ownBlock], hu1⟩ ?_
  rintro _ w2 m ⟨j, pv, rfl, hj, rfl, I, ho, hU⟩
  refine len_sl ?_
  refine cd (fun hlt => ?_) (fun hlt => ?_)
  · have hlt : j < l.length := by simpa using hlt
    have hltm : j < (l.map Value.string).length := by simpa using hlt
    obtain ⟨b, o, c2, he, -⟩ := hv.some_ (by omega)
    cases he
    have hcell : ∀ w', Upd [] w w' → w'.cell? ⟨b, o + j * 1, none⟩ = some (.string (l.getD j ⟨#[]⟩)) := fun w' hw' => by
      rw [(hv.upd0 hw').at_ rfl j hltm]; simp [List.getD, hlt]
    refine ix j rfl hltm ?_
    refine ld (hcell _ hU) ?_
    refine cl (pushS I _ (by rw [List.length_take]; omega)) ?_
    rintro _ w3 ⟨pv', I', hu3, ho'⟩
    have hU3 := hU.step hu3 (by
      intro x hx
      simp only [List.mem_cons, Option.mem_toList, Option.mem_def] at hx
      rcases hx with rfl | hx
      · right; omega
      · right; have := ho x hx; omega)
    have htk : l.take (j + 1) = l.take j ++ [l.getD j ⟨#[]⟩] := by rw [List.take_add_one]; simp [List.getD, hlt]
    have hz := hU.size
    have hstep : hasS (l.take (j + 1)) s = (hasS (l.take j) s || ((l.getD j ⟨#[]⟩).toList == s.toList)) := by
      unfold hasS; rw [htk, List.any_append]; simp
    have hown : ∀ k, pv'.ownBlock = some k → p ≤ k := fun k hk => by
      rcases ho' k hk with h | h
      · exact ho k h
      · omega
    have hmk : IsPS w3 p pv' (l.take (j + 1)) := by rw [htk]; exact I'
    cases hb : hasS (l.take j) s with
    | true =>
      rw [hb] at hstep
      refine ar64 (by omega) ?_
      refine round_mk [.bool (hasS (l.take (j + 1)) s), .int .i64 ((j + 1 : Nat) : Int)] (l.length - (j + 1)) rfl (by rw [hstep]; rfl) ⟨j + 1, pv', rfl, by omega, rfl, hmk, hown, hU3⟩ (by omega)
    | false =>
      rw [hb, Bool.false_or] at hstep
      refine ix j rfl hltm ?_
      refine ld (hcell _ hU3) ?_
      refine ar64 (by omega) ?_
      refine round_mk [.bool (hasS (l.take (j + 1)) s), .int .i64 ((j + 1 : Nat) : Int)] (l.length - (j + 1)) rfl (by rw [hstep]; rfl) ⟨j + 1, pv', rfl, by omega, rfl, hmk, hown, hU3⟩ (by omega)
  · have hj : j = l.length := by simp at hlt; omega
    subst hj
    rw [List.take_length] at I ⊢
    refine cl (hasS_c I s) ?_
    rintro _ w2 ⟨rfl, rfl⟩
    refine bq ?_
    refine cY rfl ?_
    refine cl (lenS I) ?_
    rintro _ w2 ⟨rfl, rfl⟩
    refine len_sl ?_
    refine cY (by simp) ?_
    refine cl (lives04 w2) ?_
    rintro _ w3 ⟨rfl, hlive⟩
    exact ⟨rfl, (hU).trans hlive⟩
theorem PileWords_walk (w : World) (v : Value) (l : List ByteArray) (hv : RdV w v (l.map .string)) (s : ByteArray) (hs : s.size ≤ 140737488351232) :
    Calls Try.prog 13 #[v, .string s] w fun e w' => e = .returned (.bool true) ∧ Below w.heap.size w w' :=
  (words_law hv s).mono fun _ _ ⟨_, he, hv, hu⟩ => ⟨by rw [he, hv], hu.below⟩
end Go.Proofs.Ytaogmfmphamplaa
