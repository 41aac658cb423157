/- The walk of the law MemPairs. -/
import Derived.Test.YtjninopakpfklaaMemPairs
namespace Go.Proofs.Ytjninopakpfklaa
open Go.RowKit
attribute [local irreducible] Instr.loadAt Instr.storeAt Instr.fieldAt Instr.indexAt Instr.sliceAt Instr.buildSlice Instr.box Instr.alloc Builtin.append_ Builtin.len_ Calls Instr.build Instr.makeSlice binSem

def partW (l : List Int) (j : Nat) : List Int := l.take j ++ List.replicate (l.length - j) 0
theorem partW_length (l : List Int) (j : Nat) (h : j ≤ l.length) : (partW l j).length = l.length := by simp [partW]; omega
theorem partW_set (l : List Int) (j : Nat) (h : j < l.length) : (partW l j).set j (l.getD j 0) = partW l (j + 1) := by
  unfold partW
  rw [List.set_append_right _ _ (by simp; omega), show j - (l.take j).length = 0 by simp; omega, show l.length - j = (l.length - (j + 1)) + 1 by omega, List.replicate_succ, List.set_cons_zero, List.take_add_one]
  simp only [List.getD, List.getElem?_eq_getElem h, Option.toList, Option.getD_some, List.append_assoc, List.singleton_append]
theorem partW_all (l : List Int) : partW l l.length = l := by simp [partW]

theorem getD_set (l : List Int) (a i : Nat) (x : Int) (h : i < l.length) : (l.set a x).getD i 0 = if a = i then x else l.getD i 0 := by
  simp only [List.getD_eq_getElem?_getD, List.getElem?_set]
  split
  · rename_i e; subst e; simp [h]
  · rfl

set_option maxRecDepth 100000 in
set_option maxHeartbeats 4000000 in
theorem MemPairs_fn (w : World) (v : Value) (l : List Int) (hv : SlInts w w.heap.size .u64 v l) (o : Op7) : Fn Try.prog 8 #[v, .agg (o7 o)] w fun r w' => r = .bool true ∧ Upd [] w w' := by
  obtain ⟨a, cap, rfl, h1, h2, h3, h4, h5⟩ := hv
  refine fn_enter Try.func8 rfl rfl ?_
  refine bx fun w1 hb1 hu1 hs1 => ?_
  refine len_sl ?_
  have out : ∀ {w2 : World} {K : Value → World → Prop}, Upd [] w w2 → (∀ w3, Upd [] w w3 → K (.bool true) w3) → CallP Try.prog 40 #[] K w2 := fun hu hk => cl (lives05 _) (by rintro _ w3 ⟨rfl, h⟩; exact hk _ (hu.trans h))
  refine cd (fun c1 => ?_) (fun c1 => ?_)
  · exact out hu1 fun w3 h => ⟨rfl, h⟩
  refine len_sl ?_
  refine cd (fun c2 => ?_) (fun c2 => ?_)
  · exact out hu1 fun w3 h => ⟨rfl, h⟩
  refine ldw hb1 rfl ?_
  refine len_sl ?_
  refine cl (right_law o l.length w1) ?_
  rintro _ w2 ⟨rfl, hu2⟩
  refine cd (fun c3 => ?_) (fun c3 => ?_)
  · exact out (hu1.trans hu2) fun w3 h => ⟨rfl, h⟩
  have hR : rightO o l.length := by simpa using c3
  have hb2 := hb1.upd hu2 (by simp)
  refine fa ?_
  refine ldb hb2 rfl ?_
  refine cd (fun c4 => ?_) (fun c4 => ?_)
  · exact out (hu1.trans hu2) fun w3 h => ⟨rfl, h⟩
  have hu12 := hu1.trans hu2
  refine len_sl ?_
  refine cl (new_yes l.length w2 (by omega) (by omega)) ?_
  rintro _ w3 ⟨p, vm, rfl, hm3, hu3, hf3⟩
  have hb3 := hb2.upd hu3 (by simp)
  have hread : ∀ (w' : World) (j : Nat), Upd [] w w' → j < l.length → ∃ b o, a = some ⟨b, o, none⟩ ∧ w'.cell? ⟨b, o + j * 1, none⟩ = some (.int .u64 (l.getD j 0)) := by
    intro w' j hu hj
    obtain ⟨b, o, hab, hb, hc⟩ := h5 (by omega)
    refine ⟨b, o, hab, ?_⟩
    rw [hu.cell hb (by simp), Nat.mul_one]
    exact hc j hj
  have hsz := hu12.size
  refine loop_rule [0, 3, 5] [7] (fun vs w' m => ∃ (j : Nat) (lv : Value), vs = [.int .i64 j] ∧ j ≤ l.length ∧ m = l.length - j ∧ IsMem w' p vm lv ⟨partW l j, j, false, []⟩ ∧ Upd [] w w' ∧ Blk w' w.heap.size 60 (o7 o) ∧ (∀ k ∈ mfoot p vm lv, w2.heap.size ≤ k)) rfl [.int .i64 0] l.length rfl
    ⟨0, _, rfl, by omega, by omega, by simpa [partW, newMS] using hm3, hu12.trans hu3, hb3, hf3⟩ ?_
  rintro _ w4 m ⟨j, lv, rfl, hj, rfl, hm, hu4, hbo, hf⟩
  refine len_sl ?_
  have hoff : w.heap.size < w2.heap.size := hb2.lt
  refine cd (fun hlt => ?_) (fun hlt => ?_)
  · have hlt : j < l.length := by omega
    obtain ⟨b, of, rfl, hc⟩ := hread w4 j hu4 hlt
    refine ix j rfl hlt ?_
    refine ld hc ?_
    refine cl (store_c hm ⟨by simp, by simp; omega, by simp⟩ _ _) ?_
    rintro _ w5 ⟨g1, -⟩
    obtain ⟨rfl, lv5, hm5, hu5, hf5⟩ := g1 (by simp [okA, partW_length l j (by omega)]; omega)
    refine ar64 (by omega) ?_
    have hsz4 := hu4.size
    refine round_mk [.int .i64 ((j + 1 : Nat) : Int)] (l.length - (j + 1)) rfl rfl ?_ (by omega)
    refine ⟨j + 1, lv5, rfl, by omega, rfl, ?_, hu4.step hu5 (fun k hk => .inr (by have := hf k hk; omega)), hbo.upd hu5 (fun hk => by have := hf _ hk; omega), fun k hk => ?_⟩
    · have e : tick (wr ⟨partW l j, (j : Int), false, []⟩ (j : Int) (l.getD j 0)) (1, (j : Int), -1, true) = ⟨partW l (j + 1), ((j + 1 : Nat) : Int), false, []⟩ := by
        simp [tick, wr, ← partW_set l j hlt]
      rw [← e]
      exact hm5
    · rcases hf5 k hk with h | h
      · exact hf k h
      · have := hu3.size
        have h6 := hbo.lt
        have h7 : w2.heap.size ≤ w4.heap.size := by
          have := hm.lt p (by simp [mem_foot]); have := hf p (by simp [mem_foot]); omega
        omega
  · have hj : j = l.length := by omega
    subst hj
    rw [partW_all] at hm
    refine ldw hbo rfl ?_
    refine cl (do_c hm ⟨by simp, by simp; omega, by simp⟩ o ⟨hR.1.1, hR.1.2⟩) ?_
    rintro _ w5 ⟨g1, -⟩
    obtain ⟨rfl, lv5, hm5, hu5, hf5⟩ := g1 hR
    have hb5 := hbo.upd hu5 (fun hk => by have := hf _ hk; omega)
    have hu05 : Upd [] w w5 := hu4.step hu5 (fun k hk => .inr (by have := hf k hk; omega))
    have hWl : (stepped ⟨l, (l.length : Nat), false, []⟩ o).W = (eff o l).1 := rfl
    have hlen : (eff o l).1.length = l.length := eff_length o l
    refine cl (words_c hm5 (by rw [hWl, hlen]; omega)) ?_
    rintro rv w6 ⟨hs6, hu6, hf6⟩
    rw [hWl, hlen] at hs6
    have hb6 := hb5.upd hu6 (by simp)
    have hu06 := hu05.trans hu6
    obtain ⟨gr, gro, grc, rfl, -⟩ := hs6.some_ (by omega)
    obtain ⟨K, A, B, O, N, P, Q⟩ := o
    obtain ⟨hK, hA, hB⟩ := hR
    dsimp only at hK hA hB c4
    obtain ⟨e1, e2⟩ := inW_ix hA
    obtain ⟨f1, f2⟩ := inW_ix (show inW l.length B by rcases hB with h | h; omega; exact h.1)
    obtain ⟨b, of, rfl, hcA⟩ := hread _ A.toNat hu06.drew e2
    obtain ⟨b', of', hab, hcB⟩ := hread _ B.toNat hu06.drew f2
    cases hab
    have hne : ¬ K = 0 ∧ ¬ K = 1 ∧ ¬ K = 2 ∧ ¬ K = 3 := by omega
    have hE : eff ⟨K, A, B, O, N, P, Q⟩ l = if at_ l A = O ∧ at_ l B = P then (if K = 4 then set_ (set_ l A N) B Q else set_ l A N, 0, true) else (l, 0, false) := by
      simp [eff, hne]
    have q1 : ∀ w', w' = w6.drew → w'.cell? ⟨w.heap.size, 0 + 1, none⟩ = some (.int .i64 A) := by rintro _ rfl; exact hb6.cell 1
    have q2 : ∀ w', w' = w6.drew → w'.cell? ⟨w.heap.size, 0 + 2, none⟩ = some (.int .i64 B) := by rintro _ rfl; exact hb6.cell 2
    have q3 : ∀ w', w' = w6.drew → w'.cell? ⟨w.heap.size, 0 + 3, none⟩ = some (.int .u64 O) := by rintro _ rfl; exact hb6.cell 3
    have q5 : ∀ w', w' = w6.drew → w'.cell? ⟨w.heap.size, 0 + 5, none⟩ = some (.int .u64 P) := by rintro _ rfl; exact hb6.cell 5
    by_cases cA : at_ l A = O
    · by_cases cB : at_ l B = P
      · have hE' : eff ⟨K, A, B, O, N, P, Q⟩ l = (if K = 4 then set_ (set_ l A N) B Q else set_ l A N, 0, true) := by rw [hE, if_pos ⟨cA, cB⟩]
        rw [hE'] at hs6 ⊢
        refine draw_all (fun w' => w' = w6.drew) (by decide +kernel) rfl ?_
        refine q_fa ?_
        refine q_ld q1 ?_
        refine q_ix A.toNat e1 e2 ?_
        refine q_ld (by rintro _ rfl; exact hcA) ?_
        refine q_fa ?_
        refine q_ld q3 ?_
        refine cY cA ?_
        refine q_fa ?_
        refine q_ld q2 ?_
        refine q_ix B.toNat f1 f2 ?_
        refine q_ld (by rintro _ rfl; exact hcB) ?_
        refine q_fa ?_
        refine q_ld q5 ?_
        refine rq (.bool false) (fun w' _ => bnq ⟨by simpa [at_] using cB, rfl⟩) ?_
        refine q_len ?_
        refine q_len ?_
        rintro _ rfl
        refine cN (by simp) ?_
        have hs7 := hs6.drew
        have hb7 := hb6.drew
        refine loop_rule [0, 3, 9, 11] [12] (fun vs w' m => ∃ (j : Nat), vs = [.int .i64 j] ∧ j ≤ l.length ∧ m = l.length - j ∧ w' = w6.drew) rfl [.int .i64 0] l.length rfl ⟨0, rfl, by omega, by omega, rfl⟩ ?_
        rintro _ _ m ⟨j, rfl, hj, rfl, rfl⟩
        refine len_sl ?_
        refine cd (fun hlt => ?_) (fun hlt => ?_)
        · have hlt : j < l.length := by omega
          obtain ⟨b', of', hab, hc⟩ := hread _ j hu06.drew hlt
          cases hab
          have hlW : (if K = 4 then set_ (set_ l A N) B Q else set_ l A N).length = l.length := by unfold set_; split <;> simp
          have hget := hs7.cells rfl j (by omega)
          have hval : (if K = 4 then set_ (set_ l A N) B Q else set_ l A N).getD j 0 = if j = A.toNat then N else if j = B.toNat ∧ K = 4 then Q else l.getD j 0 := by
            have hAB : K = 4 → A.toNat ≠ B.toNat := fun h => by
              rcases hB with h' | h'
              · omega
              · rcases h'.2 with h'' | h''
                · omega
                · omega
            unfold set_
            by_cases k4 : K = 4
            · rw [if_pos k4, getD_set _ _ _ _ (by simpa using hlt), getD_set _ _ _ _ hlt]
              have := hAB k4
              by_cases x : j = A.toNat
              · rw [if_pos x, if_neg (by omega), if_pos x.symm]
              · by_cases y : j = B.toNat
                · rw [if_pos y.symm, if_neg x, if_pos ⟨y, k4⟩]
                · rw [if_neg (fun h => y h.symm), if_neg (fun h => x h.symm), if_neg x, if_neg (fun h => y h.1)]
            · rw [if_neg k4, getD_set _ _ _ _ hlt]
              by_cases x : j = A.toNat
              · rw [if_pos x, if_pos x.symm]
              · rw [if_neg x, if_neg (fun h => x h.symm), if_neg (fun h => k4 h.2)]
          have hc2 : w6.drew.cell? ⟨gr, gro + j * 1, none⟩ = some (.int .u64 (if j = A.toNat then N else if j = B.toNat ∧ K = 4 then Q else l.getD j 0)) := by
            rw [Nat.mul_one, hget.1, List.getElem?_map, ← hval]
            have : j < (if K = 4 then set_ (set_ l A N) B Q else set_ l A N).length := by omega
            simp [List.getD, this]
          refine ix j rfl hlt ?_
          refine ld hc ?_
          refine fa ?_
          refine ldb hb7 rfl ?_
          refine cd (fun cj => ?_) (fun cj => ?_)
          · replace cj : (j : Int) = A := cj
            rw [if_pos (by omega)] at hc2
            refine fa ?_
            refine ldb hb7 rfl ?_
            refine ix j rfl hlt ?_
            refine ld hc2 ?_
            refine cN (by simp) ?_
            refine ar64 (by omega) ?_
            refine round_mk [.int .i64 ((j + 1 : Nat) : Int)] (l.length - (j + 1)) rfl rfl ?_ (by omega)
            exact ⟨j + 1, rfl, by omega, rfl, rfl⟩
          · refine fa ?_
            refine ldb hb7 rfl ?_
            replace cj : ¬ (j : Int) = A := cj
            have nA : ¬ j = A.toNat := by omega
            rw [if_neg nA] at hc2
            refine cd (fun ck => ?_) (fun ck => ?_)
            · replace ck : (j : Int) = B := ck
              refine fa ?_
              refine ldb hb7 rfl ?_
              refine cd (fun ck4 => ?_) (fun ck4 => ?_)
              · replace ck4 : K = 4 := ck4
                rw [if_pos ⟨by omega, ck4⟩] at hc2
                refine fa ?_
                refine ldb hb7 rfl ?_
                refine ix j rfl hlt ?_
                refine ld hc2 ?_
                refine cN (by simp) ?_
                refine ar64 (by omega) ?_
                refine round_mk [.int .i64 ((j + 1 : Nat) : Int)] (l.length - (j + 1)) rfl rfl ?_ (by omega)
                exact ⟨j + 1, rfl, by omega, rfl, rfl⟩
              · replace ck4 : ¬ K = 4 := ck4
                rw [if_neg (fun h => ck4 h.2)] at hc2
                refine ix j rfl hlt ?_
                refine ld hc2 ?_
                refine cN (by simp) ?_
                refine ar64 (by omega) ?_
                refine round_mk [.int .i64 ((j + 1 : Nat) : Int)] (l.length - (j + 1)) rfl rfl ?_ (by omega)
                exact ⟨j + 1, rfl, by omega, rfl, rfl⟩
            · replace ck : ¬ (j : Int) = B := ck
              rw [if_neg (fun h => ck (by omega))] at hc2
              refine ix j rfl hlt ?_
              refine ld hc2 ?_
              refine cN (by simp) ?_
              refine ar64 (by omega) ?_
              refine round_mk [.int .i64 ((j + 1 : Nat) : Int)] (l.length - (j + 1)) rfl rfl ?_ (by omega)
              exact ⟨j + 1, rfl, by omega, rfl, rfl⟩
        · exact out hu06.drew fun w3 h => ⟨rfl, h⟩
      · have hE' : eff ⟨K, A, B, O, N, P, Q⟩ l = (l, 0, false) := by rw [hE, if_neg (fun h => cB h.2)]
        rw [hE'] at hs6 ⊢
        refine draw_all (fun w' => w' = w6.drew) (by decide +kernel) rfl ?_
        refine q_fa ?_
        refine q_ld q1 ?_
        refine q_ix A.toNat e1 e2 ?_
        refine q_ld (by rintro _ rfl; exact hcA) ?_
        refine q_fa ?_
        refine q_ld q3 ?_
        refine cY cA ?_
        refine q_fa ?_
        refine q_ld q2 ?_
        refine q_ix B.toNat f1 f2 ?_
        refine q_ld (by rintro _ rfl; exact hcB) ?_
        refine q_fa ?_
        refine q_ld q5 ?_
        refine rq (.bool false) (fun w' _ => bnq ⟨by simpa [at_] using cB, rfl⟩) ?_
        refine q_len ?_
        refine q_len ?_
        rintro _ rfl
        refine cN (by simp) ?_
        have hs7 := hs6.drew
        refine loop_rule [0, 3, 9, 11] [12] (fun vs w' m => ∃ (j : Nat), vs = [.int .i64 j] ∧ j ≤ l.length ∧ m = l.length - j ∧ w' = w6.drew) rfl [.int .i64 0] l.length rfl ⟨0, rfl, by omega, by omega, rfl⟩ ?_
        rintro _ _ m ⟨j, rfl, hj, rfl, rfl⟩
        refine len_sl ?_
        refine cd (fun hlt => ?_) (fun hlt => ?_)
        · have hlt : j < l.length := by omega
          obtain ⟨b', of', hab, hc⟩ := hread _ j hu06.drew hlt
          cases hab
          refine ix j rfl hlt ?_
          refine ld hc ?_
          refine ix j rfl hlt ?_
          refine ld (hs7.getD_ rfl j hlt) ?_
          refine cN (by simp) ?_
          refine ar64 (by omega) ?_
          refine round_mk [.int .i64 ((j + 1 : Nat) : Int)] (l.length - (j + 1)) rfl rfl ?_ (by omega)
          exact ⟨j + 1, rfl, by omega, rfl, rfl⟩
        · exact out hu06.drew fun w3 h => ⟨rfl, h⟩
    · have hE' : eff ⟨K, A, B, O, N, P, Q⟩ l = (l, 0, false) := by rw [hE, if_neg (fun h => cA h.1)]
      rw [hE'] at hs6 ⊢
      refine draw_all (fun w' => w' = w6.drew) (by decide +kernel) rfl ?_
      refine q_fa ?_
      refine q_ld q1 ?_
      refine q_ix A.toNat e1 e2 ?_
      refine q_ld (by rintro _ rfl; exact hcA) ?_
      refine q_fa ?_
      refine q_ld q3 ?_
      refine cN cA ?_
      refine rq (.bool false) (fun w' _ => bnq ⟨rfl, rfl⟩) ?_
      refine q_len ?_
      refine q_len ?_
      rintro _ rfl
      refine cN (by simp) ?_
      have hs7 := hs6.drew
      refine loop_rule [0, 3, 9, 11] [12] (fun vs w' m => ∃ (j : Nat), vs = [.int .i64 j] ∧ j ≤ l.length ∧ m = l.length - j ∧ w' = w6.drew) rfl [.int .i64 0] l.length rfl ⟨0, rfl, by omega, by omega, rfl⟩ ?_
      rintro _ _ m ⟨j, rfl, hj, rfl, rfl⟩
      refine len_sl ?_
      refine cd (fun hlt => ?_) (fun hlt => ?_)
      · have hlt : j < l.length := by omega
        obtain ⟨b', of', hab, hc⟩ := hread _ j hu06.drew hlt
        cases hab
        refine ix j rfl hlt ?_
        refine ld hc ?_
        refine ix j rfl hlt ?_
        refine ld (hs7.getD_ rfl j hlt) ?_
        refine cN (by simp) ?_
        refine ar64 (by omega) ?_
        refine round_mk [.int .i64 ((j + 1 : Nat) : Int)] (l.length - (j + 1)) rfl rfl ?_ (by omega)
        exact ⟨j + 1, rfl, by omega, rfl, rfl⟩
      · exact out hu06.drew fun w3 h => ⟨rfl, h⟩
theorem MemPairs_walk (w : World) (v : Value) (ls : List (List Int)) (h : SlRows w w.heap.size [.u64] v ls) (l : List Int) (hl : Fits [.i64, .i64, .i64, .u64, .u64, .u64, .u64] l) :
    Calls Try.prog 8 #[v, .agg (mkInts [.i64, .i64, .i64, .u64, .u64, .u64, .u64] l).toArray] w fun e w' => e = .returned (.bool true) ∧ Below w.heap.size w w' := by
  obtain ⟨o, rfl⟩ := op7_of hl
  exact (MemPairs_fn w v _ h.ints o).mono fun _ _ ⟨_, he, hv, hu⟩ => ⟨by rw [he, hv], hu.below⟩
end Go.Proofs.Ytjninopakpfklaa
