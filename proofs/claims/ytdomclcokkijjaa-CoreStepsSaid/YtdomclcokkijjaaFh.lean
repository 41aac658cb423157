/- The law CoreOnce, whole. -/
import Derived.Test.YtdomclcokkijjaaFg
namespace Go.Proofs.Ytdomclcokkijjaa
open Go.RowKit
attribute [local irreducible] Instr.loadAt Instr.storeAt Instr.fieldAt Instr.indexAt Instr.sliceAt Instr.buildSlice Instr.box Instr.alloc Builtin.append_ Builtin.len_ Builtin.min_ Builtin.max_ Calls Instr.build Instr.makeSlice binSem convert Instr.index Instr.range Instr.next
theorem layS_q {A T N L B P S : Int} (hr : rightC ⟨A, T, N, L, B, P, S⟩) : Quiet (layS A T N L (newMS (sizeP A T N L).toNat)) 200 := by
  obtain ⟨b1, b2, b3, b4, b5, b6, -⟩ := plan_bd hr
  have q0 : Quiet (newMS (sizeP A T N L).toNat) 0 := ⟨Int.le_refl _, Int.le_refl _, rfl, rfl⟩
  generalize newMS (sizeP A T N L).toNat = s at q0
  have q3 : Quiet (lay3 A T N L s) 100 := by
    have := ((layL_q (A := A) (T := T) (N := N) (L := L) (se := (sentP A).toNat) (q0.st 0 ((2 * ((sentP A).toNat + 1) : Nat) : Int)) (N.toNat - (sentP A).toNat - 1)).st 2 1)
    exact this.up (by omega)
  unfold layS
  split
  · exact q3.up (by omega)
  · have := layN_q (A := A) (T := T) (N := N) (L := L) ((q3.st (nodeA A T N L 1 3) L).st (nodeA A T N L 2 0) 18446744073709551615) L.toNat
    exact this.up (by omega)
theorem once_bound (z : Int) : ∃ n : Nat, n ≤ 30 ∧ (if (if (30 : Int) < z then 30 else z) > 0 then (if (30 : Int) < z then 30 else z) else 0) = (n : Int) := by
  refine ⟨(if (if (30 : Int) < z then 30 else z) > 0 then (if (30 : Int) < z then 30 else z) else 0).toNat, ?_, ?_⟩
  · split <;> split <;> omega
  · split <;> split <;> omega
set_option maxRecDepth 100000 in
theorem once_law {w : World} {c : Cf} {v2 : Value} {waits : List Int} (i : Int) (h2 : RdK w .i64 v2 waits) : Fn Try.prog 6 #[.agg (cf7 c), v2, .int .i64 i] w fun r w' => r = .bool true ∧ Upd [] w w' := by
  obtain ⟨a2, c2, hv2, -⟩ := h2.form
  subst hv2
  obtain ⟨A, T, N, L, B, P, S⟩ := c
  refine fn_enter Try.func6 rfl rfl ?_
  refine bx fun w1 hb1 hu1 hs1 => ?_
  have hb1 : Blk w1 w.heap.size 42 (cf7 ⟨A, T, N, L, B, P, S⟩) := hb1
  refine ldw hb1 rfl ?_
  refine cl (rright_c ⟨A, T, N, L, B, P, S⟩ w1) ?_
  rintro _ w2 ⟨rfl, hu2⟩
  have hU2 := hu1.trans hu2
  by_cases hr : rightC ⟨A, T, N, L, B, P, S⟩
  rotate_left
  · refine cY hr ?_
    refine cl (lives16 _) ?_
    rintro _ wx ⟨rfl, hux⟩
    exact ⟨rfl, (hU2).trans hux⟩
  refine cN (fun h => h hr) ?_
  refine len_sl ?_
  by_cases q1 : (waits.length : Int) > 60
  · refine cY q1 ?_
    refine cl (lives16 _) ?_
    rintro _ wx ⟨rfl, hux⟩
    exact ⟨rfl, (hU2).trans hux⟩
  refine cN q1 ?_
  have hb2 := hb1.upd hu2 (by simp)
  refine ldw hb2 rfl ?_
  refine cl (core_new2 (draws := []) true (RdK.nil_ w2 .u8) (by decide)) ?_
  rintro _ w3 ⟨-, hy⟩
  obtain ⟨m, mp, mv, lv, fp, fv, gs, tv, ths, rfl, N3, hTl, hz, -, hgs⟩ := hy hr
  obtain ⟨gp, gv, rfl⟩ := hgs rfl
  clear hy hgs
  obtain ⟨b1, b2, b3, b4, b5, b6, b7, b8, b9, b10, b11, b12⟩ := plan_bd hr
  refine ptr_eq ?_
  have hb3 := hb2.upd N3.up (by simp)
  refine al #[.int .i64 0] (fun _ => by kernel_rfl) fun w4 hb4 hu4 hs4 => ?_
  refine st hb4 (by show 0 < 1; omega) rfl fun w5 hb5 hu5 hs5 => ?_
  have hb5 : Blk w5 w3.heap.size 3 #[.int .i64 0] := hb5
  have hu35 : Upd [] w3 w5 := hu4.step hu5 (by simp)
  have hq := layS_q hr
  have hW : 10 ≤ (layS A T N L (newMS (sizeP A T N L).toNat)).W.length := by rw [layS_len, newMS_len]; omega
  have hgT : (liveL N.toNat (sentP A).toNat).length ≤ 64 := by rw [liveL_len]; omega
  generalize layS A T N L (newMS (sizeP A T N L).toNat) = ms at *
  have hz2 := hU2.size
  have hz3 := N3.up.size
  have hgl := hb2.lt
  have hT : T.toNat ≤ 100 := by omega
  have hlen : ths.length = T.toNat := by omega
  obtain ⟨t0, ht0⟩ : ∃ t0, ths[0]? = some t0 := ⟨ths[0]'(by omega), List.getElem?_eq_getElem _⟩
  have hfz : ∀ t ∈ ths, t.fs = [] := fun t ht => by
    obtain ⟨_, _, _, _, rfl⟩ := hz t ht
    rfl
  have N5 : New w w5 (mc0 m ⟨A, T, N, L, B, P, S⟩ mp mv lv ms (some ⟨gp, gv, liveL N.toNat (sentP A).toNat, 0, 0⟩) fp fv [] tv ths) := (N3.post (.of0 N3.ok hu35)).rebase hU2
  have I5 : OnI w w5 ⟨A, T, N, L, B, P, S⟩ T.toNat m mp t0.g w.heap.size w3.heap.size (mc0 m ⟨A, T, N, L, B, P, S⟩ mp mv lv ms (some ⟨gp, gv, liveL N.toNat (sentP A).toNat, 0, 0⟩) fp fv [] tv ths) [] none ms.k 0 :=
    ⟨N5, rfl, rfl, rfl, hlen, ⟨t0, ht0, rfl, hfz t0 (List.mem_of_getElem? ht0), fun n hn => by cases hn⟩, fun j t hj _ => hfz t (List.mem_of_getElem? hj), hgT, rfl, hq.on, hq.L, hW,
      ⟨hb5, fun hm => by have := N3.ok.m_lt _ hm; omega⟩, ⟨hb3.upd hu35 (by simp), fun hm => by have := N3.fr _ hm; omega⟩, by omega, by omega⟩
  have k0 := hq.k0; have k1 := hq.k1
  generalize t0.g = g0 at *
  generalize w3.heap.size = gc at *
  clear N5 N3 hb3 hb2 hb5 hb4 ht0
  refine loop_rule [1, 2, 3, 7, 9, 10] [11] (fun vs w' mm => ∃ (j : Nat) (Y : Mc) (r0 : Option Int) (k z : Int), vs = [.int .i64 (j : Int)] ∧ j ≤ waits.length ∧ mm = waits.length - j ∧ OnI w w' ⟨A, T, N, L, B, P, S⟩ T.toNat m mp g0 w.heap.size gc Y [] r0 k z ∧ 0 ≤ k ∧ k ≤ 200 + 40 * j ∧ 0 ≤ z ∧ z ≤ 40 * j) rfl [.int .i64 0] waits.length rfl
    ⟨0, _, _, _, _, rfl, by omega, rfl, I5, k0, by omega, by omega, by omega⟩ ?_
  clear I5
  rintro _ w6 mm ⟨j, Y, r0, k, z, rfl, hj, rfl, I, k0, k1, z0, z1⟩
  refine len_sl ?_
  refine cd (fun hlt => ?_) (fun hlt => ?_)
  · have hlt : j < waits.length := by omega
    obtain ⟨vb, vo, vc, he, -⟩ := h2.some_ (by omega)
    cases he
    refine ix j rfl hlt ?_
    refine ld ((h2.upd0 I.new.up).at_ rfl j hlt) ?_
    obtain ⟨n, hn30, hn⟩ := once_bound (waits.getD j 0)
    refine mn2 ?_
    refine val _ rfl ?_
    refine mx2 ?_
    refine val (n : Int) hn ?_
    obtain ⟨t6, ht6, hg6, hf6, hx6⟩ := (I).th
    have hthr := thread_mm (I).new.ok ht6 (by rw [(I).eT]; exact hT)
    rw [(I).em, hg6] at hthr
    refine cl hthr ?_
    rintro _ w6 ⟨rfl, hthr⟩
    subst hthr
    refine cv ?_
    refine arU (by omega) ?_
    refine bs #[.int .u64 (n : Int)] (fun _ => by kernel_rfl) fun w7 hb7 hu7 hs7 => ?_
    have I7 := I.upd0 hu7
    have hpush := push_mm (l := [(n : Int)]) I7.new.ok ht6 (by rw [hf6]; simp) (v := .slice (some ⟨w6.heap.size, 0, none⟩) 1 1) (RdK.of_sl (e := 27) (n := 1) (Sl.lit (n := 1) hb7 rfl (by decide))) (by simp) 7
    rw [hg6] at hpush
    refine cl hpush ?_
    clear hpush
    rintro _ w8 ⟨fv', p8⟩
    rw [hf6] at p8
    rw [← hg6] at p8
    have I8 := I7.core (fs' := [⟨7, 0, [(n : Int)]⟩]) (r0' := none) ht6 hg6 p8 (fun n hn => by cases hn)
    -- the steps
    refine loop_rule [1, 2, 3, 7, 9, 10, 11, 12] [] (fun vs w' mm => vs = [] ∧ ((∃ Y pc k' z', OnI w w' ⟨A, T, N, L, B, P, S⟩ T.toNat m mp g0 w.heap.size gc Y [⟨7, pc, [(n : Int)]⟩] none k' z' ∧ 0 ≤ pc ∧ pc ≤ n ∧ 0 ≤ k' ∧ k' ≤ 200 + 40 * j + pc ∧ 0 ≤ z' ∧ z' ≤ 40 * j + pc ∧ mm = (n - pc + 1).toNat) ∨
        (∃ Y k' z', OnI w w' ⟨A, T, N, L, B, P, S⟩ T.toNat m mp g0 w.heap.size gc Y [] (some (n : Int)) k' z' ∧ 0 ≤ k' ∧ k' ≤ 200 + 40 * j + n ∧ 0 ≤ z' ∧ z' ≤ 40 * j + n + 1 ∧ mm = 0))) rfl [] (n - 0 + 1) rfl
      ⟨rfl, .inl ⟨_, 0, k, z, I8, by omega, by omega, k0, by omega, z0, by omega, by omega⟩⟩ ?_
    clear I8 I7 I
    rintro _ w9 mm ⟨rfl, hE | hE⟩
    · obtain ⟨Y9, pc, k', z', I9, p0, p1, kk0, kk1, zz0, zz1, rfl⟩ := hE
      obtain ⟨t9, ht9, hg9, hf9, hx9⟩ := (I9).th
      have hthr := thread_mm (I9).new.ok ht9 (by rw [(I9).eT]; exact hT)
      rw [(I9).em, hg9] at hthr
      refine cl hthr ?_
      rintro _ w9 ⟨rfl, hthr⟩
      subst hthr
      obtain ⟨fb, fo, fc, hfv⟩ := I9.new.ok.fr_ ht9 (by rw [hf9]; simp)
      have htop := top_mm I9.new.ok ht9 (fs := []) hf9 (by simp) hfv
      rw [hg9] at htop
      refine cl htop ?_
      clear htop
      rintro _ _ ⟨rfl, rfl⟩
      refine ptr_ne ?_
      have Ia := I9.upd0 (Upd.refl [] w9).drew
      have hmm := mem_mm Ia.new.ok
      rw [Ia.em] at hmm
      refine cl hmm ?_
      clear hmm
      rintro _ _ ⟨rfl, rfl⟩
      have hst := steps_c Ia.new.ok.mem
      rw [Ia.k_] at hst
      rw [Ia.emp]
      rw [Ia.emp] at hst
      refine cl hst ?_
      clear hst
      rintro _ _ ⟨rfl, rfl⟩
      refine cl (once_step (zb := 40 * j) hr hT Ia p0 p1 (by omega) kk0 (by omega) zz0 zz1 (by omega)) ?_
      rintro r wb hR
      rcases hR with ⟨Yb, pc', zb, Ib, q1, q2, q3, q4, rfl⟩ | ⟨Yb, zb, Ib, q3, q4, rfl⟩
      · have hmm := mem_mm Ib.new.ok
        rw [Ib.em] at hmm
        refine cl hmm ?_
        clear hmm
        rintro _ _ ⟨rfl, rfl⟩
        have hst := steps_c Ib.new.ok.mem
        rw [Ib.k_] at hst
        rw [Ib.emp]
        rw [Ib.emp] at hst
        refine cl hst ?_
        clear hst
        rintro _ _ ⟨rfl, rfl⟩
        refine val 1 (by rw [IntWalk.i64_in _ (by omega)]; omega) ?_
        obtain ⟨tb, htb, hgb, hfb, hxb⟩ := (Ib).th
        have hthr := thread_mm (Ib).new.ok htb (by rw [(Ib).eT]; exact hT)
        rw [(Ib).em, hgb] at hthr
        refine cl hthr ?_
        rintro _ wb ⟨rfl, hthr⟩
        subst hthr
        obtain ⟨fb2, fo2, fc2, hfvb⟩ := Ib.new.ok.fr_ htb (by rw [hfb]; simp)
        have htop := top_mm Ib.new.ok htb (fs := []) hfb (by simp) hfvb
        rw [hgb] at htop
        refine cl htop ?_
        clear htop
        rintro _ _ ⟨rfl, rfl⟩
        refine ptr_ne ?_
        refine bnq ?_
        refine round_mk [] (n - pc' + 1).toNat rfl rfl ⟨rfl, .inl ⟨Yb, pc', k' + 1, zb, Ib.upd0 (Upd.refl [] _).drew, by omega, q2, by omega, by omega, q3, q4, rfl⟩⟩ (by omega)
      · have hmm := mem_mm Ib.new.ok
        rw [Ib.em] at hmm
        refine cl hmm ?_
        clear hmm
        rintro _ _ ⟨rfl, rfl⟩
        have hst := steps_c Ib.new.ok.mem
        rw [Ib.k_] at hst
        rw [Ib.emp]
        rw [Ib.emp] at hst
        refine cl hst ?_
        clear hst
        rintro _ _ ⟨rfl, rfl⟩
        refine val 0 (by rw [IntWalk.i64_in _ (by omega)]; omega) ?_
        obtain ⟨tb, htb, hgb, hfb, hxb⟩ := (Ib).th
        have hthr := thread_mm (Ib).new.ok htb (by rw [(Ib).eT]; exact hT)
        rw [(Ib).em, hgb] at hthr
        refine cl hthr ?_
        rintro _ wb ⟨rfl, hthr⟩
        subst hthr
        have htop := top_no Ib.new.ok htb hfb
        rw [hgb] at htop
        refine cl htop ?_
        clear htop
        rintro _ _ ⟨rfl, rfl⟩
        refine ptr_ne0 ?_
        refine bnq ?_
        refine round_mk [] 0 rfl rfl ⟨rfl, .inr ⟨Yb, k', zb, Ib, kk0, by omega, q3, by omega, rfl⟩⟩ (by omega)
    · obtain ⟨Y9, k', z', I9, kk0, kk1, zz0, zz1, rfl⟩ := hE
      obtain ⟨t9, ht9, hg9, hf9, hx9⟩ := (I9).th
      have hthr := thread_mm (I9).new.ok ht9 (by rw [(I9).eT]; exact hT)
      rw [(I9).em, hg9] at hthr
      refine cl hthr ?_
      rintro _ w9 ⟨rfl, hthr⟩
      subst hthr
      have htop := top_no I9.new.ok ht9 hf9
      rw [hg9] at htop
      refine cl htop ?_
      clear htop
      rintro _ _ ⟨rfl, rfl⟩
      refine ptr_ne0 ?_
      obtain ⟨ta, hta, hga, hfa, hxa⟩ := (I9).th
      have hthr := thread_mm (I9).new.ok hta (by rw [(I9).eT]; exact hT)
      rw [(I9).em, hga] at hthr
      refine cl hthr ?_
      rintro _ w9 ⟨rfl, hthr⟩
      subst hthr
      have hret : t9.r.1 = (n : Int) := hx9 _ rfl
      have hcb := (I9.new.ok.core ht9).blk
      rw [hg9] at hcb
      refine fa ?_
      refine ixA 0 rfl (by omega) ?_
      refine ld (v := .int .u64 (n : Int)) (by rw [hcb.cell, ← hret]; rfl) ?_
      refine cv ?_
      refine arU (by omega) ?_
      refine cN (fun h => h rfl) ?_
      refine ar64 (by omega) ?_
      refine round_mk [.int .i64 ((j + 1 : Nat) : Int)] (waits.length - (j + 1)) rfl rfl ⟨j + 1, Y9, _, k', z', rfl, by omega, rfl, I9, kk0, by omega, zz0, by omega⟩ (by omega)
  refine ld (v := .int .i64 z) (I.ca.b.cell 0) ?_
  refine fa ?_
  refine ldb I.bo.b (v := .int .i64 T) rfl ?_
  have out : (i ≥ T ∨ i < 0) → Fn Try.prog 47 #[ptrV m, .int .i64 i, .func (.func 44) #[] #[.pointer (some ⟨gc, 0, none⟩)]] w6 fun r w' => r = .bool false ∧ w' = w6 := fun ho => by
    have := step_no (r := .func (.func 44) #[] #[.pointer (some ⟨gc, 0, none⟩)]) I.new.ok (i := i) (by rw [I.eT]; omega)
    rw [I.em] at this
    exact this
  have last : (i ≥ T ∨ i < 0) → ∀ w', Upd [] w6 w' → Fn Try.prog 15 #[] w' fun r w'' => r = .bool true ∧ Upd [] w6 w'' := fun _ w' hu => (lives16 w').mono fun _ _ ⟨u, he, h1, h2⟩ => ⟨u, he, h1, hu.trans h2⟩
  by_cases hi1 : i ≥ T
  · refine cY hi1 ?_
    refine cl (out (.inl hi1)) ?_
    rintro _ _ ⟨rfl, rfl⟩
    refine ld (v := .int .i64 z) (I.ca.b.cell 0) ?_
    refine cY rfl ?_
    refine cl (step_none _ 0 _) ?_
    rintro _ _ ⟨rfl, rfl⟩
    refine cl (fault_none _) ?_
    rintro _ _ ⟨rfl, rfl⟩
    refine cl (load_none _ 0) ?_
    rintro _ w7 ⟨rfl, hu7⟩
    refine cl (lives16 _) ?_
    rintro _ wx ⟨rfl, hux⟩
    exact ⟨rfl, (I.new.up.trans hu7).trans hux⟩
  refine cN hi1 ?_
  by_cases hi0 : i < 0
  · refine cY hi0 ?_
    refine cl (out (.inr hi0)) ?_
    rintro _ _ ⟨rfl, rfl⟩
    refine ld (v := .int .i64 z) (I.ca.b.cell 0) ?_
    refine cY rfl ?_
    refine cl (step_none _ 0 _) ?_
    rintro _ _ ⟨rfl, rfl⟩
    refine cl (fault_none _) ?_
    rintro _ _ ⟨rfl, rfl⟩
    refine cl (load_none _ 0) ?_
    rintro _ w7 ⟨rfl, hu7⟩
    refine cl (lives16 _) ?_
    rintro _ wx ⟨rfl, hux⟩
    exact ⟨rfl, (I.new.up.trans hu7).trans hux⟩
  refine cN hi0 ?_
  obtain ⟨t6, ht6, hg6, hf6, -⟩ := I.th
  have hsn := step_nil I.new.ok ht6 (by rw [I.eT]; exact hT)
  rw [I.em] at hsn
  refine cl hsn ?_
  rintro _ _ ⟨rfl, rfl⟩
  by_cases hiz : i = 0
  · refine cY hiz ?_
    refine cl (lives16 _) ?_
    rintro _ wx ⟨rfl, hux⟩
    exact ⟨rfl, (I.new.up).trans hux⟩
  · refine cN hiz ?_
    obtain ⟨ii, rfl⟩ := Int.eq_ofNat_of_zero_le (show 0 ≤ i by omega)
    have hil : ii < Y.ths.length := by rw [I.eT]; omega
    have hti : Y.ths[ii]? = some (Y.ths[ii]'hil) := List.getElem?_eq_getElem hil
    have hthr := thread_mm I.new.ok hti (by rw [I.eT]; exact hT)
    rw [I.em] at hthr
    refine cl hthr ?_
    rintro _ _ ⟨rfl, rfl⟩
    refine cl (top_no I.new.ok hti (I.ot ii _ hti (by omega))) ?_
    rintro _ _ ⟨rfl, rfl⟩
    refine ptr_eq0 ?_
    refine cl (lives16 _) ?_
    rintro _ wx ⟨rfl, hux⟩
    exact ⟨rfl, (I.new.up).trans hux⟩
theorem CoreOnce_walk (w : World) (l : List Int) (wl : Fits [.i64, .i64, .i64, .i64, .i64, .i64, .i64] l) (v1 : Value) (l1 : List (List Int)) (h1 : SlRows w w.heap.size [.i64] v1 l1) (i : Int) (wi : (Lit.int .i64 i).wf = true) :
    Calls Try.prog 6 #[.agg (mkInts [.i64, .i64, .i64, .i64, .i64, .i64, .i64] l).toArray, v1, .int .i64 i] w fun e w' => e = .returned (.bool true) ∧ Below w.heap.size w w' := by
  obtain ⟨⟨A, T, N, L, B, P, S⟩, rfl⟩ := cf_of wl
  exact (once_law (c := ⟨A, T, N, L, B, P, S⟩) i (RdK.of_ints h1.ints (Nat.le_refl _))).mono fun _ _ ⟨_, he, hv, hu⟩ => ⟨by rw [he, hv], hu.below⟩
end Go.Proofs.Ytdomclcokkijjaa
