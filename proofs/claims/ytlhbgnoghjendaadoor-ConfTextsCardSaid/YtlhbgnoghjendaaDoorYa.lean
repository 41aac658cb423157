/- The law ConfParses. -/
import Derived.Test.YtlhbgnoghjendaaDoorWe
namespace Go.Proofs.YtlhbgnoghjendaaDoor
open Go.RowKit
attribute [local irreducible] Instr.loadAt Instr.storeAt Instr.fieldAt Instr.indexAt Instr.sliceAt Instr.buildSlice Instr.box Instr.alloc Builtin.append_ Builtin.len_ Builtin.min_ Builtin.max_ Calls Instr.build Instr.makeSlice binSem convert Instr.index Instr.range Instr.next
theorem lives10 (w : World) : Fn Tryd.prog 7 #[] w fun r w' => r = .bool true ∧ Upd [] w w' := by
  refine fn_enter Tryd.func7 rfl rfl ?_
  refine bd (cf7 ⟨0, 0, 0, 0, 0, 0, 0⟩) (fun _ => by kernel_rfl) ?_
  refine cl (near_c ⟨0, 0, 0, 0, 0, 0, 0⟩ w) ?_
  rintro _ w1 ⟨rfl, hu1⟩
  refine bd (cf7 ⟨0, 1, 1, 1, 1, 1, 1⟩) (fun _ => by kernel_rfl) ?_
  refine aq (fits_cf _) (fits_cf _) ?_
  have e : nearC ⟨0, 0, 0, 0, 0, 0, 0⟩ = ⟨0, 1, 1, 1, 1, 1, 1⟩ := by simp [nearC, clamp]
  exact ⟨by rw [e, eq_cf]; rfl, hu1⟩
theorem CfR.uniq {l : List UInt8} {e e' : Int} {c c' : Cf} (h : CfR l e c) (h' : CfR l e' c') : e = e' ∧ c = c' := by
  rcases h with ⟨h1, h2, h3⟩ | ⟨h1, h2, h3⟩ <;> rcases h' with ⟨k1, k2, k3⟩ | ⟨k1, k2, k3⟩
  · exact ⟨by rw [h3, k3], confU_inj h1 k1 (by rw [← h2, ← k2])⟩
  · exact absurd h2 (k1 c h1)
  · exact absurd k2 (h1 c' k1)
  · exact ⟨by rw [h3, k3], by rw [h2, k2]⟩
theorem CfR.or_ {l : List UInt8} {e : Int} {c : Cf} (h : CfR l e c) : e = 0 ∨ e = 8 := by
  rcases h with ⟨_, _, h⟩ | ⟨_, _, h⟩
  · exact .inl h
  · exact .inr h
theorem eqq {K' : Value → World → Prop} {w : World} (c : Cf) {x y : Operand} (k : K' (.bool true) w) : RunP Tryd.prog (binSem .eql 24 x y (.agg (cf7 c)) (.agg (cf7 c))) K' w := aq (fits_cf _) (fits_cf _) (by rw [eq_cf]; exact k)
set_option maxRecDepth 10000 in
theorem cparses_law (l : List UInt8) (w : World) : Fn Tryd.prog 3 #[.string (by8 l)] w fun r w' => r = .bool true ∧ Upd [] w w' := by
  have hsz := by8_size l
  refine fn_enter Tryd.func3 rfl rfl ?_
  refine len_str ?_
  refine cd (fun h3 => ?_) (fun h3 => ?_)
  · refine cl (lives10 w) ?_
    rintro _ w1 ⟨rfl, hu1⟩
    exact ⟨rfl, hu1⟩
  refine cl (cparse_c l (by omega) w) ?_
  rintro _ w1 ⟨⟨c, e, rfl, hc⟩, hu1⟩
  refine al (cf7 zC) (fun _ => by kernel_rfl) fun w2 hb2 hu2 hs2 => ?_
  refine stw hb2 rfl (cf7_len c) (cf7_one c) fun w3 hb3 hu3 hs3 => ?_
  have z1 := hu1.size
  have hU3 : Upd [] w w3 := (hu1.trans hu2).step hu3 (by simp; omega)
  refine cl (rcparse_c l (by omega) w3) ?_
  rintro _ w4 ⟨⟨c', e', rfl, hc'⟩, hu4⟩
  obtain ⟨rfl, rfl⟩ := hc.uniq hc'
  have hU4 := hU3.trans hu4
  have hb4 := hb3.upd hu4 (by simp)
  refine al (cf7 zC) (fun _ => by kernel_rfl) fun w5 hb5 hu5 hs5 => ?_
  refine stw hb5 rfl (cf7_len c) (cf7_one c) fun w6 hb6 hu6 hs6 => ?_
  have z4 := hU4.size
  have hU6 : Upd [] w w6 := (hU4.trans hu5).step hu6 (by simp; omega)
  have hlt := hb4.lt
  have hb4' := (hb4.upd hu5 (by simp)).upd hu6 (by simp; omega)
  refine ldw hb4' (cf7_len c) ?_
  refine ldw hb6 (cf7_len c) ?_
  refine eqq c ?_
  rcases hc.or_ with rfl | rfl
  · refine bq ?_
    refine cl (lives10 w6) ?_
    rintro _ w7 ⟨rfl, hu7⟩
    exact ⟨rfl, hU6.trans hu7⟩
  · refine bq ?_
    refine cl (lives10 w6) ?_
    rintro _ w7 ⟨rfl, hu7⟩
    exact ⟨rfl, hU6.trans hu7⟩
theorem ConfParses_walk (w : World) (s : ByteArray) (hs : s.size ≤ 140737488351232) : Calls Tryd.prog 3 #[.string s] w fun e w' => e = .returned (.bool true) ∧ Below w.heap.size w w' := by
  rw [← by8_data s]
  exact (cparses_law s.data.toList w).mono fun _ _ ⟨_, he, hv, hu⟩ => ⟨by rw [he, hv], hu.below⟩
end Go.Proofs.YtlhbgnoghjendaaDoor
