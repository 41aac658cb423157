/- The pure statement of WordMakes: for every pointer, mark and version within their kinds the printed Go function answers true -/
import Derived.Test.YtaogmfmphamplaaPWordMakesx1
import Derived.Laws.BitsLemmas
namespace Go.Proofs.Ytaogmfmphamplaa.Pure
open Go.RowKit Go.Proofs.Ytaogmfmphamplaa.PWordMakes Go.Proofs.YtaogmfmphamplaaW.PrintWords Go.Proofs.YtaogmfmphamplaaW.PrintLast

theorem wu_WordMakes (n : Int) : IntKind.u64.wrap n = n % 18446744073709551616 := by simp [IntKind.wrap, IntKind.bits, IntKind.signed]
theorem wraps_WordMakes (n : Int) (h₀ : 0 ≤ n) (h₁ : n < 2 ^ 64) : IntKind.u64.wrap n = n := by rw [wu_WordMakes]; omega

theorem pack_WordMakes (p v : Int) (m : Bool) (h0 : 0 ≤ p) (h1 : p < 65536) (h2 : 0 ≤ v) (h3 : v < 140737488355328) :
    word_pack.f p m v = some (v * 131072 + p * 2 + if m then 1 else 0) := by
  have e1 : IntKind.u64.wrap (v * 131072) = v * 131072 := by rw [wu_WordMakes]; omega
  have e2 : IntKind.u64.wrap (p * 2) = p * 2 := by rw [wu_WordMakes]; omega
  have e3 : Go.bits .or .u64 (v * 131072) (p * 2) = v * 131072 + p * 2 :=
    bits_join .u64 64 (by decide) wraps_WordMakes 17 _ _ (by omega) (by omega) (by omega) (by omega) (by omega) (by omega)
  have e4 : Go.bits .or .u64 (v * 131072 + p * 2) 1 = v * 131072 + p * 2 + 1 :=
    bits_join .u64 64 (by decide) wraps_WordMakes 1 _ _ (by omega) (by omega) (by omega) (by omega) (by omega) (by omega)
  unfold word_pack.f
  rw [e1, e2, e3, e4]
  cases m <;> simp

theorem fit_WordMakes (k : Nat) (e x : Int) : word_fit.f (k + 2) e [x] = some (decide (x < e)) := by
  unfold word_fit.f
  simp only [word_fit.l0, List.length_cons, List.length_nil, rd]
  by_cases h : x < e
  · have h' : ¬ x ≥ e := by omega
    simp [h, h', wrap64]
  · have h' : x ≥ e := by omega
    simp [h, h']

theorem make_WordMakes (k : Nat) (p v : Int) (m : Bool) (h0 : 0 ≤ p) (h1 : p < 65536) (h2 : 0 ≤ v) (h3 : v < 140737488355328) :
    word_Make.f (k + 2) p m v = some (v * 131072 + p * 2 + if m then 1 else 0, 0) := by
  have e1 : IntKind.u64.wrap p = p := by rw [wu_WordMakes]; omega
  unfold word_Make.f
  rw [if_neg (by omega), e1, fit_WordMakes, fit_WordMakes, pack_WordMakes p v m h0 h1 h2 h3]
  simp [h1, h3]

theorem tmod_WordMakes (a b : Int) (h : 0 ≤ a) : Int.tmod a b = a % b := Int.tmod_eq_emod_of_nonneg h
theorem tdiv_WordMakes (a b : Int) (h : 0 ≤ a) : Int.tdiv a b = a / b := Int.tdiv_eq_ediv_of_nonneg h

theorem next_WordMakes (w p : Int) (m : Bool) (h0 : 0 ≤ w) (h1 : w < 18446744073709551616) :
    word_Word_Next.f w p m = some ((w / 131072 + 1) % 140737488355328 * 131072 + p % 65536 * 2 + if m then 1 else 0) := by
  have e1 : IntKind.u64.wrap (w / 131072 + 1) = w / 131072 + 1 := by rw [wu_WordMakes]; omega
  have e2 : Int.tmod (IntKind.u64.wrap p) 65536 = p % 65536 := by rw [wu_WordMakes, tmod_WordMakes _ _ (by omega)]; omega
  unfold word_Word_Next.f word_Word_Ver.f
  simp only [Option.bind_some]
  rw [e1, e2, tmod_WordMakes _ _ (by omega), pack_WordMakes _ _ _ (by omega) (by omega) (by omega) (by omega)]
  rfl

theorem lives_WordMakes (k : Nat) : jostlelaw01_lives.f (k + 2) = some true := by
  unfold jostlelaw01_lives.f
  rw [make_WordMakes k 3 1 true (by omega) (by omega) (by omega) (by omega)]
  simp only [Option.bind_some]
  rw [next_WordMakes _ _ _ (by simp) (by simp)]
  simp

theorem rmake_WordMakes (k : Nat) (p v : Int) (m : Bool) (h2 : 0 ≤ v) (hb : -9223372036854775808 ≤ p ∧ p < 9223372036854775808):
    jostleref01_Make.f (k + 1) p m v = if p < 0 ∨ p > 65535 ∨ v ≥ 140737488355328 then some (0, false) else some (v * 131072 + p * 2 + if m then 1 else 0, true) := by
  by_cases c1 : p < 0
  · unfold jostleref01_Make.f
    simp only [jostleref01_Make.j0]
    simp [c1]
  by_cases c2 : p > 65535
  · unfold jostleref01_Make.f
    simp only [jostleref01_Make.j0]
    simp [c1, c2]
  by_cases c3 : v ≥ 140737488355328
  · unfold jostleref01_Make.f
    simp only [jostleref01_Make.j0]
    simp [c1, c2, c3]
  have e1 : IntKind.u64.wrap (v * 131072) = v * 131072 := by rw [wu_WordMakes]; omega
  have e0 : IntKind.u64.wrap p = p := by rw [wu_WordMakes]; omega
  have e2 : IntKind.u64.wrap (p * 2) = p * 2 := by rw [wu_WordMakes]; omega
  have e3 : IntKind.u64.wrap (v * 131072 + p * 2) = v * 131072 + p * 2 := by rw [wu_WordMakes]; omega
  have e4 : IntKind.u64.wrap (v * 131072 + p * 2 + 1) = v * 131072 + p * 2 + 1 := by rw [wu_WordMakes]; omega
  have hc : ¬ (p < 0 ∨ p > 65535 ∨ v ≥ 140737488355328) := by omega
  rw [if_neg hc]
  unfold jostleref01_Make.f
  simp only [jostleref01_Make.j0]
  rw [if_neg c1, if_neg c2]
  have c4 : ¬ (decide (v ≥ 140737488355328) = true) := by simpa using c3
  rw [if_neg c4, e0, e1, e2, e3, e4]
  cases m <;> simp

theorem wfu_WordMakes {w : Int} (h : (Lit.int .u64 w).wf = true) : 0 ≤ w ∧ w < 18446744073709551616 := by
  simp [Lit.wf, IntKind.min, IntKind.max, IntKind.signed, IntKind.bits] at h
  omega
theorem wfi_WordMakes {w : Int} (h : (Lit.int .i64 w).wf = true) : -9223372036854775808 ≤ w ∧ w < 9223372036854775808 := by
  simp [Lit.wf, IntKind.min, IntKind.max, IntKind.signed, IntKind.bits] at h
  omega
theorem wfh_WordMakes {w : Int} (h : (Lit.int .u16 w).wf = true) : 0 ≤ w ∧ w < 65536 := by
  simp [Lit.wf, IntKind.min, IntKind.max, IntKind.signed, IntKind.bits] at h
  omega

theorem WordMakes : jostlelaw01_WordMakes.Pure := by
  intro p m v hp hv
  have hp := wfi_WordMakes hp
  have hv := wfu_WordMakes hv
  refine ⟨2, ?_⟩
  unfold jostlelaw01_WordMakes.f
  rw [rmake_WordMakes 1 p v m hv.1 hp, lives_WordMakes 0]
  by_cases c1 : p < 0
  · have e : word_Make.f 2 p m v = some (0, 2) := by unfold word_Make.f; rw [if_pos c1]
    rw [e, if_pos (by omega)]; simp
  by_cases c2 : p > 65535
  · have e1 : IntKind.u64.wrap p = p := by rw [wu_WordMakes]; omega
    have e : word_Make.f 2 p m v = some (0, 2) := by
      unfold word_Make.f
      rw [if_neg c1, e1, fit_WordMakes]
      have : ¬ p < 65536 := by omega
      simp [this]
    rw [e, if_pos (by omega)]; simp
  by_cases c3 : v ≥ 140737488355328
  · have e1 : IntKind.u64.wrap p = p := by rw [wu_WordMakes]; omega
    have e : word_Make.f 2 p m v = some (0, 2) := by
      unfold word_Make.f
      rw [if_neg c1, e1, fit_WordMakes, fit_WordMakes]
      have h1 : p < 65536 := by omega
      have h2 : ¬ v < 140737488355328 := by omega
      simp [h1, h2]
    rw [e, if_pos (by omega)]; simp
  · have hc : ¬ (p < 0 ∨ p > 65535 ∨ v ≥ 140737488355328) := by omega
    rw [make_WordMakes 0 p v m (by omega) (by omega) (by omega) (by omega), if_neg hc]
    simp

end Go.Proofs.Ytaogmfmphamplaa.Pure
