/- The pure statement of WordNexts: for every word, pointer and mark the printed Go function answers true -/
import Derived.Test.YtaogmfmphamplaaPWordNextsx1
import Derived.Laws.BitsLemmas
namespace Go.Proofs.Ytaogmfmphamplaa.Pure
open Go.RowKit Go.Proofs.Ytaogmfmphamplaa.PWordNexts Go.Proofs.YtaogmfmphamplaaW.PrintWords Go.Proofs.YtaogmfmphamplaaW.PrintLast

theorem wu_WordNexts (n : Int) : IntKind.u64.wrap n = n % 18446744073709551616 := by simp [IntKind.wrap, IntKind.bits, IntKind.signed]
theorem wraps_WordNexts (n : Int) (h₀ : 0 ≤ n) (h₁ : n < 2 ^ 64) : IntKind.u64.wrap n = n := by rw [wu_WordNexts]; omega

theorem pack_WordNexts (p v : Int) (m : Bool) (h0 : 0 ≤ p) (h1 : p < 65536) (h2 : 0 ≤ v) (h3 : v < 140737488355328) :
    word_pack.f p m v = some (v * 131072 + p * 2 + if m then 1 else 0) := by
  have e1 : IntKind.u64.wrap (v * 131072) = v * 131072 := by rw [wu_WordNexts]; omega
  have e2 : IntKind.u64.wrap (p * 2) = p * 2 := by rw [wu_WordNexts]; omega
  have e3 : Go.bits .or .u64 (v * 131072) (p * 2) = v * 131072 + p * 2 :=
    bits_join .u64 64 (by decide) wraps_WordNexts 17 _ _ (by omega) (by omega) (by omega) (by omega) (by omega) (by omega)
  have e4 : Go.bits .or .u64 (v * 131072 + p * 2) 1 = v * 131072 + p * 2 + 1 :=
    bits_join .u64 64 (by decide) wraps_WordNexts 1 _ _ (by omega) (by omega) (by omega) (by omega) (by omega) (by omega)
  unfold word_pack.f
  rw [e1, e2, e3, e4]
  cases m <;> simp

theorem fit_WordNexts (k : Nat) (e x : Int) : word_fit.f (k + 2) e [x] = some (decide (x < e)) := by
  unfold word_fit.f
  simp only [word_fit.l0, List.length_cons, List.length_nil, rd]
  by_cases h : x < e
  · have h' : ¬ x ≥ e := by omega
    simp [h, h', wrap64]
  · have h' : x ≥ e := by omega
    simp [h, h']

theorem make_WordNexts (k : Nat) (p v : Int) (m : Bool) (h0 : 0 ≤ p) (h1 : p < 65536) (h2 : 0 ≤ v) (h3 : v < 140737488355328) :
    word_Make.f (k + 2) p m v = some (v * 131072 + p * 2 + if m then 1 else 0, 0) := by
  have e1 : IntKind.u64.wrap p = p := by rw [wu_WordNexts]; omega
  unfold word_Make.f
  rw [if_neg (by omega), e1, fit_WordNexts, fit_WordNexts, pack_WordNexts p v m h0 h1 h2 h3]
  simp [h1, h3]

theorem tmod_WordNexts (a b : Int) (h : 0 ≤ a) : Int.tmod a b = a % b := Int.tmod_eq_emod_of_nonneg h
theorem tdiv_WordNexts (a b : Int) (h : 0 ≤ a) : Int.tdiv a b = a / b := Int.tdiv_eq_ediv_of_nonneg h

theorem next_WordNexts (w p : Int) (m : Bool) (h0 : 0 ≤ w) (h1 : w < 18446744073709551616) :
    word_Word_Next.f w p m = some ((w / 131072 + 1) % 140737488355328 * 131072 + p % 65536 * 2 + if m then 1 else 0) := by
  have e1 : IntKind.u64.wrap (w / 131072 + 1) = w / 131072 + 1 := by rw [wu_WordNexts]; omega
  have e2 : Int.tmod (IntKind.u64.wrap p) 65536 = p % 65536 := by rw [wu_WordNexts, tmod_WordNexts _ _ (by omega)]; omega
  unfold word_Word_Next.f word_Word_Ver.f
  simp only [Option.bind_some]
  rw [e1, e2, tmod_WordNexts _ _ (by omega), pack_WordNexts _ _ _ (by omega) (by omega) (by omega) (by omega)]
  rfl

theorem lives_WordNexts (k : Nat) : jostlelaw01_lives.f (k + 2) = some true := by
  unfold jostlelaw01_lives.f
  rw [make_WordNexts k 3 1 true (by omega) (by omega) (by omega) (by omega)]
  simp only [Option.bind_some]
  rw [next_WordNexts _ _ _ (by simp) (by simp)]
  simp

theorem ptr_WordNexts (w : Int) (h0 : 0 ≤ w) (h1 : w < 18446744073709551616) : word_Word_Ptr.f w = some (w / 2 % 65536) := by
  have e : wrap64 (w / 2 % 65536) = w / 2 % 65536 := by unfold wrap64; omega
  unfold word_Word_Ptr.f
  rw [tmod_WordNexts _ _ (by omega), e]

theorem rptr_WordNexts (w : Int) (h0 : 0 ≤ w) (h1 : w < 18446744073709551616) : jostleref01_Ptr.f w = some (w / 2 % 65536) := by
  have e : wrap64 (w / 2 % 65536) = w / 2 % 65536 := by unfold wrap64; omega
  have e1 : IntKind.u64.wrap (w / 2) = w / 2 := by rw [wu_WordNexts]; omega
  unfold jostleref01_Ptr.f
  rw [tdiv_WordNexts _ _ h0, e1, tmod_WordNexts _ _ (by omega), e]

theorem rver_WordNexts (w : Int) (h0 : 0 ≤ w) (h1 : w < 18446744073709551616) : jostleref01_Ver.f w = some (w / 131072) := by
  have e1 : IntKind.u64.wrap (w / 131072) = w / 131072 := by rw [wu_WordNexts]; omega
  unfold jostleref01_Ver.f
  rw [tdiv_WordNexts _ _ h0, e1]

theorem rmake_WordNexts (k : Nat) (p v : Int) (m : Bool) (h2 : 0 ≤ v) (hb : -9223372036854775808 ≤ p ∧ p < 9223372036854775808):
    jostleref01_Make.f (k + 1) p m v = if p < 0 ∨ p > 65535 ∨ v ≥ 140737488355328 then some (0, false) else some (v * 131072 + p * 2 + if m then 1 else 0, true) := by
  by_cases c1 : p < 0
  · unfold jostleref01_Make.f
    simp only [jostleref01_Make.j0]
    simp [c1]
  by_cases c2 : p > 65535
  · unfold jostleref01_Make.f
    simp only [jostleref01_Make.j0]
    simp [c1, c2]
  by_cases c3 : v ≥ 140737488355328
  · unfold jostleref01_Make.f
    simp only [jostleref01_Make.j0]
    simp [c1, c2, c3]
  have e1 : IntKind.u64.wrap (v * 131072) = v * 131072 := by rw [wu_WordNexts]; omega
  have e0 : IntKind.u64.wrap p = p := by rw [wu_WordNexts]; omega
  have e2 : IntKind.u64.wrap (p * 2) = p * 2 := by rw [wu_WordNexts]; omega
  have e3 : IntKind.u64.wrap (v * 131072 + p * 2) = v * 131072 + p * 2 := by rw [wu_WordNexts]; omega
  have e4 : IntKind.u64.wrap (v * 131072 + p * 2 + 1) = v * 131072 + p * 2 + 1 := by rw [wu_WordNexts]; omega
  have hc : ¬ (p < 0 ∨ p > 65535 ∨ v ≥ 140737488355328) := by omega
  rw [if_neg hc]
  unfold jostleref01_Make.f
  simp only [jostleref01_Make.j0]
  rw [if_neg c1, if_neg c2]
  have c4 : ¬ (decide (v ≥ 140737488355328) = true) := by simpa using c3
  rw [if_neg c4, e0, e1, e2, e3, e4]
  cases m <;> simp

theorem rnext_WordNexts (k : Nat) (w p : Int) (m : Bool) (h0 : 0 ≤ w) (h1 : w < 18446744073709551616) (_hb : -9223372036854775808 ≤ p ∧ p < 9223372036854775808) :
    jostleref01_Next.f (k + 1) w p m = some ((w / 131072 + 1) % 140737488355328 * 131072 + p % 65536 * 2 + if m then 1 else 0) := by
  have e1 : IntKind.u64.wrap (w / 131072 + 1) = w / 131072 + 1 := by rw [wu_WordNexts]; omega
  have ht : -65536 < Int.tmod p 65536 ∧ Int.tmod p 65536 < 65536 ∧ (Int.tmod p 65536) % 65536 = p % 65536 := by
    refine ⟨Int.lt_tmod_of_pos p (by decide), Int.tmod_lt_of_pos p (by decide), ?_⟩
    have := Int.mul_tdiv_add_tmod p 65536
    omega
  have e2 : Int.tmod (wrap64 (Int.tmod p 65536 + 65536)) 65536 = p % 65536 := by
    have e : wrap64 (Int.tmod p 65536 + 65536) = Int.tmod p 65536 + 65536 := by unfold wrap64; omega
    rw [e, tmod_WordNexts _ _ (by omega)]; omega
  unfold jostleref01_Next.f
  rw [rver_WordNexts w h0 h1]
  simp only [Option.bind_some]
  rw [e1, e2]
  by_cases c : w / 131072 + 1 = 140737488355328
  · rw [if_pos c, rmake_WordNexts _ _ _ _ (by omega) (by omega), if_neg (by omega)]
    simp only [Option.bind_some, c]
    congr 1
  · rw [if_neg c, rmake_WordNexts _ _ _ _ (by omega) (by omega), if_neg (by omega)]
    have c' : (w / 131072 + 1) % 140737488355328 = w / 131072 + 1 := by omega
    simp only [Option.bind_some, c']

theorem wfu_WordNexts {w : Int} (h : (Lit.int .u64 w).wf = true) : 0 ≤ w ∧ w < 18446744073709551616 := by
  simp [Lit.wf, IntKind.min, IntKind.max, IntKind.signed, IntKind.bits] at h
  omega
theorem wfi_WordNexts {w : Int} (h : (Lit.int .i64 w).wf = true) : -9223372036854775808 ≤ w ∧ w < 9223372036854775808 := by
  simp [Lit.wf, IntKind.min, IntKind.max, IntKind.signed, IntKind.bits] at h
  omega
theorem wfh_WordNexts {w : Int} (h : (Lit.int .u16 w).wf = true) : 0 ≤ w ∧ w < 65536 := by
  simp [Lit.wf, IntKind.min, IntKind.max, IntKind.signed, IntKind.bits] at h
  omega

theorem WordNexts : jostlelaw01_WordNexts.Pure := by
  intro w p m hw hp
  have hw := wfu_WordNexts hw
  have hp := wfi_WordNexts hp
  refine ⟨2, ?_⟩
  unfold jostlelaw01_WordNexts.f word_Word_Marked.f
  rw [next_WordNexts w p m hw.1 hw.2, rnext_WordNexts 1 w p m hw.1 hw.2 hp, ptr_WordNexts w hw.1 hw.2, rptr_WordNexts w hw.1 hw.2, lives_WordNexts 0]
  simp only [Option.bind_some]
  rw [next_WordNexts w _ true hw.1 hw.2, rnext_WordNexts 1 w _ true hw.1 hw.2 (by omega)]
  simp

end Go.Proofs.Ytaogmfmphamplaa.Pure
