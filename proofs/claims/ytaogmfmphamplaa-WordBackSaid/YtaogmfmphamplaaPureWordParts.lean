/- The pure statement of WordParts: for every word the printed Go function answers true -/
import Derived.Test.YtaogmfmphamplaaPWordPartsx1
import Derived.Laws.BitsLemmas
namespace Go.Proofs.Ytaogmfmphamplaa.Pure
open Go.RowKit Go.Proofs.Ytaogmfmphamplaa.PWordParts Go.Proofs.YtaogmfmphamplaaW.PrintWords Go.Proofs.YtaogmfmphamplaaW.PrintLast

theorem wu_WordParts (n : Int) : IntKind.u64.wrap n = n % 18446744073709551616 := by simp [IntKind.wrap, IntKind.bits, IntKind.signed]
theorem wraps_WordParts (n : Int) (h₀ : 0 ≤ n) (h₁ : n < 2 ^ 64) : IntKind.u64.wrap n = n := by rw [wu_WordParts]; omega

theorem pack_WordParts (p v : Int) (m : Bool) (h0 : 0 ≤ p) (h1 : p < 65536) (h2 : 0 ≤ v) (h3 : v < 140737488355328) :
    word_pack.f p m v = some (v * 131072 + p * 2 + if m then 1 else 0) := by
  have e1 : IntKind.u64.wrap (v * 131072) = v * 131072 := by rw [wu_WordParts]; omega
  have e2 : IntKind.u64.wrap (p * 2) = p * 2 := by rw [wu_WordParts]; omega
  have e3 : Go.bits .or .u64 (v * 131072) (p * 2) = v * 131072 + p * 2 :=
    bits_join .u64 64 (by decide) wraps_WordParts 17 _ _ (by omega) (by omega) (by omega) (by omega) (by omega) (by omega)
  have e4 : Go.bits .or .u64 (v * 131072 + p * 2) 1 = v * 131072 + p * 2 + 1 :=
    bits_join .u64 64 (by decide) wraps_WordParts 1 _ _ (by omega) (by omega) (by omega) (by omega) (by omega) (by omega)
  unfold word_pack.f
  rw [e1, e2, e3, e4]
  cases m <;> simp

theorem fit_WordParts (k : Nat) (e x : Int) : word_fit.f (k + 2) e [x] = some (decide (x < e)) := by
  unfold word_fit.f
  simp only [word_fit.l0, List.length_cons, List.length_nil, rd]
  by_cases h : x < e
  · have h' : ¬ x ≥ e := by omega
    simp [h, h', wrap64]
  · have h' : x ≥ e := by omega
    simp [h, h']

theorem make_WordParts (k : Nat) (p v : Int) (m : Bool) (h0 : 0 ≤ p) (h1 : p < 65536) (h2 : 0 ≤ v) (h3 : v < 140737488355328) :
    word_Make.f (k + 2) p m v = some (v * 131072 + p * 2 + if m then 1 else 0, 0) := by
  have e1 : IntKind.u64.wrap p = p := by rw [wu_WordParts]; omega
  unfold word_Make.f
  rw [if_neg (by omega), e1, fit_WordParts, fit_WordParts, pack_WordParts p v m h0 h1 h2 h3]
  simp [h1, h3]

theorem tmod_WordParts (a b : Int) (h : 0 ≤ a) : Int.tmod a b = a % b := Int.tmod_eq_emod_of_nonneg h
theorem tdiv_WordParts (a b : Int) (h : 0 ≤ a) : Int.tdiv a b = a / b := Int.tdiv_eq_ediv_of_nonneg h

theorem next_WordParts (w p : Int) (m : Bool) (h0 : 0 ≤ w) (h1 : w < 18446744073709551616) :
    word_Word_Next.f w p m = some ((w / 131072 + 1) % 140737488355328 * 131072 + p % 65536 * 2 + if m then 1 else 0) := by
  have e1 : IntKind.u64.wrap (w / 131072 + 1) = w / 131072 + 1 := by rw [wu_WordParts]; omega
  have e2 : Int.tmod (IntKind.u64.wrap p) 65536 = p % 65536 := by rw [wu_WordParts, tmod_WordParts _ _ (by omega)]; omega
  unfold word_Word_Next.f word_Word_Ver.f
  simp only [Option.bind_some]
  rw [e1, e2, tmod_WordParts _ _ (by omega), pack_WordParts _ _ _ (by omega) (by omega) (by omega) (by omega)]
  rfl

theorem lives_WordParts (k : Nat) : jostlelaw01_lives.f (k + 2) = some true := by
  unfold jostlelaw01_lives.f
  rw [make_WordParts k 3 1 true (by omega) (by omega) (by omega) (by omega)]
  simp only [Option.bind_some]
  rw [next_WordParts _ _ _ (by simp) (by simp)]
  simp

theorem ptr_WordParts (w : Int) (h0 : 0 ≤ w) (h1 : w < 18446744073709551616) : word_Word_Ptr.f w = some (w / 2 % 65536) := by
  have e : wrap64 (w / 2 % 65536) = w / 2 % 65536 := by unfold wrap64; omega
  unfold word_Word_Ptr.f
  rw [tmod_WordParts _ _ (by omega), e]

theorem and1_WordParts (w : Int) (h0 : 0 ≤ w) (h1 : w < 18446744073709551616) : Go.bits .and .u64 w 1 = w % 2 := by
  have := bits_mask .u64 64 (by decide) wraps_WordParts 1 (by omega) w h0 (by omega)
  simpa using this
theorem mark_WordParts (w : Int) (h0 : 0 ≤ w) (h1 : w < 18446744073709551616) : word_Word_Mark.f w = some (w % 2 == 1) := by
  unfold word_Word_Mark.f
  rw [and1_WordParts w h0 h1]

theorem rptr_WordParts (w : Int) (h0 : 0 ≤ w) (h1 : w < 18446744073709551616) : jostleref01_Ptr.f w = some (w / 2 % 65536) := by
  have e : wrap64 (w / 2 % 65536) = w / 2 % 65536 := by unfold wrap64; omega
  have e1 : IntKind.u64.wrap (w / 2) = w / 2 := by rw [wu_WordParts]; omega
  unfold jostleref01_Ptr.f
  rw [tdiv_WordParts _ _ h0, e1, tmod_WordParts _ _ (by omega), e]

theorem rver_WordParts (w : Int) (h0 : 0 ≤ w) (h1 : w < 18446744073709551616) : jostleref01_Ver.f w = some (w / 131072) := by
  have e1 : IntKind.u64.wrap (w / 131072) = w / 131072 := by rw [wu_WordParts]; omega
  unfold jostleref01_Ver.f
  rw [tdiv_WordParts _ _ h0, e1]

theorem wfu_WordParts {w : Int} (h : (Lit.int .u64 w).wf = true) : 0 ≤ w ∧ w < 18446744073709551616 := by
  simp [Lit.wf, IntKind.min, IntKind.max, IntKind.signed, IntKind.bits] at h
  omega
theorem wfi_WordParts {w : Int} (h : (Lit.int .i64 w).wf = true) : -9223372036854775808 ≤ w ∧ w < 9223372036854775808 := by
  simp [Lit.wf, IntKind.min, IntKind.max, IntKind.signed, IntKind.bits] at h
  omega
theorem wfh_WordParts {w : Int} (h : (Lit.int .u16 w).wf = true) : 0 ≤ w ∧ w < 65536 := by
  simp [Lit.wf, IntKind.min, IntKind.max, IntKind.signed, IntKind.bits] at h
  omega

theorem WordParts : jostlelaw01_WordParts.Pure := by
  intro w hw
  have hw := wfu_WordParts hw
  refine ⟨2, ?_⟩
  unfold jostlelaw01_WordParts.f
  rw [ptr_WordParts w hw.1 hw.2, rptr_WordParts w hw.1 hw.2, mark_WordParts w hw.1 hw.2, rver_WordParts w hw.1 hw.2, lives_WordParts 0]
  unfold jostleref01_Mark.f word_Word_Ver.f
  rw [tmod_WordParts _ _ hw.1]
  simp

end Go.Proofs.Ytaogmfmphamplaa.Pure
