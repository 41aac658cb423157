/- The walk of the law WordBack over the printed contracts of package word. -/
import Derived.Test.YtaogmfmphamplaaPureWordNexts
import Derived.Test.YtaogmfmphamplaaPureWordParts
import Derived.Test.YtaogmfmphamplaaHeap
namespace Go.Proofs.Ytaogmfmphamplaa.WordBackWalk
open Go.RowKit Go.Proofs.YtaogmfmphamplaaW.PrintWords Go.Proofs.YtaogmfmphamplaaW.PrintLast Go.Proofs.Ytaogmfmphamplaa.Pure

def R64 (w : Int) : Prop := 0 ≤ w ∧ w < 18446744073709551616
/-- the next word -/
def nx (w p : Int) (m : Bool) : Int := (w / 131072 + 1) % 140737488355328 * 131072 + p % 65536 * 2 + if m then 1 else 0
theorem nx_ok (w p : Int) (m : Bool) (h : R64 w) : R64 (nx w p m) := by
  unfold R64 nx at *
  have : (if m then (1 : Int) else 0) = 0 ∨ (if m then (1 : Int) else 0) = 1 := by cases m <;> simp
  omega
def pt (w : Int) : Int := w / 2 % 65536
def mk (w : Int) : Bool := w % 2 == 1
theorem mk_cases (w : Int) : mk w = true ∧ w % 2 = 1 ∨ mk w = false ∧ w % 2 = 0 := by
  unfold mk
  rcases (show w % 2 = 0 ∨ w % 2 = 1 by omega) with h | h <;> rw [h] <;> simp
theorem mk_nx (w p : Int) (m : Bool) : mk (nx w p m) = m := by
  unfold mk nx
  cases m
  · simp; omega
  · simp; omega
theorem pt_nx (w p : Int) (m : Bool) (h0 : 0 ≤ p) (h1 : p < 65536) : pt (nx w p m) = p := by
  unfold pt nx
  cases m
  · simp; omega
  · simp; omega
theorem nx_ne (w p : Int) (m : Bool) (h : R64 w) : nx w p m ≠ w := by
  unfold nx R64 at *
  have : (if m then (1 : Int) else 0) = 0 ∨ (if m then (1 : Int) else 0) = 1 := by cases m <;> simp
  omega
theorem nx_nx_ne (w p q : Int) (m l : Bool) (h : R64 w) : nx (nx w p m) q l ≠ w := by
  unfold nx R64 at *
  have a : (if m then (1 : Int) else 0) = 0 ∨ (if m then (1 : Int) else 0) = 1 := by cases m <;> simp
  have b : (if l then (1 : Int) else 0) = 0 ∨ (if l then (1 : Int) else 0) = 1 := by cases l <;> simp
  omega
theorem whole (w : Int) (h : R64 w) : w / 131072 * 131072 + pt w * 2 + (if mk w then 1 else 0) = w := by
  unfold pt R64 at *
  rcases mk_cases w with ⟨e, f⟩ | ⟨e, f⟩ <;> rw [e] <;> simp <;> omega
theorem pt_lt (w : Int) : 0 ≤ pt w ∧ pt w < 65536 := by unfold pt; omega

theorem ptr_c (x : Int) (h : R64 x) (w : World) : Calls Try.prog 17 #[.int .u64 x] w fun e w' => e = .returned (.int .i64 (pt x)) ∧ Drawn0 w w' :=
  PWordNexts.word_Word_Ptr.calls x (pt x) w (ptr_WordNexts x h.1 h.2)
theorem next_c (x p : Int) (m : Bool) (h : R64 x) (w : World) : Calls Try.prog 23 #[.int .u64 x, .int .i64 p, .bool m] w fun e w' => e = .returned (.int .u64 (nx x p m)) ∧ Drawn0 w w' :=
  PWordNexts.word_Word_Next.calls x p m (nx x p m) w (next_WordNexts x p m h.1 h.2)
theorem marked_c (x : Int) (h : R64 x) (w : World) : Calls Try.prog 25 #[.int .u64 x] w fun e w' => e = .returned (.int .u64 (nx x (pt x) true)) ∧ Drawn0 w w' :=
  PWordNexts.word_Word_Marked.calls x _ w (by
    unfold PWordNexts.word_Word_Marked.f
    rw [ptr_WordNexts x h.1 h.2]; simp only [Option.bind_some]
    rw [next_WordNexts x _ true h.1 h.2]; rfl)
theorem mark_c (x : Int) (h : R64 x) (w : World) : Calls Try.prog 19 #[.int .u64 x] w fun e w' => e = .returned (.bool (mk x)) ∧ Drawn0 w w' :=
  PWordParts.word_Word_Mark.calls x (mk x) w (mark_WordParts x h.1 h.2)
theorem ver_c (x : Int) (w : World) : Calls Try.prog 21 #[.int .u64 x] w fun e w' => e = .returned (.int .u64 (x / 131072)) ∧ Drawn0 w w' :=
  PWordNexts.word_Word_Ver.calls x (x / 131072) w rfl
theorem make_c (x : Int) (h : R64 x) (w : World) : Calls Try.prog 14 #[.int .i64 (pt x), .bool (mk x), .int .u64 (x / 131072)] w fun e w' => e = .returned (.tuple #[.int .u64 x, .int .i64 0]) ∧ Below w.heap.size w w' :=
  PWordNexts.word_Make.calls 2 _ _ _ x 0 w (by
    have := pt_lt x
    have hh := h
    unfold R64 at hh
    rw [make_WordNexts 0 (pt x) (x / 131072) (mk x) this.1 this.2 (by omega) (by omega), whole x h])
theorem lives_c (w : World) : Calls Try.prog 16 #[] w fun e w' => e = .returned (.bool true) ∧ Below w.heap.size w w' :=
  PWordNexts.jostlelaw01_lives.calls 2 true w (lives_WordNexts 0)

set_option maxRecDepth 100000 in
set_option maxHeartbeats 400000 in
theorem WordBack_walk (w : World) (x : Int) (wx : (Lit.int .u64 x).wf = true) (p : Int) (wp : (Lit.int .u16 p).wf = true) (m : Bool) :
    Calls Try.prog 6 #[.int .u64 x, .int .u16 p, .bool m] w fun e w' => e = .returned (.bool true) ∧ Below w.heap.size w w' := by
  have hx : R64 x := wfu_WordNexts wx
  have hp : 0 ≤ p ∧ p < 65536 := by
    simp [Lit.wf, IntKind.min, IntKind.max, IntKind.signed, IntKind.bits] at wp
    omega
  have hp0 := hp.1
  have hp1 := hp.2
  have HX := hid hx
  clear wx wp hp hx
  go_enter Try.func6, Try.ntmps6
  go_wp2_with fail
  refine (ptr_c _ HX.out _).mono ?_
  rintro e w' ⟨rfl, ⟨n1, rfl⟩⟩
  go_wp2_with fail
  refine (mark_c _ HX.out _).mono ?_
  rintro e w' ⟨rfl, ⟨n2, rfl⟩⟩
  go_wp2_with fail
  refine (ver_c _ _).mono ?_
  rintro e w' ⟨rfl, ⟨n3, rfl⟩⟩
  go_wp2_with fail
  refine (make_c _ HX.out _).mono ?_
  rintro e w1 ⟨rfl, hb1⟩
  go_wp2_with fail
  have HN := hid (nx_ok x p m HX.out)
  have f1 : (nx x p m != x) = true := by simpa using nx_ne x p m HX.out
  have f2 : (nx (nx x p m) (pt x) (mk x) != x) = true := by simpa using nx_nx_ne x p (pt x) m (mk x) HX.out
  have f3 := pt_nx x p m hp0 hp1
  have f4 := mk_nx x p m
  have f5 := mk_nx x (pt x) true
  have f6 := pt_nx x (pt x) true (pt_lt x).1 (pt_lt x).2
  have HM := hid (nx_ok x (pt x) true HX.out)
  refine (next_c _ _ _ HX.out _).mono ?_
  rintro e w' ⟨rfl, ⟨n5, rfl⟩⟩
  go_wp2_with fail
  refine (ptr_c _ HX.out _).mono ?_
  rintro e w' ⟨rfl, ⟨n6, rfl⟩⟩
  go_wp2_with fail
  refine (mark_c _ HX.out _).mono ?_
  rintro e w' ⟨rfl, ⟨n7, rfl⟩⟩
  go_wp2_with fail
  refine (next_c _ _ _ HN.out _).mono ?_
  rintro e w' ⟨rfl, ⟨n8, rfl⟩⟩
  go_wp2_with fail
  refine (ptr_c _ HN.out _).mono ?_
  rintro e w' ⟨rfl, ⟨n9, rfl⟩⟩
  go_wp2_with fail
  refine (mark_c _ HN.out _).mono ?_
  rintro e w' ⟨rfl, ⟨n10, rfl⟩⟩
  go_wp2_with fail
  refine (marked_c _ HX.out _).mono ?_
  rintro e w' ⟨rfl, ⟨n11, rfl⟩⟩
  go_wp2_with fail
  refine (mark_c _ HM.out _).mono ?_
  rintro e w' ⟨rfl, ⟨n12, rfl⟩⟩
  go_wp2_with fail
  refine (marked_c _ HX.out _).mono ?_
  rintro e w' ⟨rfl, ⟨n13, rfl⟩⟩
  go_wp2_with fail
  refine (ptr_c _ HM.out _).mono ?_
  rintro e w' ⟨rfl, ⟨n14, rfl⟩⟩
  go_wp2_with fail
  refine (ptr_c _ HX.out _).mono ?_
  rintro e w' ⟨rfl, ⟨n15, rfl⟩⟩
  go_wp2_with fail
  refine (lives_c _).mono ?_
  rintro e w2 ⟨rfl, hb2⟩
  go_wp2_with fail
  go_ret
  have e1 : Below w.heap.size w w1 := below_drewN' hb1
  have e2 : Below w1.heap.size w1 w2 := below_drewN' hb2
  exact ⟨rfl, e1.trans (e2.mono e1.size)⟩
end Go.Proofs.Ytaogmfmphamplaa.WordBackWalk
