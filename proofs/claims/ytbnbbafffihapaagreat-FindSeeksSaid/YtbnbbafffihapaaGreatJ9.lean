/- Joined: Rk. -/
import Derived.Test.YtbnbbafffihapaaGreatJ8
/- The law SkipShows: its walk. -/
namespace Go.Proofs.YtbnbbafffihapaaGreat
open Go.RowKit
attribute [local irreducible] Instr.loadAt Instr.storeAt Instr.fieldAt Instr.indexAt Instr.sliceAt Instr.buildSlice Instr.box Instr.alloc Builtin.append_ Builtin.len_ Builtin.min_ Builtin.max_ Calls Instr.build Instr.makeSlice binSem convert Instr.index Instr.range Instr.next
theorem and255 {P : Program} {K : Value → World → Prop} {w : World} {t : Nat} {y z : Operand} {x : Int} (m : Int) (hm : m = x % 256) (k : K (.int .i64 m) w) : RunP P (binSem .and t y z (.int .i64 x) (.int .i64 255)) K w :=
  rn _ _ (by
    have e : ((BitVec.ofInt 64 x &&& BitVec.ofInt 64 255).toNat : Int) = x % 256 := by
      rw [BitVec.toNat_and, BitVec.toNat_ofInt, BitVec.toNat_ofInt]
      rw [show ((255 : Int) % (2 ^ 64 : Nat)).toNat = 2 ^ 8 - 1 by decide, Nat.and_two_pow_sub_one_eq_mod]
      omega
    have e2 : IntKind.i64.wrap (x % 256) = x % 256 := IntWalk.i64_in _ (by omega)
    simp only [binSem, eqGuard, binOp, Op.intBits]
    show (Sem.pure (Value.int IntKind.i64 (IntKind.i64.wrap ((BitVec.ofInt 64 x &&& BitVec.ofInt 64 255).toNat : Int)))).run P w = _
    rw [e, e2, hm]
    rfl) k
theorem part0x {A : Int} (ho : okS A 20) (l : List Nd) : Part (WX A 20) 20 l 0 0 0 [1, 1, 1, 1] :=
  ⟨ho.1, ho.2.1, rfl, fun k hk => ⟨0, by rcases (show k = 0 ∨ k = 1 ∨ k = 2 ∨ k = 3 by omega) with rfl | rfl | rfl | rfl <;> rfl, Nat.zero_le _, .inl rfl, fun j h1 h2 => by unfold cnt at h2; rw [if_neg (by omega)] at h2; omega⟩,
    fun k f h1 h2 h3 h4 => by unfold cnt at h4; rw [if_neg (by omega)] at h4; omega, fun j hj => by omega⟩
theorem okS_20 {A : Int} (hA : inA A) : okS A 20 := by
  rcases hA with rfl | rfl
  · exact okS_1_20
  · exact okS_2_20
/-- nodes of fitting heights -/
def tallsOk (l : List Nd) : Prop := ∀ i, i < l.length → 1 ≤ (ndAt l i).tall ∧ (ndAt l i).tall ≤ 4
theorem tallsOk.nds {l : List Nd} (h : tallsOk l) (hl : l.length ≤ 18) (hu : NdU l) : NdsOk l 20 := ⟨by omega, by omega, by omega, fun i hi => ⟨(hu.at_ hi).1, h i hi⟩⟩
theorem layx_c {A : Int} (hA : inA A) {q : Int} (hq : 1 + q % 2 = A) {w w1 : World} {X : Mc} {k : Int} {t : PT} {v : Value} {l : List Nd} (F : FstX A w w1 X 20 k t) (hl : RdNd w v l) (hu : NdU l) (ht : tallsOk l) (h18 : l.length ≤ 18) :
    Fn Tryz.prog 17 #[ptrV X.m, .int .i64 q, v] w1 fun _ w' => ∃ Y W k' a, LX A w w' Y 20 W k' a t ∧ Y.m = X.m ∧ Laid W A l ∧ 0 ≤ k' ∧ k' ≤ 2000 := by
  have ho := okS_20 hA
  have hk0 := F.k0
  have key : Fn Tryz.prog 17 #[ptrV X.m, .int .i64 q, v] w1 fun _ w' => ∃ W' k' a', Ev w1 X w' (MX A 20 W' k' a' t) ∧ Lays W' 20 (lnk A l) ∧ VT W' 20 A l l.length ∧ (∀ x ∈ W', u64R x) ∧ 0 ≤ k' ∧ k' ≤ k + 400 := by
    rcases hA with rfl | rfl
    · exact layX_1 (by omega) F.new F.calm F.abs (part0x ho _) (ht.nds h18 hu) (fun x hx => (hu x hx).2) hl ⟨by omega, by omega⟩
    · exact layX_2 (by omega) F.new F.calm F.abs (part0x ho _) (ht.nds h18 hu) (fun x hx => (hu x hx).2) hl ⟨by omega, by omega⟩
  refine key.mono ?_
  rintro _ w2 ⟨u, he, W', k', a', hev, h1, h2, h3, h4, h5⟩
  obtain ⟨Y, H, hm, -⟩ := F.lx.ev hev
  exact ⟨u, he, Y, W', k', a', H, hm, ⟨hA, h1, h2, hu, h3⟩, h4, by omega⟩
theorem Laid.q {A : Int} {w w' : World} {X : Mc} {W : List Int} {k : Int} {a : Bool} {t : PT} {l : List Nd} (h : Laid W A l) (H : LX A w w' X 20 W k a t) : Qm w' X := H.q h.a (by omega) (by omega) h.ly.len h.u64
theorem rowget {l : List Nd} {k i : Nat} (hi : i < l.length) (hp : tallP l k i = true) : ((tallIx l k).map fun (i : Nat) => (i : Int) + 3).getD (rk (tallP l k) i) 0 = (i : Int) + 3 := by
  have := filter_at (tallP l k) hi hp
  unfold tallIx
  simp only [List.getD, List.getElem?_map, this]
  rfl
end Go.Proofs.YtbnbbafffihapaaGreat

