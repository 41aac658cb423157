/- Contracts: lists that are told, those of them that are kept (seqs.Of, seqs.Only, Pile.Keep, of whole numbers). -/
import Derived.Test.YtaogmfmphamplaaV20
import Derived.Test.YtaogmfmphamplaaTy
namespace Go.Proofs.Ytaogmfmphamplaa
open Go.RowKit
attribute [local irreducible] Instr.loadAt Instr.storeAt Instr.fieldAt Instr.indexAt Instr.sliceAt Instr.buildSlice Instr.box Instr.alloc Builtin.append_ Builtin.len_ Builtin.min_ Builtin.max_ Calls Instr.build Instr.makeSlice binSem convert Instr.index Instr.range Instr.next
abbrev TIs : Nat := 42
abbrev TSq : Nat := 101
abbrev TKp : Nat := 66
instance : FnT Try.prog TSq := ⟨⟨_, _, _, Try.underlying101⟩⟩
instance : FnT Try.prog TKp := ⟨⟨_, _, _, Try.underlying66⟩⟩
/-- things in memory, of which all are so (they may lie in one another) -/
def obEv (l : List Ob) : Ob := ⟨feet l, fun w => ∀ x ∈ l, x.ok w, fun h hu hS x hx => x.keep (h x hx) hu (fun k hk => hS k (mem_feet.2 ⟨x, hx, hk⟩)), fun h k hk => by
  obtain ⟨x, hx, hk⟩ := mem_feet.1 hk
  exact x.lt (h x hx) k hk⟩
abbrev obIn (v : Value) (l : List Int) : Ob := obSl 3 1 v l.length (l.map (.int .i64))
def one1 (x : Int) : Array Value := #[.int .i64 x]
theorem of_c (v : Value) (w : World) : Fn Try.prog 69 #[v] w fun r w' => r = .func (.func 78) #[] #[.pointer (some ⟨w.heap.size, 0, none⟩)] ∧ (∀ a n c, v = .slice a n c → Blk w' w.heap.size TIs #[v]) ∧ Upd [] w w' := by
  refine fn_enter Try.func69 rfl rfl ?_
  refine bx fun w1 hb1 hu1 hs1 => ?_
  exact ⟨rfl, fun a n c h => by subst h; exact hb1, hu1⟩
theorem of_iter {b : Nat} {v : Value} {l : List Int} (hl : l.length ≤ 4294967296) : IterC Try.prog (.func (.func 78) #[] #[.pointer (some ⟨b, 0, none⟩)]) (l.map one1) (obEv [obBlk b TIs #[v], obIn v l]) := by
  refine ⟨_, _, rfl, HasBody.h, fun lp G Gx o0 W hA hap h0 ho hy => ?_⟩
  have hAk : ∀ {o : Ob} {w' : World}, To W o0.foot w' o.foot → Blk w' b TIs #[v] ∧ Sl w' 3 1 v l.length (l.map (.int .i64)) := fun {o w'} ht => by
    have h2 : (obEv [obBlk b TIs #[v], obIn v l]).ok w' := (obEv [obBlk b TIs #[v], obIn v l]).keep hA ht.up hap
    exact ⟨h2 (obBlk b TIs #[v]) (by simp), h2 (obIn v l) (by simp)⟩
  obtain ⟨hb0, hs0⟩ := hAk (To.refl W o0.foot)
  obtain ⟨va, vc, rfl, -⟩ := hs0.form
  refine fnr_enter Try.func78 rfl rfl ?_
  refine ldb hb0 rfl ?_
  refine len_sl ?_
  refine loop_ruleR [0, 5, 6] [7] (fun vs w' m => ∃ (i : Nat) (o : Ob), vs = [.int .i64 (i : Int)] ∧ i ≤ l.length ∧ m = l.length - i ∧ G i o ∧ o.ok w' ∧ To W o0.foot w' o.foot) rfl [.int .i64 0] l.length rfl ⟨0, o0, rfl, by omega, rfl, h0, ho, To.refl _ _⟩ ?_
  rintro _ w2 m ⟨i, o, rfl, hi, rfl, hG, hok, hto⟩
  refine cd (fun hlt => ?_) (fun hlt => ?_)
  · have hlt : i < l.length := by omega
    obtain ⟨hb2, hs2⟩ := hAk hto
    obtain ⟨vb, vo, vc', he, -⟩ := hs2.some_ (by omega)
    cases he
    refine ix i rfl hlt ?_
    refine ld (v := .int .i64 (l.getD i 0)) (hs2.getD_ rfl i hlt) ?_
    have hx : (l.map one1)[i]? = some (one1 (l.getD i 0)) := by rw [List.getElem?_map, List.getElem?_eq_getElem hlt]; simp [List.getD, hlt]
    refine yl (hy i o w2 (one1 (l.getD i 0)) hx hG hok hto) ?_
    rintro bb w3 ⟨o', hok', hto', ⟨rfl, hG'⟩ | ⟨rfl, hGx⟩⟩
    · refine ar64 (by omega) ?_
      exact round_mkR [.int .i64 ((i + 1 : Nat) : Int)] (l.length - (i + 1)) rfl rfl ⟨i + 1, o', rfl, by omega, rfl, hG', hok', hto.trans hto'⟩ (by omega)
    · exact ⟨o', hok', hto.trans hto', .inr ⟨i, by rw [List.length_map]; exact hlt, hGx⟩⟩
  · have hi : i = l.length := by omega
    subst hi
    exact ⟨o, hok, hto, .inl (by rw [List.length_map]; exact hG)⟩
/-- a function that tells what is kept -/
def KeepV (P : Program) (kv : Value) (l : List Int) (p : Int → Bool) (B : Ob) : Prop :=
  ∃ g lb, kv = .func (.func g) #[] lb ∧ (∀ args w, (callFunc g args).run P w = .ok (.enter g args) w) ∧ ∀ x ∈ l, ∀ w, B.ok w → Fn P g (#[] ++ [Value.int .i64 x].toArray ++ lb) w fun r w' => r = .bool (p x) ∧ Upd [] w w'
theorem cl' {P : Program} {K : Value → World → Prop} {w : World} {f : Nat} {args : Array Value} {R : Value → World → Prop} (hb : ∀ args w, (callFunc f args).run P w = .ok (.enter f args) w) (h : Fn P f args w R) (k : ∀ v w', R v w' → K v w') : CallP P f args K w :=
  have : HasBody P f := ⟨hb⟩
  cl h k
theorem only_c {g1 g2 : Nat} {x1 y1 x2 y2 : Array Value} (w : World) : Fn Try.prog 68 #[.func (.func g1) x1 y1, .func (.func g2) x2 y2] w fun r w' =>
    ∃ b1 b2, r = .func (.func 77) #[] #[.pointer (some ⟨b1, 0, none⟩), .pointer (some ⟨b2, 0, none⟩)] ∧ Blk w' b1 TSq #[.func (.func g1) x1 y1] ∧ Blk w' b2 TKp #[.func (.func g2) x2 y2] ∧ Upd [] w w' ∧ w.heap.size ≤ b1 ∧ b1 < b2 := by
  refine fn_enter Try.func68 rfl rfl ?_
  refine bx fun w1 hb1 hu1 hs1 => ?_
  refine bx fun w2 hb2 hu2 hs2 => ?_
  have hb12 := hb1.upd hu2 (by simp)
  refine ldb hb12 rfl ?_
  refine fn_eq ?_
  refine ldb hb2 rfl ?_
  refine fn_eq ?_
  exact ⟨_, _, rfl, hb12, hb2, hu1.trans hu2, Nat.le_refl _, by omega⟩
def cntK (p : Int → Bool) (l : List Int) (i : Nat) : Nat := ((l.take i).filter p).length
theorem cntK_s (p : Int → Bool) (l : List Int) (i : Nat) (h : i < l.length) : cntK p l (i + 1) = cntK p l i + (if p (l.getD i 0) then 1 else 0) := by
  unfold cntK
  rw [getD_take l i h, List.filter_append, List.length_append]
  generalize l.getD i 0 = x
  cases hp : p x <;> simp [hp]
theorem cntK_at (p : Int → Bool) (l : List Int) (i : Nat) (h : i < l.length) (hp : p (l.getD i 0) = true) : (l.filter p)[cntK p l i]? = some (l.getD i 0) := by
  have e : l.filter p = (l.take i).filter p ++ (l.getD i 0 :: (l.drop (i + 1)).filter p) := by
    rw [← List.filter_cons_of_pos (p := p) hp, ← getD_drop l i h, ← List.filter_append, List.take_append_drop]
  rw [e]
  unfold cntK
  rw [List.getElem?_append_right (Nat.le_refl _), Nat.sub_self]
  rfl
set_option maxRecDepth 10000 in
theorem only_iter {b1 b2 : Nat} {fv kv : Value} {l : List Int} {A B : Ob} {p : Int → Bool} (it : IterC Try.prog fv (l.map one1) A) (hk : KeepV Try.prog kv l p B) (hfv : ∃ g x y, fv = .func (.func g) x y) :
    IterC Try.prog (.func (.func 77) #[] #[.pointer (some ⟨b1, 0, none⟩), .pointer (some ⟨b2, 0, none⟩)]) ((l.filter p).map one1) (obEv [A, B, obBlk b1 TSq #[fv], obBlk b2 TKp #[kv]]) := by
  obtain ⟨gk, lk, rfl, hbk, hk⟩ := hk
  refine ⟨_, _, rfl, HasBody.h, fun lp G Gx o0 W hA hap h0 ho hy => ?_⟩
  have hapl : ∀ k ∈ feet [A, B, obBlk b1 TSq #[fv], obBlk b2 TKp #[.func (.func gk) #[] lk]], k ∉ o0.foot := hap
  have hB1 : Blk W b1 TSq #[fv] := hA (obBlk b1 TSq #[fv]) (by simp)
  obtain ⟨g1, x1, y1, rfl⟩ := hfv
  refine fnr_enter Try.func77 rfl rfl ?_
  refine bx fun w1 hb1 hu1 hs1 => ?_
  have hb1 : Blk w1 W.heap.size TKp #[.func (.yield lp) #[] #[]] := hb1
  refine ldb (hB1.upd hu1 (by simp)) rfl ?_
  have hy0 : W.heap.size ∉ o0.foot := fun hm => by have := o0.lt ho _ hm; omega
  refine ⟨rfl, range_rule it (A.keep (hA A (by simp)) hu1 (by simp)) (fun i o => G (cntK p l i) o) (fun c i o => c = .ret ∧ ∃ j, j < (l.filter p).length ∧ Gx j o) o0 (by simpa [cntK] using h0) (o0.keep ho hu1 (by simp)) (fun k hk => hapl k (mem_feet.2 ⟨A, by simp, hk⟩)) (fun va hva => by
      obtain ⟨x, -, rfl⟩ := List.mem_map.1 hva; rfl) (by decide) (fun i va o w2 w3 hva hG ht2 ho2 ht3 ho3 => ?_) (fun r o w2 hG ho2 ht2 hd hr hro => ?_) (fun r c i o w2 hi hGx ho2 ht2 hd hr hro => ?_)⟩
  · have hil : i < l.length := by
      rcases Nat.lt_or_ge i l.length with h | h
      · exact h
      · rw [List.getElem?_eq_none (by simpa using h)] at hva; cases hva
    have hx : va = one1 (l.getD i 0) := by
      rw [List.getElem?_map, List.getElem?_eq_getElem hil] at hva
      have := Option.some.inj hva
      rw [← this]; simp [List.getD, hil]
    subst hx
    have hcs := cntK_s p l i hil
    have hmem : l.getD i 0 ∈ l := by simp [List.getD, hil]
    have hat := cntK_at p l i hil
    generalize l.getD i 0 = x at *
    have hup : Upd o0.foot W w3 := (hu1.mono (by simp)).trans ht3.up
    have hA3 : (obEv [A, B, obBlk b1 TSq #[.func (.func g1) x1 y1], obBlk b2 TKp #[.func (.func gk) #[] lk]]).ok w3 := (obEv [A, B, obBlk b1 TSq #[.func (.func g1) x1 y1], obBlk b2 TKp #[.func (.func gk) #[] lk]]).keep hA hup hapl
    have hy3 := hb1.upd ht3.up hy0
    refine ⟨rfl, rfl, rfl, ?_⟩
    refine ldb (hA3 (obBlk b2 TKp #[.func (.func gk) #[] lk]) (by simp)) rfl ?_
    refine cl' hbk (hk x hmem w3 (hA3 B (by simp))) ?_
    rintro _ w4 ⟨rfl, hu4⟩
    have ho4 := o.keep ho3 hu4 (by simp)
    have htr : To W o0.foot w4 o.foot := ⟨hup.trans (hu4.mono (by simp)), fun k hk => by
      rcases ht3.sub k hk with h | h
      · exact .inl h
      · have := hu1.size; right; omega⟩
    cases hp : p x with
    | true =>
      rw [hp] at hcs
      refine ldb (hy3.upd hu4 (by simp)) rfl ?_
      refine yl (hy (cntK p l i) o w4 (one1 x) (by rw [List.getElem?_map, hat hp]; rfl) hG ho4 htr) ?_
      rintro bb w5 ⟨o', hok', hto', ⟨rfl, hG'⟩ | ⟨rfl, hGx⟩⟩
      · exact ⟨o', hok', (To.of0 _ hu4).trans hto', (show G (cntK p l (i + 1)) o' by rw [hcs]; exact hG')⟩
      · refine ⟨o', hok', (To.of0 _ hu4).trans hto', rfl, cntK p l i, ?_, hGx⟩
        have := hat hp
        rcases Nat.lt_or_ge (cntK p l i) (l.filter p).length with h | h
        · exact h
        · rw [List.getElem?_eq_none h] at this; cases this
    | false =>
      rw [hp] at hcs
      exact ⟨o, ho4, To.of0 _ hu4, (show G (cntK p l (i + 1)) o by rw [hcs]; exact hG)⟩
  · have e : cntK p l (l.map one1).length = ((l.filter p).map one1).length := by simp [cntK]
    replace hG : G (cntK p l (l.map one1).length) o := hG
    rw [e] at hG
    refine ⟨hd, fun w' hu hz => ⟨o, o.keep ho2 hu (by intro k hk hm; rw [List.mem_singleton.1 hm] at hk; exact hro hk), ⟨((hu1.mono (by simp)).trans ht2.up).step hu (by have := hu1.size; simp; omega), fun k hk => ?_⟩, .inl hG⟩⟩
    rcases ht2.sub k hk with h | h
    · exact .inl h
    · have := hu1.size; right; omega
  · obtain ⟨rfl, j, hj, hGx⟩ := hGx
    refine ⟨hd, fun w' hu hz => ⟨o, o.keep ho2 hu (by intro k hk hm; rw [List.mem_singleton.1 hm] at hk; exact hro hk), ⟨((hu1.mono (by simp)).trans ht2.up).step hu (by have := hu1.size; simp; omega), fun k hk => ?_⟩, .inr ⟨j, by rw [List.length_map]; exact hj, hGx⟩⟩⟩
    rcases ht2.sub k hk with h | h
    · exact .inl h
    · have := hu1.size; right; omega
/-- a list that grows, in its box -/
structure BoxL (bl : Nat) (l : List Int) (i : Nat) (o : Ob) : Prop where
  h : ∃ v, o = obAll [obBlk bl TIs #[v], obIn v (l.take i)]
theorem Upd.own {w w' : World} {v v' : Value} (h : Grow w w' v v') : To w v.ownBlock.toList w' v'.ownBlock.toList := ⟨h.up, fun k hk => by
  rcases h.own k (by simpa using hk) with h1 | h1
  · exact .inl (by simpa using h1)
  · exact .inr h1⟩
theorem BoxL.add {w w1 w2 w3 : World} {bl i : Nat} {l : List Int} {v v' : Value} (hok : (obAll [obBlk bl TIs #[v], obIn v (l.take i)]).ok w) (hi : i < l.length) (hu1 : Upd [] w w1) (hG : Grow w1 w2 v v') (hs : Sl w2 3 1 v' ((l.take i).length + 1) ((l.take i).map (.int .i64) ++ [.int .i64 (l.getD i 0)]))
    (hb : Blk w3 bl TIs #[v']) (hu3 : Upd [bl] w2 w3) : (obAll [obBlk bl TIs #[v'], obIn v' (l.take (i + 1))]).ok w3 ∧ To w (obAll [obBlk bl TIs #[v], obIn v (l.take i)]).foot w3 (obAll [obBlk bl TIs #[v'], obIn v' (l.take (i + 1))]).foot := by
  have hok : Sep w [obBlk bl TIs #[v], obIn v (l.take i)] := hok
  have S1 := hok.upd0 hu1
  have hs' : (obIn v' (l.take (i + 1))).ok w2 := by
    show Sl w2 _ 1 v' (l.take (i + 1)).length _
    rw [getD_take l i hi, List.length_append, List.map_append]
    exact hs
  have t2 : To w1 (obIn v (l.take i)).foot w2 (obIn v' (l.take (i + 1))).foot := Upd.own hG
  have S2 := Sep.set (i := 1) (x := obIn v (l.take i)) (y := obIn v' (l.take (i + 1))) S1 rfl hs' t2
  have t3 : To w2 (obBlk bl TIs #[v]).foot w3 (obBlk bl TIs #[v']).foot := ⟨hu3, fun _ h => .inl h⟩
  have S3 := Sep.set (i := 0) (x := obBlk bl TIs #[v]) (y := obBlk bl TIs #[v']) S2 rfl hb t3
  exact ⟨S3, ((To.of0 _ hu1).trans (To.set (l := [obBlk bl TIs #[v], obIn v (l.take i)]) (i := 1) (x := obIn v (l.take i)) rfl t2)).trans (To.set (i := 0) (x := obBlk bl TIs #[v]) (y := obBlk bl TIs #[v']) rfl t3)⟩
set_option maxRecDepth 10000 in
theorem keep_c {w : World} {pg pi T : Nat} {cs : Array Value} {v : Value} {l : List Int} {kv : Value} {p : Int → Bool} {B : Ob} (hb : Blk w pg T cs) (hcs : cs[pi]? = some v) (hs : Sl w 3 1 v l.length (l.map (.int .i64))) (hl : l.length ≤ 100000) (hT : T ≠ TIs ∧ 3 ≠ T) (hk : KeepV Try.prog kv l p B) (hB : B.ok w) :
    Fn Try.prog 48 #[.pointer (some ⟨pg, pi, none⟩), kv] w fun r w' => ∃ v', r = .int .i64 ((l.length : Int) - (l.filter p).length) ∧ Blk w' pg T (cs.setIfInBounds pi v') ∧ Sl w' 3 1 v' (l.filter p).length ((l.filter p).map (.int .i64)) ∧ Upd [pg] w w' ∧ ∀ g, v'.ownBlock = some g → w.heap.size ≤ g := by
  obtain ⟨va, vc, rfl, -⟩ := hs.form
  have hk' := hk
  obtain ⟨gk, lk, rfl, -, -⟩ := hk'
  have hlf : (l.filter p).length ≤ l.length := List.length_filter_le _ _
  have hpi : pi < cs.size := by
    rcases Nat.lt_or_ge pi cs.size with h | h
    · exact h
    · rw [Array.getElem?_eq_none h] at hcs; cases hcs
  refine fnr_enter Try.func48 rfl rfl ?_
  refine ptr_eq ?_
  refine fn_eq ?_
  refine al #[.slice none 0 0] (fun _ => by kernel_rfl) fun w1 hb1 hu1 hs1 => ?_
  have hb1 : Blk w1 w.heap.size TIs #[.slice none 0 0] := hb1
  refine fa ?_
  refine ld (v := .slice va l.length vc) (by rw [(hb.upd hu1 (by simp)).cell]; exact hcs) ?_
  refine cl (of_c (.slice va l.length vc) w1) ?_
  rintro _ w2 ⟨rfl, hv2, hu2⟩
  have hb2 := hv2 va l.length vc rfl
  refine cl (only_c w2) ?_
  rintro _ w3 ⟨b1, b2, rfl, hq1, hq2, hu3, hz1, hz2⟩
  have hz12 : w1.heap.size ≤ w2.heap.size := hu2.size
  have hU3 : Upd [] w w3 := (hu1.trans hu2).trans hu3
  have hbl3 := (hb1.upd hu2 (by simp)).upd hu3 (by simp)
  have hof := of_iter (b := w1.heap.size) (v := .slice va l.length vc) (l := l) (by omega)
  have hon := only_iter (b1 := b1) (b2 := b2) hof hk ⟨_, _, _, rfl⟩
  have hb23 := hb2.upd hu3 (by simp)
  have hs3 := hs.upd hU3 (by simp)
  have hd2 : w1.heap.size = w.heap.size + 1 := hs1
  refine ⟨rfl, range_rule hon (w := w3) ?_ (fun i o => ∃ v', o = obAll [obBlk w.heap.size TIs #[v'], obIn v' ((l.filter p).take i)]) (fun _ _ _ => False) (obAll [obBlk w.heap.size TIs #[.slice none 0 0], obIn (.slice none 0 0) []]) ⟨.slice none 0 0, rfl⟩ ?_ ?_ (fun va hva => by
      obtain ⟨x, -, rfl⟩ := List.mem_map.1 hva; rfl) (by decide) (fun i va o w4 w5 hva hG ht4 ho4 ht5 ho5 => ?_) (fun r o w4 hG ho4 ht4 hd hr hro => ?_) (fun r c i o w4 hi hGx _ _ _ _ _ => hGx.elim)⟩
  · intro x hx
    simp only [List.mem_cons, List.not_mem_nil, or_false] at hx
    rcases hx with rfl | rfl | rfl | rfl
    · intro y hy
      simp only [List.mem_cons, List.not_mem_nil, or_false] at hy
      rcases hy with rfl | rfl
      · exact hb23
      · exact hs3
    · exact x.keep hB hU3 (by simp)
    · exact hq1
    · exact hq2
  · exact Sep.cons (Sep.cons (Sep.nil w3) (Sl.nil_ _ _ _) (by simp [feet])) hbl3 (by simp [feet, obSl, Value.ownBlock])
  · intro k hk hm
    have e : k = w.heap.size := by simpa [obAll, feet, obBlk, obSl, Value.ownBlock] using hm
    subst e
    simp only [obEv, feet, obBlk, obSl, List.flatMap_cons, List.flatMap_nil, List.append_nil, List.mem_append, List.mem_singleton] at hk
    rcases hk with (h | h) | h | h | h
    · omega
    · have := hs.lt _ (by simpa using h); omega
    · have := B.lt hB _ h; omega
    · omega
    · omega
  · obtain ⟨v', rfl⟩ := hG
    have hil : i < (l.filter p).length := by
      rcases Nat.lt_or_ge i (l.filter p).length with h | h
      · exact h
      · rw [List.getElem?_eq_none (by simpa using h)] at hva; cases hva
    have hx : va = one1 ((l.filter p).getD i 0) := by
      rw [List.getElem?_map, List.getElem?_eq_getElem hil] at hva
      have := Option.some.inj hva
      rw [← this]; simp [List.getD, hil]
    subst hx
    have ho5' : Sep w5 [obBlk w.heap.size TIs #[v'], obIn v' ((l.filter p).take i)] := ho5
    have hblk : Blk w5 w.heap.size TIs #[v'] := ho5'.ok (obBlk w.heap.size TIs #[v']) (by simp)
    have hsl : Sl w5 3 1 v' ((l.filter p).take i).length (((l.filter p).take i).map (.int .i64)) := ho5'.ok (obIn v' ((l.filter p).take i)) (by simp)
    have hln : ((l.filter p).take i).length = i := by rw [List.length_take]; omega
    refine ⟨rfl, rfl, rfl, ?_⟩
    refine ldb hblk rfl ?_
    refine bs (one1 ((l.filter p).getD i 0)) (fun _ => by kernel_rfl) fun w6 hb6 hu6 hs6 => ?_
    refine apg (hsl.upd hu6 (by simp)) hb6 rfl rfl (by decide) (by simp only [maxLen]; omega) (by omega) fun v2 w7 hs7 hG7 => ?_
    have hnb := hsl.blk_ne hblk (by decide)
    have hb7 := (hblk.upd hu6 (by simp)).upd hG7.up (by simpa using hnb)
    obtain ⟨v2a, v2c, rfl, -⟩ := hs7.form
    refine st hb7 (by show 0 < 1; omega) rfl fun w8 hb8 hu8 hs8 => ?_
    obtain ⟨r1, r2⟩ := BoxL.add ho5 hil hu6 hG7 hs7 hb8 hu8
    exact ⟨_, r1, r2, _, rfl⟩
  · obtain ⟨v', rfl⟩ := hG
    have hfull : (l.filter p).take ((l.filter p).map one1).length = l.filter p := by rw [List.length_map, List.take_length]
    rw [hfull] at ho4 hro ht4
    have ho4' : Sep w4 [obBlk w.heap.size TIs #[v'], obIn v' (l.filter p)] := ho4
    have hblk : Blk w4 w.heap.size TIs #[v'] := ho4'.ok (obBlk w.heap.size TIs #[v']) (by simp)
    have hsl : Sl w4 3 1 v' (l.filter p).length ((l.filter p).map (.int .i64)) := ho4'.ok (obIn v' (l.filter p)) (by simp)
    have hfoot0 : (obAll [obBlk w.heap.size TIs #[.slice none 0 0], obIn (.slice none 0 0) []]).foot = [w.heap.size] := by simp [obAll, feet, obBlk, obSl, Value.ownBlock]
    rw [hfoot0] at ht4
    have hpg := hb.lt
    have hb4 := ((hb.upd hU3 (by simp)).upd ht4.up (by simp; omega))
    have hU4 : Upd [] w w4 := hU3.step ht4.up (by simp)
    obtain ⟨va', vc', rfl, -⟩ := hsl.form
    have hown : ∀ g, (Value.slice va' (l.filter p).length vc').ownBlock = some g → w.heap.size ≤ g := fun g hg => by
      rcases ht4.sub g (mem_feet.2 ⟨obIn (.slice va' (l.filter p).length vc') (l.filter p), by simp, by simp [obSl, hg]⟩) with h | h
      · simp at h; omega
      · have := hU3.size; omega
    refine draw_allR (fun w' => w' = w4.drew) (by decide +kernel) rfl ?_
    refine q_fa ?_
    refine q_ld (v := .slice va l.length vc) (by rintro _ rfl; rw [hb4.drew.cell]; exact hcs) ?_
    refine q_len ?_
    refine q_ld (v := .slice va' (l.filter p).length vc') (by rintro _ rfl; exact hblk.drew.cell 0) ?_
    refine q_len ?_
    refine q_ar64 (by omega) ?_
    rintro _ rfl
    refine ldb hblk.drew rfl ?_
    refine fa ?_
    refine st hb4.drew hpi rfl fun w6 hb6 hu6 hs6 => ?_
    refine ⟨(hd.upd (Upd.refl [] w4).drew (by simp)).upd hu6 (by have := hU3.size; simp; omega), fun w7 hu7 hz7 => ?_⟩
    have hrn : r ∉ ([pg] : List Nat) := by have := hU3.size; simp; omega
    refine ⟨_, rfl, hb6.upd hu7 (by have := hU3.size; simp; omega), ?_, ((hU4.drew.mono (by simp)).step hu6 (by simp)).step hu7 (by have := hU3.size; simp; omega), hown⟩
    have hs6 := hsl.drew.upd hu6 (by intro g hg; have := hown g hg; simp; omega)
    refine hs6.upd hu7 (fun g hg hm => ?_)
    have e : g = r := List.mem_singleton.1 hm
    subst e
    exact hro (mem_feet.2 ⟨obIn (.slice va' (l.filter p).length vc') (l.filter p), by simp, by simp [obSl, hg]⟩)
end Go.Proofs.Ytaogmfmphamplaa
