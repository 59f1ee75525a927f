/-
  Terms being gathered: what memory holds between two rounds.
  Conditions: those of each statement.
-/
import Derived.Test.YtbnjhpknagkiaaaUj
import Derived.Test.YtbnjhpknagkiaaaYg
import Derived.Test.YtbnjhpknagkiaaaDt
import Derived.Test.YtbnjhpknagkiaaaEc
namespace Go.Proofs.Ytbnjhpknagkiaaa
open Go.RowKit Go.Op

/-- a term's two cells -/
structure Tq where
  s : List UInt8
  A : Option Addr
  n : Nat
  c : Nat
instance : Rep Tq where
  n := 2
  r _ _ cs t := cs = [.string ⟨t.s.toArray⟩, .slice t.A t.n t.c]
  len := fun h => by rw [h]; rfl
  keep := fun h _ => h
  more := fun h _ => h
  one := fun h u hu => by
    rw [h] at hu
    simp only [List.mem_cons, List.not_mem_nil, or_false] at hu
    rcases hu with rfl | rfl <;> rfl
/-- a term of one place: its text, the place, the block where that lies -/
abbrev Pq := List UInt8 × Int × Nat
def toQ (p : Pq) : Tq := ⟨p.1, some ⟨p.2.2, 0, none⟩, 1, 1⟩
theorem info_term : (Try.prog.info? 52).map (fun i => (i.zero, i.size, i.bytes)) = some (some (.agg #[.string ⟨#[]⟩, .slice none 0 0]), 2, 40) := by kernel_rfl

/-- all but block B and rows of terms stays -/
structure KT (B : Nat) (W W' : World) : Prop where
  os : W'.os = W.os
  tape : W'.tape = W.tape
  output : W'.output = W.output
  size : W.heap.size ≤ W'.heap.size
  same : ∀ (k : Nat) (o : Obj), W.heap[k]? = some o → k ≠ B → (∀ cs f, o ≠ Obj.cells cs 52 f) → W'.heap[k]? = some o
section
variable {B : Nat} {W W' W'' : World}
theorem KT.refl (B : Nat) (W : World) : KT B W W := ⟨rfl, rfl, rfl, Nat.le_refl _, fun _ _ h _ _ => h⟩
theorem KT.trans (h : KT B W W') (k : KT B W' W'') : KT B W W'' := ⟨k.os.trans h.os, k.tape.trans h.tape, k.output.trans h.output, Nat.le_trans h.size k.size, fun i o e hb hc => k.same i o (h.same i o e hb hc) hb hc⟩
theorem KT.of_ext (B : Nat) (h : Ext W W') : KT B W W' := ⟨h.os, h.tape, h.output, h.size, fun i _ e _ _ => (h.block i (Array.getElem?_eq_some_iff.1 e).1).trans e⟩
theorem KT.grown (B : Nat) {row : Option Nat} (h : W.grownBy W' row) (hr : ∀ r, row = some r → ∃ cs f, W.heap[r]? = some (Obj.cells cs 52 f)) : KT B W W' :=
  ⟨h.os, h.tape, h.output, h.size, fun i o e _ hc => (h.block i (Array.getElem?_eq_some_iff.1 e).1 (fun he => by
    obtain ⟨cs, f, hk⟩ := hr i he.symm
    rw [hk] at e
    injection e with e
    exact hc cs f e.symm)).trans e⟩
theorem KT.setB (B : Nat) (W : World) (v : Value) : KT B W (W.setCell ⟨B, 0, none⟩ v) :=
  have hg := grownBy_setCell' W B v
  ⟨hg.os, hg.tape, hg.output, hg.size, fun i _ e hb _ => (hg.block i (Array.getElem?_eq_some_iff.1 e).1 (fun he => hb (by injection he))).trans e⟩
theorem KT.others {t : TypeId} {v : Value} (h : KT B W W') (hb : Boxed W B t v) : KeepsOthers W W' := ⟨h.size, fun i o e ho => h.same i o e (fun he => by
    subst he
    rw [show W.heap[i]? = _ from hb] at e
    injection e with e
    subst e
    cases ho) (fun cs f he => by subst he; cases ho)⟩
theorem KT.kpF {t : TypeId} {v : Value} (h : KT B W W') (hb : Boxed W B t v) (ht : t ≠ 59) : KpF W W' := fun i cs f e => h.same i _ e (fun he => by
    subst he
    rw [show W.heap[i]? = _ from hb] at e
    injection e with e
    injection e with _ e _
    exact ht e) (fun cs' f' he => by injection he with _ he _; exact absurd he (by decide))
end
theorem row_type {W : World} {base : Nat} {e : TypeId} {size n : Nat} {v : Value} {xs : List Value} (h : W.ownsRow base e size v n xs) : ∀ r, v.ownBlock = some r → ∃ cs, W.heap[r]? = some (Obj.cells cs e (0, 0)) := by
  intro r hr
  rcases h.2 with ⟨rfl, _⟩ | ⟨g, cap, cur, rfl, _, hg, _⟩
  · simp [Value.ownBlock] at hr
  · obtain rfl : g = r := by simpa [Value.ownBlock] using hr
    exact ⟨cur, hg⟩

/-- between two rounds -/
structure LSt (w1 : World) (B : Nat) (ev : Array Value) (W : World) (vl : Value) (P : List Pq) : Prop where
  bl : Boxed W B 46 vl
  be : W.heap[B + 1]? = some (.cells ev 40 (0, 0))
  own : OwnL W (B + 4) 52 (fun _ => False) vl (P.map toQ)
  pos : ∀ p ∈ P, W.heap[p.2.2]? = some (.cells #[.int .i64 p.2.1] 3 (0, 0)) ∧ B + 4 ≤ p.2.2 ∧ I6 p.2.1
  nd : (P.map (·.2.2)).Nodup
  bel : Below B w1 W
  size : B + 4 ≤ W.heap.size
section
variable {w1 : World} {B : Nat} {ev : Array Value} {W W' : World} {vl : Value} {P : List Pq}
theorem LSt.ext (h : LSt w1 B ev W vl P) (hx : Ext W W') : LSt w1 B ev W' vl P := by
  have hk : ∀ (k : Nat) (o : Obj), W.heap[k]? = some o → W'.heap[k]? = some o := fun k o e => (hx.block k (Array.getElem?_eq_some_iff.1 e).1).trans e
  exact ⟨hk _ _ h.bl, hk _ _ h.be, h.own.ext hx, fun p hp => ⟨hk _ _ (h.pos p hp).1, (h.pos p hp).2⟩, h.nd, Below.trans h.bel (hx.mono (by have := h.size; omega)), Nat.le_trans h.size hx.size⟩
/-- a block of the loop's own is turned -/
theorem LSt.turn (h : LSt w1 B ev W vl P) {r : Nat} {o : Obj} (o' : Obj) (hr : r = B + 2 ∨ r = B + 3) (ho : W.heap[r]? = some o) (hc : o.isCells = false) : LSt w1 B ev (W.putObj r o') vl P := by
  have hg := grownBy_putObj' W r o'
  have hk : ∀ (k : Nat) (q : Obj), k ≠ r → W.heap[k]? = some q → (W.putObj r o').heap[k]? = some q := fun k q hne e => (hg.block k (Array.getElem?_eq_some_iff.1 e).1 (fun e => by injection e with e; exact hne e)).trans e
  refine ⟨hk _ _ (by omega) h.bl, hk _ _ (by omega) h.be, h.own.kept hg ?_ (fun _ _ hf => hf.elim), fun p hp => ⟨hk _ _ (by have := (h.pos p hp).2.1; omega) (h.pos p hp).1, (h.pos p hp).2⟩, h.nd, h.bel.grown hg (by have := h.size; omega) (fun k e => by injection e with e; omega), by simpa using h.size⟩
  cases hv : vl.ownBlock with
  | none => exact .inl rfl
  | some b =>
    refine .inr fun e => ?_
    injection e with e
    obtain ⟨xs, h1, _⟩ := h.own
    obtain ⟨cs, hcs⟩ := row_type h1 b hv
    rw [e, ho] at hcs
    injection hcs with hcs
    subst hcs
    cases hc
/-- one more -/
theorem LSt.add {Wb W6 : World} {vl' : Value} {s : List UInt8} {p : Int} {b : Nat} (h : LSt w1 B ev W vl P) (hx : Ext W Wb) (hb : Wb.heap[b]? = some (.cells #[.int .i64 p] 3 (0, 0))) (hbs : W.heap.size ≤ b) (h6 : I6 p)
    (ho : OwnL W6 (B + 4) 52 (fun _ => False) vl' (P.map toQ ++ [⟨s, some ⟨b, 0, none⟩, 1, 1⟩])) (hg : Wb.grownBy W6 vl.ownBlock) :
    LSt w1 B ev (W6.setCell ⟨B, 0, none⟩ vl') vl' (P ++ [(s, p, b)]) ∧ KT B W (W6.setCell ⟨B, 0, none⟩ vl') ∧ Boxed W6 B 46 vl := by
  have hb1 := h.ext hx
  have hty : ∀ r, vl.ownBlock = some r → ∃ cs f, Wb.heap[r]? = some (Obj.cells cs 52 f) := fun r hr => by
    obtain ⟨xs, h1, _⟩ := hb1.own
    obtain ⟨cs, hcs⟩ := row_type h1 r hr
    exact ⟨cs, _, hcs⟩
  have k1 := KT.grown B hg hty
  have k2 := k1.trans (KT.setB B W6 vl')
  have hge := hb1.own.ge
  have hbl6 : Boxed W6 B 46 vl := (hg.block B hb1.bl.lt (fun e => by have := hge B e.symm; omega)).trans hb1.bl
  have hlt : ∀ q ∈ P, q.2.2 < b := fun q hq => Nat.lt_of_lt_of_le (Array.getElem?_eq_some_iff.1 (h.pos q hq).1).1 hbs
  have hs := h.size
  refine ⟨⟨hbl6.set _, k2.same _ _ hb1.be (by omega) (fun cs f e => by injection e with _ e _; exact absurd e (by decide)), ?_, fun q hq => ?_, ?_, ?_, ?_⟩, (KT.of_ext B hx).trans k2, hbl6⟩
  · rw [List.map_append]
    refine ho.kept (grownBy_setCell' W6 B vl') ?_ (fun _ _ hf => hf.elim)
    obtain ⟨xs, h1, _⟩ := ho
    exact .inr fun e => (hbl6.not_row (by decide) h1) e.symm
  · rcases List.mem_append.1 hq with hq | hq
    · obtain ⟨q1, q2⟩ := hb1.pos q hq
      exact ⟨k2.same _ _ q1 (by omega) (fun cs f e => by injection e with _ e _; exact absurd e (by decide)), q2⟩
    · simp only [List.mem_singleton] at hq
      subst hq
      exact ⟨k2.same _ _ hb (by dsimp only; omega) (fun cs f e => by injection e with _ e _; exact absurd e (by decide)), by dsimp only; omega, h6⟩
  · rw [List.map_append, List.nodup_append]
    refine ⟨h.nd, by simp, fun a ha c hc => ?_⟩
    obtain ⟨q, hq, rfl⟩ := List.mem_map.1 ha
    simp only [List.map_cons, List.map_nil, List.mem_singleton] at hc
    have := hlt q hq
    omega
  · exact (hb1.bel.grown hg (by have := hb1.size; omega) (fun k e => by have := hge k e; omega)).setCell (p := ⟨B, 0, none⟩) (Nat.le_refl _) _
  · have := k2.size
    have := hb1.size
    omega
end
end Go.Proofs.Ytbnjhpknagkiaaa
