/-
  Arguments of any data type that came in, opened: a combinator for each kind of type.
  Conditions: those of each statement.
-/
import Derived.Test.YtbnjhpknagkiaaaDt
import Derived.Deep.Slices
import Derived.ChangeSame
import Derived.Below
import Derived.WalkKit
namespace Go.Proofs.Ytbnjhpknagkiaaa
open Go.RowKit Go.ChangeShapes Go.WideShapes

/-- whatever reads at type t is data of α -/
def Opens (P : Program) (t : TypeId) (α : Type) [Rep α] : Prop :=
  ∀ (H : Type) (enc : TypeId × Value → H) (w : World) (base : Nat) (sp : Nat → Bool) (held : Bool) (fuel : Nat) (cs : List Value) (x : DataW H × List MemPlace), DataW.trod enc P w base sp held fuel t cs = some x → ∃ a : α, Rep.r w (Bw w) cs a

theorem opens_int {P : Program} {t : TypeId} (ht : P.underlying t = some (.int .i64)) : Opens P t Int := fun H enc w base sp held fuel cs x h => by
  obtain ⟨z, e0, _, wz⟩ := DataW.trod_int ht h
  exact ⟨z, e0, I6.mk (by simpa [Lit.wf, IntKind.min, IntKind.max, IntKind.signed, IntKind.bits] using wz)⟩
theorem opens_u8 {P : Program} {t : TypeId} (ht : P.underlying t = some (.int .u8)) : Opens P t UInt8 := fun H enc w base sp held fuel cs x h => by
  obtain ⟨z, e0, _, wz⟩ := DataW.trod_int ht h
  have h' : 0 ≤ z ∧ z ≤ 255 := by simpa [Lit.wf, IntKind.min, IntKind.max, IntKind.signed, IntKind.bits] using wz
  refine ⟨UInt8.ofNat z.toNat, ?_⟩
  show cs = [.int .u8 ((UInt8.ofNat z.toNat).toNat : Int)]
  rw [e0, UInt8.toNat_ofNat']
  congr 2
  omega
theorem opens_text {P : Program} {t : TypeId} (ht : P.underlying t = some .string) : Opens P t Tx := fun H enc w base sp held fuel cs x h => by
  obtain ⟨s, e0, _, hs⟩ := DataW.trod_string ht h
  refine ⟨⟨s.data.toList⟩, ?_, ?_⟩
  · rw [e0]
  · simpa using hs
theorem opens_slice {P : Program} {t e : TypeId} {α : Type} [Rep α] (ht : P.underlying t = some (.slice e)) (he : Opens P e α) (hc : P.cellsOf e = Rep.n α) (hp : 0 < Rep.n α) : Opens P t (List α) := fun H enc w base sp held fuel cs x h => by
  rcases Deep.open_slice ht h with ⟨rfl, _⟩ | ⟨a, len, cap, m, n, D, Pl, rfl, _, hl, hm, hmm, _, hx⟩
  · exact ⟨[], _, rfl, SL.nil_ _ _⟩
  · have hlm : len ≤ m := by rw [hmm]; split <;> omega
    have key : ∀ k, k ≤ len → ∃ (xs : List Value) (l : List α), l.length = k ∧ Reps w (Bw w) xs l ∧ ∀ j u, xs[j]? = some u → w.cell? (a.add j) = some u := by
      intro k
      induction k with
      | zero => exact fun _ => ⟨[], [], rfl, rfl, fun j u hu => by simp at hu⟩
      | succ k ih =>
        intro hk
        obtain ⟨xs, l, h1, h2, h3⟩ := ih (by omega)
        obtain ⟨cs', h4, h5⟩ := hx k (by omega)
        obtain ⟨v, hv⟩ := he H enc w base sp held n cs' _ h5
        obtain ⟨_, hlen, hcell⟩ := World.cells?_some h4
        rw [hc] at hlen
        refine ⟨xs ++ cs', l ++ [v], by simp [h1], h2.snoc hv, fun j u hu => ?_⟩
        have hxl := h2.len
        rw [h1] at hxl
        rcases Nat.lt_or_ge j xs.length with hj | hj
        · rw [List.getElem?_append_left hj] at hu
          exact h3 j u hu
        · rw [List.getElem?_append_right hj] at hu
          have hj2 : j - xs.length < cs'.length := (List.getElem?_eq_some_iff.1 hu).1
          have := hcell (j - xs.length) (by rw [hc]; omega)
          rw [addAdd, hc, ← hxl, show xs.length + (j - xs.length) = j from by omega] at this
          rw [this]
          exact hu
    obtain ⟨xs, l, h1, h2, h3⟩ := key len (Nat.le_refl _)
    have hxl := h2.len
    refine ⟨l, .slice (some a) len cap, rfl, some a, cap, xs, by rw [h1], by omega, hm, fun h => (by cases h), ⟨hxl, fun hn => ⟨a, rfl, ?_, h3⟩⟩, h2⟩
    have hx0 : 0 < xs.length := by rw [hxl]; exact Nat.mul_pos hn hp
    have := World.block_lt_of_cell? _ _ (h3 0 xs[0] (by simp [hx0]))
    rwa [addBlock] at this
theorem opens_pair {P : Program} {t : TypeId} {f0 f1 : Field} {α β : Type} [Rep α] [Rep β] (hs : P.underlying t = some (.struct #[f0, f1])) (h0 : Opens P f0.type α) (h1 : Opens P f1.type β)
    (o0 : f0.offset = 0) (o1 : f1.offset = Rep.n α) (c0 : P.cellsOf f0.type = Rep.n α) (c1 : P.cellsOf f1.type = Rep.n β) (ct : P.cellsOf t = Rep.n α + Rep.n β) : Opens P t (α × β) := fun H enc w base sp held fuel cs x h => by
  obtain ⟨xs, k, _, _, hlen, hxl, hf⟩ := DataW.trod_struct hs h
  rw [ct] at hlen
  match xs, hxl with
  | [y0, y1], _ =>
    have g0 := hf 0 f0 rfl
    have g1 := hf 1 f1 rfl
    rw [o0, c0, List.drop_zero] at g0
    rw [o1, c1, List.take_of_length_le (by rw [List.length_drop]; omega)] at g1
    obtain ⟨a, ha⟩ := h0 H enc w base sp held k _ _ g0
    obtain ⟨b, hb⟩ := h1 H enc w base sp held k _ _ g1
    exact ⟨(a, b), _, _, (List.take_append_drop _ _).symm, ha, hb⟩
theorem opens_four {P : Program} {t : TypeId} {f0 f1 f2 f3 : Field} {α β γ δ : Type} [Rep α] [Rep β] [Rep γ] [Rep δ] (hs : P.underlying t = some (.struct #[f0, f1, f2, f3])) (h0 : Opens P f0.type α) (h1 : Opens P f1.type β) (h2 : Opens P f2.type γ) (h3 : Opens P f3.type δ)
    (o0 : f0.offset = 0) (o1 : f1.offset = Rep.n α) (o2 : f2.offset = Rep.n α + Rep.n β) (o3 : f3.offset = Rep.n α + Rep.n β + Rep.n γ) (c0 : P.cellsOf f0.type = Rep.n α) (c1 : P.cellsOf f1.type = Rep.n β) (c2 : P.cellsOf f2.type = Rep.n γ) (c3 : P.cellsOf f3.type = Rep.n δ)
    (ct : P.cellsOf t = Rep.n α + Rep.n β + Rep.n γ + Rep.n δ) : Opens P t (α × β × γ × δ) := fun H enc w base sp held fuel cs x h => by
  obtain ⟨xs, k, _, _, hlen, hxl, hf⟩ := DataW.trod_struct hs h
  rw [ct] at hlen
  match xs, hxl with
  | [y0, y1, y2, y3], _ =>
    have g0 := hf 0 f0 rfl
    have g1 := hf 1 f1 rfl
    have g2 := hf 2 f2 rfl
    have g3 := hf 3 f3 rfl
    rw [o0, c0, List.drop_zero] at g0
    rw [o1, c1] at g1
    rw [o2, c2] at g2
    rw [o3, c3, List.take_of_length_le (by rw [List.length_drop]; omega)] at g3
    obtain ⟨a, ha⟩ := h0 H enc w base sp held k _ _ g0
    obtain ⟨b, hb⟩ := h1 H enc w base sp held k _ _ g1
    obtain ⟨c, hc⟩ := h2 H enc w base sp held k _ _ g2
    obtain ⟨d, hd⟩ := h3 H enc w base sp held k _ _ g3
    refine ⟨(a, b, c, d), _, _, (List.take_append_drop (Rep.n α) cs).symm, ha, _, _, (List.take_append_drop (Rep.n β) _).symm, hb, _, _, (List.take_append_drop (Rep.n γ) _).symm, ?_, ?_⟩
    · rw [List.drop_drop]
      exact hc
    · rw [List.drop_drop, List.drop_drop, ← Nat.add_assoc]
      exact hd
/-- an argument -/
theorem Opens.arg {P : Program} {t : TypeId} {α : Type} [Rep α] (h : Opens P t α) {H : Type} {enc : TypeId × Value → H} {w : World} {base : Nat} {sp : Nat → Bool} {held : Bool} {v : Value} {d : DataW H} {ps : List MemPlace}
    (ht : DataW.Trod enc P w base sp held t v d ps) : ∃ a : α, Rep.r w (Bw w) v.cells.toList a := by
  obtain ⟨fuel, hf⟩ := ht
  exact h H enc w base sp held fuel _ _ hf
/-- a slice that came in -/
theorem Opens.slice {P : Program} {t : TypeId} {α : Type} [Rep α] (h : Opens P t (List α)) {H : Type} {enc : TypeId × Value → H} {w : World} {base : Nat} {sp : Nat → Bool} {held : Bool} {A : Option Addr} {n c : Nat} {d : DataW H} {ps : List MemPlace}
    (ht : DataW.Trod enc P w base sp held t (.slice A n c) d ps) : ∃ l : List α, SL w (Bw w) (.slice A n c) l := by
  obtain ⟨l, v, hv, hl⟩ := h.arg ht
  simp [Value.cells] at hv
  subst hv
  exact ⟨l, hl⟩

end Go.Proofs.Ytbnjhpknagkiaaa
