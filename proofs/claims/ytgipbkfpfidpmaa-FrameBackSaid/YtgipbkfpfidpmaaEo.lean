/-
  A row of slices that grows: its elements lie outside the row's own block.
  Conditions: those of each statement.
-/
import Derived.Test.YtgipbkfpfidpmaaSv
import Derived.Test.YtgipbkfpfidpmaaBb
namespace Go.Proofs.Ytgipbkfpfidpmaa
open Go.RowKit

theorem BS.block_lt {w : World} {B : Nat} {v : Value} {bs : List UInt8} (h : BS w B v bs) (hn : 0 < bs.length) : ∃ k, v.ownBlock = some k ∧ k < B := by
  obtain ⟨A, c, rfl, _, _, _, h4⟩ := h
  obtain ⟨ad, rfl, hb, _⟩ := h4.2 hn
  exact ⟨ad.block, rfl, hb⟩
theorem BS.kept {w w' : World} {B : Nat} {v : Value} {bs : List UInt8} {row : Option Nat} (h : BS w B v bs) (hB : B ≤ w.heap.size) (hg : w.grownBy w' row) (hne : 0 < bs.length → v.ownBlock ≠ row) : BS w' B v bs := by
  obtain ⟨A, c, rfl, h1, h2, h3, h4⟩ := h
  refine ⟨A, c, rfl, h1, h2, h3, h4.1, fun hn => ?_⟩
  obtain ⟨ad, rfl, hb, hc⟩ := h4.2 hn
  refine ⟨ad, rfl, hb, fun j u hu => ?_⟩
  rw [World.cell?_of_block (w := w) (w' := w') (a := ad.add j) (by rw [addBlock]; exact hg.block _ (by omega) (hne hn))]
  exact hc j u hu
/-- the elements vs of a row whose block is 'row' read as l; none lies in that block -/
def EachO (w : World) (row : Option Nat) (vs : List Value) (l : List (List UInt8)) : Prop :=
  vs.length = l.length ∧ ∀ i (_ : i < l.length), ∃ u, vs[i]? = some u ∧ BS w w.heap.size u l[i] ∧ (0 < l[i].length → u.ownBlock ≠ row)
theorem EachO.nil_ (w : World) (row : Option Nat) : EachO w row [] [] := ⟨rfl, fun i hi => by cases hi⟩
theorem EachO.up {w w' : World} {row : Option Nat} {vs : List Value} {l : List (List UInt8)} (h : EachO w row vs l) (hx : Ext w w') : EachO w' row vs l :=
  ⟨h.1, fun i hi => by obtain ⟨u, hu, hb, hn⟩ := h.2 i hi; exact ⟨u, hu, (hb.ext (Nat.le_refl _) hx).more hx.size, hn⟩⟩
theorem EachO.move {w w' : World} {row row' : Option Nat} {vs : List Value} {l : List (List UInt8)} (h : EachO w row vs l) (hg : w.grownBy w' row) (hr : row' = row ∨ row' = some w.heap.size) : EachO w' row' vs l :=
  ⟨h.1, fun i hi => by
    obtain ⟨u, hu, hb, hn⟩ := h.2 i hi
    refine ⟨u, hu, (hb.kept (Nat.le_refl _) hg hn).more hg.size, fun h0 => ?_⟩
    rcases hr with rfl | rfl
    · exact hn h0
    · obtain ⟨k, hk, hlt⟩ := hb.block_lt h0
      rw [hk]
      intro e
      injection e with e
      omega⟩
theorem EachO.snoc {w : World} {row : Option Nat} {vs : List Value} {l : List (List UInt8)} (h : EachO w row vs l) {u : Value} {bs : List UInt8} (hu : BS w w.heap.size u bs) (hn : 0 < bs.length → u.ownBlock ≠ row) : EachO w row (vs ++ [u]) (l ++ [bs]) := by
  refine ⟨by simp [h.1], fun i hi => ?_⟩
  by_cases h1 : i < l.length
  · obtain ⟨u', hu', hb, hn'⟩ := h.2 i h1
    exact ⟨u', by rw [List.getElem?_append_left (by rw [h.1]; exact h1)]; exact hu', by rw [List.getElem_append_left h1]; exact hb, by rw [List.getElem_append_left h1]; exact hn'⟩
  · have : i = l.length := by simp at hi; omega
    subst this
    exact ⟨u, by rw [← h.1]; simp, by simpa using hu, by simpa using hn⟩
theorem EachO.bbs {w : World} {row : Option Nat} {base : Nat} {v : Value} {vs : List Value} {l : List (List UInt8)} (h : EachO w row vs l) (ho : w.ownsRow base 22 1 v l.length vs) : BBS w w.heap.size v l :=
  ⟨vs, SV.of_own ho, fun i hi => by obtain ⟨u, hu, hb, _⟩ := h.2 i hi; exact ⟨u, hu, hb⟩⟩

end Go.Proofs.Ytgipbkfpfidpmaa
