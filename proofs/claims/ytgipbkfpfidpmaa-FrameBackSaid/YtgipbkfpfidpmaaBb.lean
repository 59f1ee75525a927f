/-
  A slice of slices of bytes.
  Conditions: those of each statement.
-/
import Derived.Test.YtgipbkfpfidpmaaSv
namespace Go.Proofs.Ytgipbkfpfidpmaa
open Go.RowKit

/-- v is a slice of slices of bytes that read as l -/
def BBS (w : World) (B : Nat) (v : Value) (l : List (List UInt8)) : Prop :=
  ∃ vs : List Value, SV w B 1 v l.length vs ∧ ∀ i (_ : i < l.length), ∃ u, vs[i]? = some u ∧ BS w B u l[i]
theorem BBS.nil_ (w : World) (B : Nat) : BBS w B (.slice none 0 0) [] := ⟨[], SV.nil_ w B 1, fun i h => by cases h⟩
theorem BBS.ext {w w' : World} {B : Nat} {v : Value} {l : List (List UInt8)} (h : BBS w B v l) (hB : B ≤ w.heap.size) (hx : Ext w w') : BBS w' B v l := by
  obtain ⟨vs, h1, h2⟩ := h
  refine ⟨vs, h1.ext hB hx, fun i hi => ?_⟩
  obtain ⟨u, hu, hb⟩ := h2 i hi
  exact ⟨u, hu, hb.ext hB hx⟩
theorem BBS.more {w : World} {B B' : Nat} {v : Value} {l : List (List UInt8)} (h : BBS w B v l) (hB : B ≤ B') : BBS w B' v l := by
  obtain ⟨vs, h1, h2⟩ := h
  refine ⟨vs, h1.more hB, fun i hi => ?_⟩
  obtain ⟨u, hu, hb⟩ := h2 i hi
  exact ⟨u, hu, hb.more hB⟩
theorem BBS.up {w w' : World} {v : Value} {l : List (List UInt8)} (h : BBS w w.heap.size v l) (hx : Ext w w') : BBS w' w'.heap.size v l := (h.ext (Nat.le_refl _) hx).more hx.size
theorem BBS.form {w : World} {B : Nat} {v : Value} {l : List (List UInt8)} (h : BBS w B v l) : ∃ A c, v = .slice A l.length c ∧ l.length ≤ c ∧ c ≤ maxLen := by
  obtain ⟨vs, ⟨A, c, hv, h1, h2, _⟩, _⟩ := h
  exact ⟨A, c, hv, h1, h2⟩
/-- an element, where it lies -/
theorem BBS.at_ {w : World} {B : Nat} {A : Option Addr} {c n : Nat} {l : List (List UInt8)} (h : BBS w B (.slice A n c) l) {i : Nat} (hi : i < l.length) :
    ∃ ad u, A = some ad ∧ ad.block < B ∧ w.cell? (ad.add i) = some u ∧ BS w B u l[i] := by
  obtain ⟨vs, ⟨A', c', hv, h1, h2, h3, h4⟩, hb⟩ := h
  simp only [Value.slice.injEq] at hv
  obtain ⟨rfl, _, _⟩ := hv
  obtain ⟨ad, rfl, had, hc⟩ := h4.2 (by omega)
  obtain ⟨u, hu, hbu⟩ := hb i hi
  exact ⟨ad, u, rfl, had, hc i u hu, hbu⟩
theorem BBS.take_ {w : World} {B : Nat} {A : Option Addr} {c : Nat} {l : List (List UInt8)} (h : BBS w B (.slice A l.length c) l) {k : Nat} (hk : k ≤ l.length) : BBS w B (.slice A k c) (l.take k) := by
  obtain ⟨vs, h1, h2⟩ := h
  have e : (l.take k).length = k := by rw [List.length_take]; omega
  refine ⟨vs.take k, by rw [e]; simpa using h1.take_ hk, fun i hi => ?_⟩
  rw [e] at hi
  obtain ⟨u, hu, hb⟩ := h2 i (by omega)
  refine ⟨u, by rw [List.getElem?_take, if_pos hi]; exact hu, ?_⟩
  rw [List.getElem_take]
  exact hb
/-- a slice literal of slices -/
theorem BBS.lit (w : World) (B : Nat) (cs : Array Value) (t : TypeId) (l : List (List UInt8)) (n : Nat) (hn : n = l.length) (hs : cs.size = n) (hB : B ≤ w.heap.size) (hm : n ≤ maxLen)
    (h : ∀ i (_ : i < l.length), ∃ u, cs.toList[i]? = some u ∧ BS w B u l[i]) : BBS (w.alloc (.cells cs t)) (w.heap.size + 1) (.slice (some ⟨w.heap.size, 0, none⟩) n n) l := by
  subst hn
  refine ⟨cs.toList, SV.new_ w cs t 1 _ (by rw [hs, Nat.mul_one]) hm, fun i hi => ?_⟩
  obtain ⟨u, hu, hb⟩ := h i hi
  exact ⟨u, hu, (hb.ext hB (Ext.of_alloc _ _)).more (by omega)⟩

end Go.Proofs.Ytgipbkfpfidpmaa
