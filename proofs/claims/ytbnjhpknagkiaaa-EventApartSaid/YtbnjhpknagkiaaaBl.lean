/-
  Literals of bytes; texts of bytes; a part of a slice.
  Conditions: those of each statement.
-/
import Derived.Test.YtbnjhpknagkiaaaMem
import Derived.Lib.SlBytesConst
namespace Go.Proofs.Ytbnjhpknagkiaaa
open Go.RowKit

/-- a slice literal of bytes -/
theorem BS.lit (w : World) (cs : Array Value) (bs : List UInt8) (h : cs.toList = bv bs) (n : Nat) (hn : n = bs.length) (hm : n ≤ maxLen := by simp [maxLen]) :
    BS (w.alloc (.cells cs 5)) (w.heap.size + 1) (.slice (some ⟨w.heap.size, 0, none⟩) n n) bs := by
  subst hn
  refine ⟨_, _, rfl, Nat.le_refl _, hm, fun h => (by cases h), ?_⟩
  have hs : cs.size = bs.length * 1 := by rw [← Array.length_toList, h, bv_length, Nat.mul_one]
  have := Rd.new_ w cs 5 1 bs.length hs
  rwa [h] at this
/-- '[]byte("..")' -/
theorem BS.mark (w : World) (cs : Array Value) (fr : Nat × Nat) (bs : List UInt8) (h : cs.toList = bv bs) (n : Nat) (hn : n = bs.length) (hm : n ≤ maxLen := by simp [maxLen]) :
    BS (w.alloc (.cells cs 5 fr)) (w.heap.size + 1) (.slice (some ⟨w.heap.size, 0, none⟩) n n) bs := by
  subst hn
  refine ⟨_, _, rfl, Nat.le_refl _, hm, fun h => (by cases h), by rw [bv_length, Nat.mul_one], fun _ => ⟨_, rfl, Nat.lt_succ_self _, fun j u hu => ?_⟩⟩
  have hadd : (⟨w.heap.size, 0, none⟩ : Addr).add j = ⟨w.heap.size, j, none⟩ := by unfold Addr.add; split <;> simp_all
  rw [hadd, World.cell?_alloc_mark, ← Array.getElem?_toList, h]
  exact hu
/-- 'string(b)', ahead of a walk -/
theorem str_of {w : World} {base : Nat} {v : Value} {bs : List UInt8} (h : Own w base v bs) (s : ByteArray) (hs : (⟨bs.toArray⟩ : ByteArray) = s) : (convert 25 9 v).run Try.prog w = .ok (.string s) w := by
  subst hs
  exact run_string_of_bytes w _ _ 5 Try.underlying25 Try.underlying5 Try.underlying9 _ v bs h.bs
theorem str_of_bs {w : World} {B : Nat} {v : Value} {bs : List UInt8} (h : BS w B v bs) (s : ByteArray) (hs : (⟨bs.toArray⟩ : ByteArray) = s) : (convert 25 9 v).run Try.prog w = .ok (.string s) w := by
  subst hs
  exact run_string_of_bytes w _ _ 5 Try.underlying25 Try.underlying5 Try.underlying9 _ v bs h
/-- 'b[k:k+n]' -/
theorem BS.mid {w : World} {B c : Nat} {A : Option Addr} {bs : List UInt8} (h : BS w B (.slice A bs.length c) bs) {k n : Nat} (hk : k + n ≤ bs.length) :
    BS w B (.slice (if c = k then A else A.map (·.add k)) n (c - k)) ((bs.drop k).take n) := by
  have h1 := h.cut_ (k := k) (by omega)
  have h2 := BS.take_ (bs := bs.drop k) (A := if c = k then A else A.map (·.add k)) (c := c - k) (k := n) (by rw [List.length_drop]; exact h1) (by rw [List.length_drop]; omega)
  exact h2

end Go.Proofs.Ytbnjhpknagkiaaa
