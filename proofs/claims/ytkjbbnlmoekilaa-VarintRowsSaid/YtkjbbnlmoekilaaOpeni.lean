/-
  A slice of ints that came in, in the words of these proofs.
  Conditions: those of each statement.
-/
import Derived.Test.YtkjbbnlmoekilaaOpen
import Derived.Test.YtkjbbnlmoekilaaSv
namespace Go.Proofs.Ytkjbbnlmoekilaa
open Go.RowKit

theorem IS.of_row {w : World} {a : Option Addr} {len cap : Nat} {zs : List Int}
    (h : (a = none ∧ len = 0 ∧ cap = 0 ∧ zs = []) ∨ ∃ x, a = some x ∧ len ≤ cap ∧ cap ≤ maxLen ∧ zs.length = cap ∧ (∀ i, i < zs.length → w.cell? (x.add i) = some (.int .i64 (zs.getD i 0))) ∧ ∀ n ∈ zs, (Lit.int .i64 n).wf = true) :
    ∃ ys, ys.length = len ∧ IS w w.heap.size (.slice a len cap) ys ∧ ∀ y ∈ ys, I64 y := by
  rcases h with ⟨rfl, rfl, rfl, rfl⟩ | ⟨x, rfl, h1, h2, h3, h4, h5⟩
  · exact ⟨[], rfl, IS.nil_ _ _, by simp⟩
  · have hl : (zs.take len).length = len := by rw [List.length_take]; omega
    refine ⟨zs.take len, hl, ⟨some x, cap, by rw [hl], by rw [hl]; exact h1, h2, fun h => (by cases h), ?_⟩, fun y hy => i64_of_wf (h5 y (List.mem_of_mem_take hy))⟩
    refine ⟨by rw [iv_length, Nat.mul_one], fun hn => ?_⟩
    rw [hl] at hn
    refine ⟨x, rfl, ?_, fun j u hu => ?_⟩
    · have := World.block_lt_of_cell? _ _ (h4 0 (by omega))
      rwa [addBlock] at this
    · have hj : j < len := by
        rcases Nat.lt_or_ge j len with h | h
        · exact h
        · rw [List.getElem?_eq_none (by rw [iv_length, hl]; exact h)] at hu
          cases hu
      have hjz : j < zs.length := by omega
      rw [h4 j hjz]
      rw [iv_get _ j (by rw [hl]; exact hj)] at hu
      rw [← hu]
      simp [List.getD, hjz]

end Go.Proofs.Ytkjbbnlmoekilaa
