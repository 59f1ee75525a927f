/-
  From what the row's step hands over to the words of these proofs.
  Conditions: those of each statement.
-/
import Derived.Test.YtgipbkfpfidpmaaMem
namespace Go.Proofs.Ytgipbkfpfidpmaa
open Go.RowKit

/-- a slice of bytes that came in -/
theorem BS.of_row {w : World} {a : Option Addr} {len cap : Nat} {zs : List Int}
    (h : (a = none ∧ len = 0 ∧ cap = 0 ∧ zs = []) ∨ ∃ x, a = some x ∧ len ≤ cap ∧ cap ≤ maxLen ∧ zs.length = cap ∧ (∀ i, i < zs.length → w.cell? (x.add i) = some (.int .u8 (zs.getD i 0))) ∧ ∀ n ∈ zs, (Lit.int .u8 n).wf = true) :
    ∃ bs, bs.length = len ∧ BS w w.heap.size (.slice a len cap) bs := by
  rcases h with ⟨rfl, rfl, rfl, rfl⟩ | ⟨x, rfl, h1, h2, h3, h4, h5⟩
  · exact ⟨[], rfl, BS.nil_ _ _⟩
  · have hl : ((zs.take len).map fun z => UInt8.ofNat z.toNat).length = len := by rw [List.length_map, List.length_take]; omega
    refine ⟨(zs.take len).map fun z => UInt8.ofNat z.toNat, hl, some x, cap, by rw [hl], by rw [hl]; exact h1, h2, fun h => (by cases h), ?_⟩
    refine ⟨by rw [bv_length, Nat.mul_one], fun hn => ?_⟩
    rw [hl] at hn
    refine ⟨x, rfl, ?_, fun j u hu => ?_⟩
    · have := World.block_lt_of_cell? _ _ (h4 0 (by omega))
      rwa [addBlock] at this
    · have hj : j < len := by
        rcases Nat.lt_or_ge j len with h | h
        · exact h
        · rw [List.getElem?_eq_none (by rw [bv_length, hl]; exact h)] at hu
          cases hu
      have hjz : j < zs.length := by omega
      have hz := h5 zs[j] (List.getElem_mem hjz)
      have hz' : 0 ≤ zs[j] ∧ zs[j] ≤ 255 := by simpa [Lit.wf, IntKind.min, IntKind.max, IntKind.signed, IntKind.bits] using hz
      rw [h4 j hjz]
      rw [bv_get _ j (by rw [hl]; exact hj)] at hu
      rw [← hu]
      simp only [List.getElem_map, List.getElem_take]
      have e1 : zs.getD j 0 = zs[j] := by simp [List.getD, hjz]
      rw [e1, UInt8.toNat_ofNat']
      congr 2
      omega

end Go.Proofs.Ytgipbkfpfidpmaa
