/-
  Plain law: of frames that are cut off anywhere the whole ones are split, and of the next one it is told that it is torn.
  Conditions: payloads of at most 16,777,216 bytes.
-/
import Derived.Test.YtgipbkfpfidpmaaFt
namespace Go.Proofs.Ytgipbkfpfidpmaa

theorem fr_torn {p : List UInt8} (h : p.length ≤ 16777216) {k : Nat} (hk : k < (fr p).length) : fgE ((fr p).take k) = 41 := by
  have e : fr p = enc p.length ++ (be4 (cnext 0 (enc p.length ++ p)) ++ p) := rfl
  have hu := U64.mk (show p.length < 18446744073709551616 by omega)
  generalize be4 (cnext 0 (enc p.length ++ p)) ++ p = T at e
  have hT : T.length = (fr p).length - (enc p.length).length := by rw [e, List.length_append]; omega
  have hf : (fr p).length = (enc p.length).length + (4 + p.length) := by
    unfold fr
    simp only [List.length_append, be4_len]
  rw [e]
  rcases Nat.lt_or_ge k (enc p.length).length with hlt | hge
  · rw [List.take_append_of_le_length (by omega)]
    unfold fgE
    rw [if_pos (vg_cut hu hlt)]
  · obtain ⟨m, rfl⟩ : ∃ m, k = (enc p.length).length + m := ⟨k - (enc p.length).length, by omega⟩
    rw [take_past]
    obtain ⟨h1, h2, h3⟩ := vg_enc hu (T.take m)
    unfold fgE
    rw [h1, h2, h3, if_neg (by omega), if_neg (by omega), if_pos (by rw [List.length_take]; omega)]

theorem spl_torn : ∀ (l : List (List UInt8)) (n k : Nat), (∀ p ∈ l, p.length ≤ 16777216) → k ≤ (frs l).length → k ≤ n →
    ∃ j, j ≤ l.length ∧ (spl n ((frs l).take k)).1 = l.take j ∧ (frs (l.take j)).length + (spl n ((frs l).take k)).2.1 = k ∧ (spl n ((frs l).take k)).2.2 = (if (spl n ((frs l).take k)).2.1 = 0 then 0 else 41) ∧
      (j < l.length → k < (frs (l.take (j + 1))).length)
  | [], n, k, _, hk, _ => by
    have : k = 0 := by simpa [frs] using hk
    subst this
    refine ⟨0, Nat.le_refl _, ?_⟩
    rw [List.take_zero, spl_none rfl]
    simp [frs]
  | p :: l, n, k, h, hk, hn => by
    have e : frs (p :: l) = fr p ++ frs l := by simp [frs]
    have hp := fr_pos p
    rw [e] at hk ⊢
    rcases Nat.lt_or_ge k (fr p).length with hlt | hge
    · refine ⟨0, Nat.zero_le _, ?_⟩
      rw [List.take_append_of_le_length (by omega)]
      have hlen : ((fr p).take k).length = k := by rw [List.length_take]; omega
      have h1 : k < (frs ((p :: l).take (0 + 1))).length := by simpa [frs] using hlt
      rcases Nat.eq_zero_or_pos k with h0 | h0
      · subst h0
        rw [spl_none hlen]
        exact ⟨rfl, by simp [frs], rfl, fun _ => h1⟩
      · have ht := fr_torn (h p (by simp)) hlt
        rw [spl_err (by omega) (by omega) (by omega), ht]
        refine ⟨rfl, ?_, ?_, fun _ => h1⟩
        · show (frs ([] : List (List UInt8))).length + _ = k
          rw [hlen]
          simp [frs]
        · show 41 = if ((fr p).take k).length = 0 then 0 else 41
          rw [if_neg (by omega)]
    · obtain ⟨m, rfl⟩ : ∃ m, k = (fr p).length + m := ⟨k - (fr p).length, by omega⟩
      obtain ⟨n', rfl⟩ : ∃ n', n = n' + 1 := ⟨n - 1, by omega⟩
      rw [take_past]
      obtain ⟨g1, g2, g3⟩ := fg_fr (h p (by simp)) ((frs l).take m)
      rw [spl_ok (by rw [List.length_append]; omega) g1, g2, g3]
      obtain ⟨j, i1, i2, i3, i4, i5⟩ := spl_torn l n' m (fun q hq => h q (by simp [hq])) (by rw [List.length_append] at hk; omega) (by omega)
      refine ⟨j + 1, by simpa using i1, ?_, ?_, i4, fun hj => ?_⟩
      · rw [i2]; rfl
      · have e2 : frs ((p :: l).take (j + 1)) = fr p ++ frs (l.take j) := by simp [frs]
        show (frs ((p :: l).take (j + 1))).length + (spl n' ((frs l).take m)).2.1 = _
        rw [e2, List.length_append]
        omega
      · have := i5 (by simpa using hj)
        have e2 : frs ((p :: l).take (j + 1 + 1)) = fr p ++ frs (l.take (j + 1)) := by simp [frs]
        rw [e2, List.length_append]
        omega

end Go.Proofs.Ytgipbkfpfidpmaa
