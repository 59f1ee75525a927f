/-
  Plain law: what was framed is got.
  Conditions: payloads of at most 16,777,216 bytes.
-/
import Derived.Test.YtgipbkfpfidpmaaFq
import Derived.Test.YtgipbkfpfidpmaaFs
import Derived.Test.YtgipbkfpfidpmaaFd
namespace Go.Proofs.Ytgipbkfpfidpmaa

theorem fg_fr {p : List UInt8} (h : p.length ≤ 16777216) (r : List UInt8) : fgE (fr p ++ r) = 0 ∧ fgP (fr p ++ r) = p ∧ fgR (fr p ++ r) = r := by
  have e : fr p ++ r = enc p.length ++ ((be4 (cnext 0 (enc p.length ++ p)) ++ p) ++ r) := by simp [fr]
  have h32 : U32 (cnext 0 (enc p.length ++ p)) := cnext_32 _ _
  generalize hS : cnext 0 (enc p.length ++ p) = S at e h32
  have hl : (be4 S ++ p).length = 4 + p.length := by rw [List.length_append, be4_len]
  have ht : (be4 S ++ p).take 4 = be4 S := by rw [List.take_append_of_le_length (by rw [be4_len]; omega), List.take_of_length_le (by rw [be4_len]; omega)]
  have hd : (be4 S ++ p).drop 4 = p := by rw [List.drop_append_of_le_length (by rw [be4_len]; omega), List.drop_of_length_le (by rw [be4_len]; omega), List.nil_append]
  have hE : fgE (fr p ++ r) = 0 := by
    rw [e, fgE_enc h (be4 S ++ p) r hl, hd, ht, hS, fs4_be4 h32, if_neg (by simp)]
  obtain ⟨h1, _, h3⟩ := vg_enc (U64.mk (show p.length < _ by omega)) ((be4 S ++ p) ++ r)
  refine ⟨hE, ?_, ?_⟩
  · have hP : fgP (fr p ++ r) = fgPay (fr p ++ r) := if_pos hE
    rw [hP, e]
    unfold fgPay
    rw [h3, h1, List.drop_append_of_le_length (by omega), hd, List.take_append_of_le_length (Nat.le_refl _), List.take_length]
  · have hR : fgR (fr p ++ r) = (vgRest (fr p ++ r)).drop (4 + vgN (fr p ++ r)) := if_pos hE
    rw [hR, e, h3, h1, List.drop_append_of_le_length (by omega), List.drop_of_length_le (by omega), List.nil_append]
theorem fr_pos (p : List UInt8) : 4 < (fr p).length := by
  have := enc_pos p.length
  unfold fr
  simp only [List.length_append, be4_len]
  omega
/-- frames, split, are their payloads, then what stands behind them, split -/
theorem spl_frs : ∀ (l : List (List UInt8)) (n : Nat) (r : List UInt8), (∀ p ∈ l, p.length ≤ 16777216) → (frs l ++ r).length ≤ n + l.length → spl (n + l.length) (frs l ++ r) = (l ++ (spl n r).1, (spl n r).2)
  | [], n, r, _, _ => by simp [frs]
  | p :: l, n, r, h, hn => by
    have e : frs (p :: l) ++ r = fr p ++ (frs l ++ r) := by simp [frs]
    obtain ⟨h1, h2, h3⟩ := fg_fr (h p (by simp)) (frs l ++ r)
    have hp := fr_pos p
    rw [e] at hn ⊢
    rw [show n + (p :: l).length = (n + l.length) + 1 from by simp; omega, spl_ok (by rw [List.length_append]; omega) h1, h2, h3,
      spl_frs l n r (fun q hq => h q (by simp [hq])) (by simp only [List.length_append, List.length_cons] at hn ⊢; omega)]
    rfl

theorem be4_fs4 {l : List UInt8} (h : l.length = 4) : be4 (fs4 l) = l := by
  match l, h with
  | [a, b, c, d], _ =>
    have ha := a.toNat_lt
    have hb := b.toNat_lt
    have hc := c.toNat_lt
    have hd := d.toNat_lt
    simp only [fs4, be4, List.foldl_cons, List.foldl_nil]
    congr 1
    · apply UInt8.toNat_inj.1; rw [UInt8.toNat_ofNat']; omega
    · congr 1
      · apply UInt8.toNat_inj.1; rw [UInt8.toNat_ofNat']; omega
      · congr 1
        · apply UInt8.toNat_inj.1; rw [UInt8.toNat_ofNat']; omega
        · congr 1
          apply UInt8.toNat_inj.1; rw [UInt8.toNat_ofNat']; omega
theorem fgE_parts {bs : List UInt8} (he : fgE bs = 0) : vgE bs = 0 ∧ vgN bs ≤ 16777216 ∧ 4 + vgN bs ≤ (vgRest bs).length ∧ cnext 0 (fgHead bs ++ fgPay bs) = fs4 ((vgRest bs).take 4) := by
  unfold fgE at he
  by_cases h6 : vgE bs = 6
  · rw [if_pos h6] at he; cases he
  · rw [if_neg h6] at he
    by_cases h0 : vgE bs ≠ 0 ∨ 16777216 < vgN bs
    · rw [if_pos h0] at he; cases he
    · rw [if_neg h0] at he
      by_cases hl : (vgRest bs).length < 4 + vgN bs
      · rw [if_pos hl] at he; cases he
      · rw [if_neg hl] at he
        by_cases hc : cnext 0 (fgHead bs ++ fgPay bs) ≠ fs4 ((vgRest bs).take 4)
        · rw [if_pos hc] at he; cases he
        · exact ⟨by omega, by omega, by omega, by simpa using hc⟩
/-- what is got, framed, is what stood there -/
theorem fg_back {bs : List UInt8} (he : fgE bs = 0) : fr (fgP bs) ++ fgR bs = bs ∧ (fgP bs).length ≤ 16777216 := by
  obtain ⟨h0, hN, hl, hc⟩ := fgE_parts he
  have hP : fgP bs = fgPay bs := if_pos he
  have hR : fgR bs = (vgRest bs).drop (4 + vgN bs) := if_pos he
  have hb := vg_back h0
  have hh : fgHead bs = enc (vgN bs) := by
    unfold fgHead
    conv => lhs; rw [← hb]
    rw [List.length_append, show (enc (vgN bs)).length + (vgRest bs).length - (vgRest (enc (vgN bs) ++ vgRest bs)).length = (enc (vgN bs)).length from by rw [hb]; omega]
    simp
  have hpl : (fgPay bs).length = vgN bs := by
    unfold fgPay
    rw [List.length_take, List.length_drop]
    omega
  refine ⟨?_, by rw [hP, hpl]; exact hN⟩
  rw [hP, hR]
  unfold fr
  rw [hpl, ← hh, hc, be4_fs4 (by rw [List.length_take]; omega), hh]
  unfold fgPay
  rw [List.append_assoc, List.append_assoc, ← List.drop_drop, List.take_append_drop, List.take_append_drop]
  exact hb

theorem take_past (F R : List UInt8) (k : Nat) : (F ++ R).take (F.length + k) = F ++ R.take k := by
  rw [List.take_append, List.take_of_length_le (by omega), show F.length + k - F.length = k from by omega]
/-- what is split, framed, is what stood there, as far as it goes -/
theorem frs_spl : ∀ (n : Nat) (bs : List UInt8), bs.length ≤ n → (spl n bs).2.1 ≤ bs.length ∧ frs (spl n bs).1 = bs.take (bs.length - (spl n bs).2.1) ∧ (∀ p ∈ (spl n bs).1, p.length ≤ bs.length) ∧ (spl n bs).1.length ≤ bs.length
  | 0, bs, h => by
    have : bs = [] := List.eq_nil_of_length_eq_zero (by omega)
    subst this
    simp [spl, frs]
  | n + 1, bs, h => by
    by_cases h0 : bs.length = 0
    · rw [spl_none h0]
      have : bs = [] := List.eq_nil_of_length_eq_zero h0
      subst this
      simp [frs]
    · by_cases he : fgE bs = 0
      · rw [spl_ok h0 he]
        obtain ⟨hb, _⟩ := fg_back he
        have hlt := fgR_lt he
        obtain ⟨i1, i2, i3, i4⟩ := frs_spl n (fgR bs) (by omega)
        have hlen := congrArg List.length hb
        rw [List.length_append] at hlen
        refine ⟨by show (spl n (fgR bs)).2.1 ≤ _; omega, ?_, ?_, by simp only [List.length_cons]; omega⟩
        · show frs (fgP bs :: (spl n (fgR bs)).1) = bs.take (bs.length - (spl n (fgR bs)).2.1)
          have e : frs (fgP bs :: (spl n (fgR bs)).1) = fr (fgP bs) ++ frs (spl n (fgR bs)).1 := by simp [frs]
          rw [e, i2]
          have hx := take_past (fr (fgP bs)) (fgR bs) ((fgR bs).length - (spl n (fgR bs)).2.1)
          rw [hb] at hx
          rw [show bs.length - (spl n (fgR bs)).2.1 = (fr (fgP bs)).length + ((fgR bs).length - (spl n (fgR bs)).2.1) from by omega]
          exact hx.symm
        · intro p hp
          rcases List.mem_cons.1 hp with rfl | hp
          · omega
          · have := i3 p hp
            omega
      · rw [spl_err h h0 he]
        simp [frs]

end Go.Proofs.Ytgipbkfpfidpmaa
