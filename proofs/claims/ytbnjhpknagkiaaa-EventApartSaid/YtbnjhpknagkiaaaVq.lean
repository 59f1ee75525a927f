/-
  Plain law of varints: what was put is got, what is got, put, is what stood there, and a beginning is none.
  Conditions: those of each statement.
-/
import Derived.Test.YtbnjhpknagkiaaaVp
namespace Go.Proofs.Ytbnjhpknagkiaaa

theorem pow_next (i : Nat) : 2 ^ (7 * (i + 1)) = 128 * 2 ^ (7 * i) := by rw [show 7 * (i + 1) = 7 * i + 7 from by omega, Nat.pow_add]; omega
theorem split_128 (m i acc : Nat) : acc + m * 2 ^ (7 * i) = acc + m % 128 * 2 ^ (7 * i) + m / 128 * 2 ^ (7 * (i + 1)) := by
  rw [pow_next]
  have h : m = m % 128 + m / 128 * 128 := by omega
  have e : m * 2 ^ (7 * i) = (m % 128 + m / 128 * 128) * 2 ^ (7 * i) := by rw [← h]
  rw [e, Nat.add_mul, Nat.mul_assoc, Nat.add_assoc]
theorem high_64 {m i acc : Nat} (h : acc + m * 2 ^ (7 * i) < 18446744073709551616) : (9 ≤ i → m ≤ 1) ∧ (10 ≤ i → m = 0) := by
  constructor
  · intro hi
    have h1 : 2 ^ 63 ≤ 2 ^ (7 * i) := Nat.pow_le_pow_right (by omega) (by omega)
    have h2 : m * 2 ^ 63 ≤ m * 2 ^ (7 * i) := Nat.mul_le_mul_left _ h1
    omega
  · intro hi
    have h1 : 2 ^ 70 ≤ 2 ^ (7 * i) := Nat.pow_le_pow_right (by omega) (by omega)
    have h2 : m * 2 ^ 70 ≤ m * 2 ^ (7 * i) := Nat.mul_le_mul_left _ h1
    omega
theorem vgo_cons (x : UInt8) (r : List UInt8) (i acc : Nat) : vgo (x :: r) i acc =
    if 10 ≤ i then (0, 0, 6) else if (i = 9 ∧ 1 < x.toNat) ∨ (0 < i ∧ x.toNat = 0) then (0, 0, 20)
    else if x.toNat < 128 then (acc + x.toNat % 128 * 2 ^ (7 * i), i + 1, 0) else vgo r (i + 1) (acc + x.toNat % 128 * 2 ^ (7 * i)) := by rw [vgo]

theorem byte_lo {m : Nat} (h : m < 128) : (UInt8.ofNat m).toNat = m := by rw [UInt8.toNat_ofNat']; omega
theorem byte_hi (m : Nat) : (UInt8.ofNat (m % 128 + 128)).toNat = m % 128 + 128 := by rw [UInt8.toNat_ofNat']; omega

theorem vgo_enc : ∀ (f m i acc : Nat) (r : List UInt8), m ≤ f → acc + m * 2 ^ (7 * i) < 18446744073709551616 → i ≤ 9 → (0 < i → 0 < m) →
    vgo (enc m ++ r) i acc = (acc + m * 2 ^ (7 * i), i + (enc m).length, 0) := by
  intro f
  induction f with
  | zero =>
    intro m i acc r hm h hi hp
    obtain rfl : m = 0 := by omega
    obtain rfl : i = 0 := by omega
    rw [enc_lt (by omega)]
    rfl
  | succ f ih =>
    intro m i acc r hm h hi hp
    have hh := high_64 h
    by_cases hlt : m < 128
    · rw [enc_lt hlt, List.singleton_append, vgo_cons, byte_lo hlt, if_neg (by omega), if_neg (by omega), if_pos hlt, Nat.mod_eq_of_lt hlt]
      rfl
    · rw [enc_ge (by omega), List.cons_append, vgo_cons, byte_hi, if_neg (by omega), if_neg (by omega), if_neg (by omega)]
      have e1 : (m % 128 + 128) % 128 = m % 128 := by omega
      have e2 := split_128 m i acc
      rw [e1, ih (m / 128) (i + 1) _ r (by omega) (by omega) (by omega) (by omega), ← e2, List.length_cons]
      congr 2
      omega
theorem vg_enc {n : Nat} (hn : U64 n) (r : List UInt8) : vgN (enc n ++ r) = n ∧ vgE (enc n ++ r) = 0 ∧ vgRest (enc n ++ r) = r := by
  have h := vgo_enc n n 0 0 r (Nat.le_refl _) (by simpa using hn.lt) (by omega) (by omega)
  simp only [Nat.mul_zero, Nat.pow_zero, Nat.mul_one, Nat.zero_add] at h
  unfold vgN vgE vgRest
  rw [h]
  refine ⟨rfl, rfl, ?_⟩
  simp

theorem vgo_cut : ∀ (f m i acc j : Nat), m ≤ f → acc + m * 2 ^ (7 * i) < 18446744073709551616 → i ≤ 9 → j < (enc m).length → vgo ((enc m).take j) i acc = (0, 0, 6) := by
  intro f
  induction f with
  | zero =>
    intro m i acc j hm h hi hj
    obtain rfl : m = 0 := by omega
    rw [enc_lt (by omega)] at hj ⊢
    simp at hj
    subst hj
    rfl
  | succ f ih =>
    intro m i acc j hm h hi hj
    have hh := high_64 h
    rcases j with _ | j
    · rw [List.take_zero, vgo]
    · by_cases hlt : m < 128
      · rw [enc_lt hlt] at hj
        simp at hj
      · rw [enc_ge (by omega)] at hj ⊢
        rw [List.take_succ_cons, vgo_cons, byte_hi, if_neg (by omega), if_neg (by omega), if_neg (by omega)]
        have e1 : (m % 128 + 128) % 128 = m % 128 := by omega
        have e2 := split_128 m i acc
        rw [e1]
        exact ih (m / 128) (i + 1) _ j (by omega) (by omega) (by omega) (by simpa using hj)
theorem vg_cut {n : Nat} (hn : U64 n) {j : Nat} (hj : j < (enc n).length) : vgE ((enc n).take j) = 6 := by
  have h := vgo_cut n n 0 0 j (Nat.le_refl _) (by simpa using hn.lt) (by omega) hj
  unfold vgE
  rw [h]

/-- what is got, put, is what stood there -/
theorem vgo_back : ∀ (l : List UInt8) (i acc n k : Nat), vgo l i acc = (n, k, 0) → ∃ m, n = acc + m * 2 ^ (7 * i) ∧ (0 < i → 0 < m) ∧ i ≤ k ∧ l = enc m ++ l.drop (k - i)
  | [], i, acc, n, k, h => by rw [vgo] at h; cases h
  | x :: r, i, acc, n, k, h => by
    rw [vgo_cons] at h
    have hx := x.toNat_lt
    by_cases h10 : 10 ≤ i
    · rw [if_pos h10] at h; cases h
    · rw [if_neg h10] at h
      by_cases hb : (i = 9 ∧ 1 < x.toNat) ∨ (0 < i ∧ x.toNat = 0)
      · rw [if_pos hb] at h; cases h
      · rw [if_neg hb] at h
        by_cases hlt : x.toNat < 128
        · rw [if_pos hlt] at h
          simp only [Prod.mk.injEq, and_true] at h
          obtain ⟨rfl, rfl⟩ := h
          refine ⟨x.toNat, by rw [Nat.mod_eq_of_lt hlt], by omega, by omega, ?_⟩
          rw [enc_lt hlt, show i + 1 - i = 1 from by omega]
          simp
        · rw [if_neg hlt] at h
          obtain ⟨m, h1, h2, h3, h4⟩ := vgo_back r (i + 1) _ n k h
          have hm := h2 (by omega)
          refine ⟨x.toNat % 128 + 128 * m, ?_, by omega, by omega, ?_⟩
          · rw [split_128, h1]
            have e1 : (x.toNat % 128 + 128 * m) % 128 = x.toNat % 128 := by omega
            have e2 : (x.toNat % 128 + 128 * m) / 128 = m := by omega
            rw [e1, e2]
          · rw [enc_ge (by omega)]
            have e1 : (x.toNat % 128 + 128 * m) % 128 + 128 = x.toNat := by omega
            have e2 : (x.toNat % 128 + 128 * m) / 128 = m := by omega
            rw [e1, e2, show k - i = k - (i + 1) + 1 from by omega, List.drop_succ_cons, List.cons_append, ← h4]
            simp
theorem vg_back {bs : List UInt8} (h : vgE bs = 0) : enc (vgN bs) ++ vgRest bs = bs := by
  unfold vgE at h
  obtain ⟨m, h1, _, _, h4⟩ := vgo_back bs 0 0 (vgo bs 0 0).1 (vgo bs 0 0).2.1 (Prod.ext rfl (Prod.ext rfl h))
  unfold vgN vgRest
  rw [if_pos h]
  simp only [Nat.mul_zero, Nat.pow_zero, Nat.mul_one, Nat.zero_add] at h1
  rw [h1]
  simp only [Nat.sub_zero] at h4
  exact h4.symm

end Go.Proofs.Ytbnjhpknagkiaaa
