/-
  Plain law of varints: a number's bytes, and the number that stands first in bytes. No program in sight.
  Conditions: none beyond those that each statement bears.
-/
namespace Go.Proofs.Ytbnjhpknagkiaaa

def encF : Nat → Nat → List UInt8
  | 0, n => [UInt8.ofNat n]
  | k + 1, n => if n < 128 then [UInt8.ofNat n] else UInt8.ofNat (n % 128 + 128) :: encF k (n / 128)
/-- a number's bytes -/
def enc (n : Nat) : List UInt8 := encF n n

theorem encF_fuel : ∀ (k j n : Nat), n ≤ k → n ≤ j → encF k n = encF j n
  | 0, 0, _, _, _ => rfl
  | 0, j + 1, n, h, _ => by
    have : n = 0 := by omega
    subst this
    simp [encF]
  | k + 1, 0, n, _, h => by
    have : n = 0 := by omega
    subst this
    simp [encF]
  | k + 1, j + 1, n, h, h' => by
    simp only [encF]
    by_cases hn : n < 128
    · simp [hn]
    · simp only [hn, if_false]
      rw [encF_fuel k j (n / 128) (by omega) (by omega)]
theorem enc_lt {n : Nat} (h : n < 128) : enc n = [UInt8.ofNat n] := by
  unfold enc
  rcases n with _ | n
  · rfl
  · simp [encF, h]
theorem enc_ge {n : Nat} (h : 128 ≤ n) : enc n = UInt8.ofNat (n % 128 + 128) :: enc (n / 128) := by
  unfold enc
  obtain ⟨k, rfl⟩ : ∃ k, n = k + 1 := ⟨n - 1, by omega⟩
  rw [encF, if_neg (by omega), encF_fuel k ((k + 1) / 128) ((k + 1) / 128) (by omega) (by omega)]
theorem enc_len : ∀ (k n : Nat), n < 128 ^ (k + 1) → (enc n).length ≤ k + 1
  | 0, n, h => by
    rw [enc_lt (by simpa using h)]
    simp
  | k + 1, n, h => by
    by_cases hn : n < 128
    · rw [enc_lt hn]; simp
    · rw [enc_ge (by omega)]
      have := enc_len k (n / 128) (by
        rw [Nat.pow_succ] at h
        exact Nat.div_lt_of_lt_mul (by rw [Nat.mul_comm]; exact h))
      simp only [List.length_cons]
      omega
/-- a number of 64 bits -/
def U64 (n : Nat) : Prop := n < 18446744073709551616
theorem U64.lt {n : Nat} (h : U64 n) : n < 18446744073709551616 := h
theorem U64.mk {n : Nat} (h : n < 18446744073709551616) : U64 n := h
theorem U64.le {m n : Nat} (h : U64 n) (hm : m ≤ n) : U64 m := Nat.lt_of_le_of_lt hm h
theorem enc_len10 {n : Nat} (h : U64 n) : (enc n).length ≤ 10 :=
  enc_len 9 n (Nat.lt_of_lt_of_le h (by decide))
theorem enc_pos (n : Nat) : 0 < (enc n).length := by
  by_cases hn : n < 128
  · rw [enc_lt hn]; simp
  · rw [enc_ge (by omega)]; simp

/-- the number that stands first in bytes: itself, how many bytes it has, why there is none (0: there is one) -/
def vgo : List UInt8 → Nat → Nat → Nat × Nat × Nat
  | [], _, _ => (0, 0, 6)
  | x :: r, i, acc =>
    if 10 ≤ i then (0, 0, 6)
    else if (i = 9 ∧ 1 < x.toNat) ∨ (0 < i ∧ x.toNat = 0) then (0, 0, 20)
    else if x.toNat < 128 then (acc + x.toNat % 128 * 2 ^ (7 * i), i + 1, 0)
    else vgo r (i + 1) (acc + x.toNat % 128 * 2 ^ (7 * i))
def vgN (bs : List UInt8) : Nat := (vgo bs 0 0).1
def vgE (bs : List UInt8) : Nat := (vgo bs 0 0).2.2
def vgRest (bs : List UInt8) : List UInt8 := if (vgo bs 0 0).2.2 = 0 then bs.drop (vgo bs 0 0).2.1 else []
theorem vgo_bad {bs : List UInt8} {k acc y : Nat} (hk : k < bs.length) (h10 : k < 10) (hy : (bs[k]).toNat = y) (hb : (k = 9 ∧ 1 < y) ∨ (0 < k ∧ y = 0)) : vgo (bs.drop k) k acc = (0, 0, 20) := by
  subst hy
  rw [List.drop_eq_getElem_cons hk, vgo, if_neg (by omega), if_pos hb]
theorem vgo_last {bs : List UInt8} {k acc y : Nat} (hk : k < bs.length) (h10 : k < 10) (hy : (bs[k]).toNat = y) (hb : ¬((k = 9 ∧ 1 < y) ∨ (0 < k ∧ y = 0))) (h : y < 128) :
    vgo (bs.drop k) k acc = (acc + y % 128 * 2 ^ (7 * k), k + 1, 0) := by
  subst hy
  rw [List.drop_eq_getElem_cons hk, vgo, if_neg (by omega), if_neg hb, if_pos h]
theorem vgo_next {bs : List UInt8} {k acc y : Nat} (hk : k < bs.length) (h10 : k < 10) (hy : (bs[k]).toNat = y) (hb : ¬((k = 9 ∧ 1 < y) ∨ (0 < k ∧ y = 0))) (h : ¬y < 128) :
    vgo (bs.drop k) k acc = vgo (bs.drop (k + 1)) (k + 1) (acc + y % 128 * 2 ^ (7 * k)) := by
  subst hy
  rw [List.drop_eq_getElem_cons hk, vgo, if_neg (by omega), if_neg hb, if_neg h]
theorem vgo_short {bs : List UInt8} {k acc : Nat} (h : bs.length ≤ k ∨ 10 ≤ k) : vgo (bs.drop k) k acc = (0, 0, 6) := by
  rcases Nat.lt_or_ge k bs.length with hk | hk
  · rw [List.drop_eq_getElem_cons hk, vgo, if_pos (by omega)]
  · rw [List.drop_eq_nil_of_le hk, vgo]
theorem acc_next {acc k y : Nat} (hacc : acc < 2 ^ (7 * k)) : acc + y % 128 * 2 ^ (7 * k) < 2 ^ (7 * (k + 1)) := by
  have : 2 ^ (7 * (k + 1)) = 128 * 2 ^ (7 * k) := by rw [show 7 * (k + 1) = 7 * k + 7 from by omega, Nat.pow_add]; omega
  rw [this]
  have : y % 128 * 2 ^ (7 * k) ≤ 127 * 2 ^ (7 * k) := Nat.mul_le_mul_right _ (by omega)
  omega
theorem acc_64 {acc k y : Nat} (hk : k ≤ 9) (h9 : k = 9 → y ≤ 1) (hacc : acc < 2 ^ (7 * k)) : acc + y % 128 * 2 ^ (7 * k) < 18446744073709551616 := by
  rcases Nat.lt_or_ge k 9 with h | h
  · have h1 := acc_next (y := y) hacc
    have h2 : 2 ^ (7 * (k + 1)) ≤ 2 ^ 63 := Nat.pow_le_pow_right (by omega) (by omega)
    omega
  · obtain rfl : k = 9 := by omega
    have := h9 rfl
    have h2 : y % 128 * 2 ^ (7 * 9) ≤ 1 * 2 ^ (7 * 9) := Nat.mul_le_mul_right _ (by omega)
    omega
theorem vgo_64 : ∀ (l : List UInt8) (i acc : Nat), acc < 2 ^ (7 * i) → (vgo l i acc).1 < 18446744073709551616
  | [], _, _, _ => by rw [vgo]; decide
  | x :: r, i, acc, h => by
    rw [vgo]
    split
    · decide
    · rename_i h10
      split
      · decide
      · rename_i hb
        split
        · exact acc_64 (by omega) (fun h => by omega) h
        · exact vgo_64 r (i + 1) _ (acc_next h)
theorem vgN_64 (bs : List UInt8) : U64 (vgN bs) := vgo_64 bs 0 0 (by decide)
theorem or_nat {acc k y : Nat} (hacc : acc < 2 ^ (7 * k)) : acc ||| (y % 128 * 2 ^ (7 * k)) = acc + y % 128 * 2 ^ (7 * k) := by
  have := Nat.two_pow_add_eq_or_of_lt hacc (y % 128)
  rw [Nat.mul_comm, Nat.or_comm, ← this]
  omega
theorem or128 (m : Nat) : (m % 256) ||| 128 = m % 128 + 128 := by
  have h : ∀ k : Fin 256, k.val ||| 128 = k.val % 128 + 128 := by decide +kernel
  have := h ⟨m % 256, by omega⟩
  simp only at this
  omega

end Go.Proofs.Ytbnjhpknagkiaaa
