/-
  Plain law of the cyclic sum: the step is linear and may be turned back; the table's way is the plain one; bursts of four bytes are seen.
  Conditions: those of each statement.
-/
namespace Go.Proofs.Ytgipbkfpfidpmaa

/-- a sum goes on by a bit -/
def cst (x : Nat) : Nat := if x % 2 = 1 then (x / 2) ^^^ 3988292384 else x / 2
/-- .. by so many bits -/
def cstN : Nat → Nat → Nat
  | 0, x => x
  | k + 1, x => cstN k (cst x)
/-- .. by a byte -/
def con (s b : Nat) : Nat := cstN 8 (s ^^^ b)
/-- .. by bytes -/
def cgo (s : Nat) (bs : List UInt8) : Nat := bs.foldl (fun s b => con s b.toNat) s
/-- each bit turned -/
def cnot (s : Nat) : Nat := 4294967295 - s
/-- the sum of bytes whose sum is s, and bs behind them -/
def cnext (s : Nat) (bs : List UInt8) : Nat := cnot (cgo (cnot s) bs)
/-- 32 bits -/
def U32 (n : Nat) : Prop := n < 4294967296
theorem U32.lt {n : Nat} (h : U32 n) : n < 4294967296 := h
theorem U32.mk {n : Nat} (h : n < 4294967296) : U32 n := h
theorem xor_32 {a b : Nat} (ha : U32 a) (hb : U32 b) : U32 (a ^^^ b) := Nat.xor_lt_two_pow (n := 32) ha hb

theorem cst_32 {x : Nat} (h : U32 x) : U32 (cst x) := by
  have h' := h.lt
  unfold cst
  split
  · exact xor_32 (U32.mk (by omega)) (U32.mk (by decide))
  · exact U32.mk (by omega)
theorem cstN_32 : ∀ (k x : Nat), U32 x → U32 (cstN k x)
  | 0, _, h => h
  | k + 1, x, h => cstN_32 k (cst x) (cst_32 h)
theorem con_32 {s b : Nat} (h : U32 s) (hb : b < 256) : U32 (con s b) := cstN_32 8 _ (xor_32 h (U32.mk (by omega)))
theorem cgo_32 : ∀ (bs : List UInt8) (s : Nat), U32 s → U32 (cgo s bs)
  | [], _, h => h
  | b :: bs, _, h => cgo_32 bs _ (con_32 h b.toNat_lt)
theorem cnot_32 (s : Nat) : U32 (cnot s) := U32.mk (by unfold cnot; omega)
theorem cnot_cnot {s : Nat} (h : U32 s) : cnot (cnot s) = s := by have := h.lt; unfold cnot; omega
theorem cnext_32 (s : Nat) (bs : List UInt8) : U32 (cnext s bs) := cnot_32 _
theorem cgo_append (s : Nat) (a b : List UInt8) : cgo s (a ++ b) = cgo (cgo s a) b := by simp [cgo]
theorem cnext_append (s : Nat) (a b : List UInt8) : cnext s (a ++ b) = cnext (cnext s a) b := by
  unfold cnext
  rw [cgo_append, cnot_cnot (cgo_32 _ _ (cnot_32 _))]
theorem cnext_nil {s : Nat} (h : U32 s) : cnext s [] = s := by
  unfold cnext
  exact cnot_cnot h

theorem cst_xor (a b : Nat) : cst (a ^^^ b) = cst a ^^^ cst b := by
  have h1 := Nat.xor_div_two (a := a) (b := b)
  have h2 := Nat.xor_mod_two_eq_one (a := a) (b := b)
  unfold cst
  rw [h1]
  by_cases ha : a % 2 = 1 <;> by_cases hb : b % 2 = 1
  · rw [if_neg (by rw [h2]; simp [ha, hb]), if_pos ha, if_pos hb]
    rw [Nat.xor_assoc, Nat.xor_comm (b / 2) 3988292384, ← Nat.xor_assoc 3988292384, Nat.xor_self, Nat.zero_xor]
  · rw [if_pos (by rw [h2]; simp [ha, hb]), if_pos ha, if_neg hb]
    rw [Nat.xor_assoc, Nat.xor_comm (b / 2), ← Nat.xor_assoc]
  · rw [if_pos (by rw [h2]; simp [ha, hb]), if_neg ha, if_pos hb, Nat.xor_assoc]
  · rw [if_neg (by rw [h2]; simp [ha, hb]), if_neg ha, if_neg hb]
theorem cstN_xor : ∀ (k a b : Nat), cstN k (a ^^^ b) = cstN k a ^^^ cstN k b
  | 0, _, _ => rfl
  | k + 1, a, b => by
    simp only [cstN]
    rw [cst_xor, cstN_xor k]
theorem cst_zero : cst 0 = 0 := rfl
theorem cst_double (y : Nat) : cst (2 * y) = y := by
  unfold cst
  rw [if_neg (by omega)]
  omega
theorem cstN_pow : ∀ (k y : Nat), cstN k (2 ^ k * y) = y
  | 0, y => by simp [cstN]
  | k + 1, y => by
    simp only [cstN]
    rw [show 2 ^ (k + 1) * y = 2 * (2 ^ k * y) from by rw [Nat.pow_succ, Nat.mul_comm (2 ^ k) 2, Nat.mul_assoc], cst_double]
    exact cstN_pow k y
/-- the table's way -/
theorem con_table (x c : Nat) : con x c = cstN 8 ((x % 256) ^^^ c) ^^^ (x / 256) := by
  unfold con
  have h1 : x = (x % 256) ^^^ (256 * (x / 256)) := by
    have h := Nat.two_pow_add_eq_or_of_lt (i := 8) (b := x % 256) (Nat.mod_lt _ (by decide)) (x / 256)
    have h2 : x % 256 ^^^ 256 * (x / 256) = 256 * (x / 256) + x % 256 := by
      rw [Nat.xor_comm]
      apply Nat.eq_of_testBit_eq
      intro i
      have hb : (256 * (x / 256) + x % 256).testBit i = if i < 8 then (x % 256).testBit i else (x / 256).testBit (i - 8) := by
        have := Nat.testBit_two_pow_mul_add (i := 8) (x / 256) (b := x % 256) (Nat.mod_lt _ (by decide)) i
        simpa using this
      rw [hb, Nat.testBit_xor]
      have e1 : (256 * (x / 256)).testBit i = (decide (8 ≤ i) && (x / 256).testBit (i - 8)) := by
        have := Nat.testBit_two_pow_mul (i := 8) (a := x / 256) (j := i)
        simpa using this
      rw [e1]
      by_cases hi : i < 8
      · simp [hi, Nat.not_le.2 hi]
      · have : (x % 256).testBit i = false := Nat.testBit_lt_two_pow (Nat.lt_of_lt_of_le (Nat.mod_lt _ (by decide)) (show 256 ≤ 2 ^ i from Nat.pow_le_pow_right (n := 2) (by omega) (show 8 ≤ i by omega)))
        simp [hi, this, Nat.not_lt.1 hi]
    omega
  have h3 : x ^^^ c = ((x % 256) ^^^ c) ^^^ (256 * (x / 256)) := by
    conv => lhs; rw [h1]
    rw [Nat.xor_assoc, Nat.xor_comm (256 * (x / 256)) c, ← Nat.xor_assoc]
  rw [h3, cstN_xor]
  congr 1
  exact cstN_pow 8 (x / 256)

/-! ### turned back -/
theorem cst_small {y : Nat} (hy : U32 y) (h : cst y < 2147483648) : y = 2 * cst y := by
  have hy' := hy.lt
  unfold cst at h ⊢
  by_cases ho : y % 2 = 1
  · rw [if_pos ho] at h
    exfalso
    have h1 : (y / 2 ^^^ 3988292384).testBit 31 = true := by
      rw [Nat.testBit_xor]
      have : (y / 2).testBit 31 = false := Nat.testBit_lt_two_pow (by omega)
      rw [this]
      decide
    have := Nat.ge_two_pow_of_testBit h1
    omega
  · rw [if_neg ho]
    omega
theorem cstN_small : ∀ (k : Nat) {y : Nat}, k ≤ 8 → U32 y → cstN k y < 2 ^ (32 - k) → y = 2 ^ k * cstN k y
  | 0, y, _, _, _ => by simp [cstN]
  | k + 1, y, hk, hy, h => by
    simp only [cstN] at h ⊢
    have h1 := cstN_small k (by omega) (cst_32 hy) (Nat.lt_of_lt_of_le h (Nat.pow_le_pow_right (by omega) (by omega)))
    have h2 : cst y < 2147483648 := by
      rw [h1]
      have : 2 ^ k * cstN k (cst y) < 2 ^ k * 2 ^ (32 - (k + 1)) := Nat.mul_lt_mul_of_pos_left h (Nat.two_pow_pos k)
      rw [← Nat.pow_add, show k + (32 - (k + 1)) = 31 from by omega] at this
      exact this
    have h3 := cst_small hy h2
    rw [Nat.pow_succ, Nat.mul_comm (2 ^ k) 2, Nat.mul_assoc, ← h1]
    exact h3
theorem s8_small {y : Nat} (hy : U32 y) (h : cstN 8 y < 16777216) : y = 256 * cstN 8 y := cstN_small 8 (Nat.le_refl _) hy (by simpa using h)
theorem s8_inj {a b : Nat} (ha : U32 a) (hb : U32 b) (h : cstN 8 a = cstN 8 b) : a = b := by
  have h1 : cstN 8 (a ^^^ b) = 0 := by rw [cstN_xor, h, Nat.xor_self]
  have h2 := s8_small (xor_32 ha hb) (by rw [h1]; decide)
  rw [h1] at h2
  have h3 : a ^^^ b ^^^ b = b := by rw [h2]; simp
  rw [Nat.xor_assoc, Nat.xor_self, Nat.xor_zero] at h3
  exact h3

end Go.Proofs.Ytgipbkfpfidpmaa
