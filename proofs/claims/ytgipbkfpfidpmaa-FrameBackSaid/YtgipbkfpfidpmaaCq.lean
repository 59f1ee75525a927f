/-
  Plain law of bursts: bytes that differ within four that follow one another have another sum.
  Conditions: those of each statement.
-/
import Derived.Test.YtgipbkfpfidpmaaCp
namespace Go.Proofs.Ytgipbkfpfidpmaa

theorem lt_pow8 {d n : Nat} (h : d < 256) : d < 2 ^ (8 * (n + 1)) := Nat.lt_of_lt_of_le h (by rw [Nat.mul_add, Nat.pow_add]; exact Nat.le_mul_of_pos_left _ (Nat.two_pow_pos _))
theorem xor4 (s t x y : Nat) : (s ^^^ x) ^^^ (t ^^^ y) = (s ^^^ t) ^^^ (x ^^^ y) := by
  rw [Nat.xor_assoc, Nat.xor_assoc, ← Nat.xor_assoc x, Nat.xor_comm x t, Nat.xor_assoc t]
theorem con_xor (s t x y : Nat) : con s x ^^^ con t y = cstN 8 ((s ^^^ t) ^^^ (x ^^^ y)) := by
  unfold con
  rw [← cstN_xor, xor4]
theorem xor_back (a b : Nat) : (a ^^^ b) ^^^ b = a := by rw [Nat.xor_assoc, Nat.xor_self, Nat.xor_zero]
theorem xor_eq {a b : Nat} (h : a ^^^ b = 0) : a = b := by
  have := xor_back a b
  rw [h, Nat.zero_xor] at this
  exact this.symm
/-- where as many bytes, four at the most, lead from two sums to one, the sums differ in so many bytes at the most -/
theorem near : ∀ (a b : List UInt8) (s t : Nat), a.length = b.length → a.length ≤ 4 → U32 s → U32 t → cgo s a = cgo t b → s ^^^ t < 2 ^ (8 * a.length)
  | [], [], s, t, _, _, _, _, h => by
    have h : s = t := h
    rw [h, Nat.xor_self]
    exact Nat.two_pow_pos _
  | x :: a, y :: b, s, t, hl, h4, hs, ht, h => by
    have hl' : a.length = b.length := by simpa using hl
    have h4' : a.length ≤ 3 := by simpa using h4
    have hi := near a b (con s x.toNat) (con t y.toNat) hl' (by omega) (con_32 hs x.toNat_lt) (con_32 ht y.toNat_lt) h
    rw [con_xor] at hi
    have hxy : x.toNat ^^^ y.toNat < 256 := Nat.xor_lt_two_pow (n := 8) x.toNat_lt y.toNat_lt
    have h24 : cstN 8 ((s ^^^ t) ^^^ (x.toNat ^^^ y.toNat)) < 16777216 := Nat.lt_of_lt_of_le hi (show 2 ^ (8 * a.length) ≤ 2 ^ 24 from Nat.pow_le_pow_right (by decide) (by omega))
    have h8 := s8_small (xor_32 (xor_32 hs ht) (U32.mk (by omega))) h24
    have hlt : (s ^^^ t) ^^^ (x.toNat ^^^ y.toNat) < 2 ^ (8 * (a.length + 1)) := by
      rw [h8, Nat.mul_add, Nat.pow_add, Nat.mul_comm]
      exact Nat.mul_lt_mul_of_pos_right hi (by decide)
    have := Nat.xor_lt_two_pow hlt (lt_pow8 (n := a.length) hxy)
    rw [xor_back] at this
    simpa using this
  | [], _ :: _, _, _, hl, _, _, _, _ => by cases hl
  | _ :: _, [], _, _, hl, _, _, _, _ => by cases hl
/-- four bytes at the most that lead from one sum to one are the same bytes -/
theorem burst : ∀ (a b : List UInt8) (s : Nat), a.length = b.length → a.length ≤ 4 → U32 s → cgo s a = cgo s b → a = b
  | [], [], _, _, _, _, _ => rfl
  | x :: a, y :: b, s, hl, h4, hs, h => by
    have hl' : a.length = b.length := by simpa using hl
    have h4' : a.length ≤ 3 := by simpa using h4
    have h' : cgo (con s x.toNat) a = cgo (con s y.toNat) b := h
    have hi := near a b (con s x.toNat) (con s y.toNat) hl' (by omega) (con_32 hs x.toNat_lt) (con_32 hs y.toNat_lt) h'
    rw [con_xor, Nat.xor_self, Nat.zero_xor] at hi
    have hxy : x.toNat ^^^ y.toNat < 256 := Nat.xor_lt_two_pow (n := 8) x.toNat_lt y.toNat_lt
    have h24 : cstN 8 (x.toNat ^^^ y.toNat) < 16777216 := Nat.lt_of_lt_of_le hi (show 2 ^ (8 * a.length) ≤ 2 ^ 24 from Nat.pow_le_pow_right (by decide) (by omega))
    have h8 := s8_small (U32.mk (by omega)) h24
    have h0 : x.toNat ^^^ y.toNat = 0 := by omega
    have e : x = y := UInt8.toNat_inj.1 (xor_eq h0)
    subst e
    rw [burst a b (con s x.toNat) hl' (by omega) (con_32 hs x.toNat_lt) h']
  | [], _ :: _, _, hl, _, _, _ => by cases hl
  | _ :: _, [], _, hl, _, _, _ => by cases hl
theorem cgo_inj : ∀ (r : List UInt8) (s t : Nat), U32 s → U32 t → cgo s r = cgo t r → s = t
  | [], _, _, _, _, h => h
  | x :: r, s, t, hs, ht, h => by
    have h1 : con s x.toNat = con t x.toNat := cgo_inj r _ _ (con_32 hs x.toNat_lt) (con_32 ht x.toNat_lt) h
    have h2 := s8_inj (xor_32 hs (U32.mk (Nat.lt_trans x.toNat_lt (by decide)))) (xor_32 ht (U32.mk (Nat.lt_trans x.toNat_lt (by decide)))) h1
    have h3 := congrArg (· ^^^ x.toNat) h2
    simpa [xor_back] using h3
theorem cnot_inj {a b : Nat} (ha : U32 a) (hb : U32 b) (h : cnot a = cnot b) : a = b := by
  have := congrArg cnot h
  rwa [cnot_cnot ha, cnot_cnot hb] at this
/-- bytes that are the same outside four that follow one another, of one sum, are the same -/
theorem turned_sum {X xs : List UInt8} {s k : Nat} (hl : X.length = xs.length) (h1 : X.take k = xs.take k) (h2 : X.drop (k + 4) = xs.drop (k + 4)) (h : cnext s X = cnext s xs) : X = xs := by
  have sp : ∀ l : List UInt8, l = l.take k ++ ((l.drop k).take 4 ++ l.drop (k + 4)) := by
    intro l
    rw [← List.drop_drop, List.take_append_drop, List.take_append_drop]
  unfold cnext at h
  have h := cnot_inj (cgo_32 _ _ (cnot_32 s)) (cgo_32 _ _ (cnot_32 s)) h
  rw [sp X, sp xs, h1, h2, cgo_append, cgo_append, cgo_append, cgo_append] at h
  have h3 := cgo_inj _ _ _ (cgo_32 _ _ (cgo_32 _ _ (cnot_32 s))) (cgo_32 _ _ (cgo_32 _ _ (cnot_32 s))) h
  have h4 := burst _ _ _ (by rw [List.length_take, List.length_take, List.length_drop, List.length_drop, hl]) (by rw [List.length_take]; omega) (cgo_32 _ _ (cnot_32 s)) h3
  rw [sp X, sp xs, h1, h2, h4]
/-- a byte turned -/
theorem turn_step {X xs : List UInt8} {k j : Nat} (b : UInt8) (hl : X.length = xs.length) (hj : k + j < X.length) (h1 : X.take k = xs.take k) (h2 : X.drop (k + j) = xs.drop (k + j)) :
    (X.set (k + j) (X[k + j] ^^^ b)).length = xs.length ∧ (X.set (k + j) (X[k + j] ^^^ b)).take k = xs.take k ∧ (X.set (k + j) (X[k + j] ^^^ b)).drop (k + (j + 1)) = xs.drop (k + (j + 1)) ∧
    (decide (X.set (k + j) (X[k + j] ^^^ b) ≠ xs) = (decide (X ≠ xs) || decide (b ≠ 0))) := by
  refine ⟨by rw [List.length_set, hl], ?_, ?_, ?_⟩
  · rw [List.take_set_of_le (by omega), h1]
  · rw [List.drop_set_of_lt (by omega)]
    have := congrArg (List.drop 1) h2
    rwa [List.drop_drop, List.drop_drop] at this
  · by_cases hb : b = 0
    · subst hb
      rw [UInt8.xor_zero, List.set_getElem_self]
      simp
    · have hx : X[k + j] = xs[k + j]'(by omega) := by
        have h3 := congrArg (fun l => l[0]?) h2
        simp only [List.getElem?_drop, Nat.add_zero] at h3
        rw [List.getElem?_eq_getElem hj, List.getElem?_eq_getElem (by omega)] at h3
        exact Option.some.inj h3
      have hne : X.set (k + j) (X[k + j] ^^^ b) ≠ xs := by
        intro he
        have h3 := congrArg (fun l => l[k + j]?) he
        simp only [List.getElem?_set_self hj] at h3
        rw [List.getElem?_eq_getElem (by omega), ← hx] at h3
        have h4 : X[k + j] ^^^ b = X[k + j] := Option.some.inj h3
        apply hb
        have h5 := congrArg (X[k + j] ^^^ ·) h4
        simpa [← UInt8.xor_assoc] using h5
      simp [hb, hne]

end Go.Proofs.Ytgipbkfpfidpmaa
