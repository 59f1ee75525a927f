/-
  Plain law of the frame that stands first.
  Conditions: those of each statement.
-/
import Derived.Test.YtgipbkfpfidpmaaVp
import Derived.Test.YtgipbkfpfidpmaaCp
namespace Go.Proofs.Ytgipbkfpfidpmaa

/-- a number of bytes, the highest first -/
def fs4 (l : List UInt8) : Nat := l.foldl (fun s x => s * 256 + x.toNat) 0
theorem fs4_snoc (l : List UInt8) (x : UInt8) : fs4 (l ++ [x]) = fs4 l * 256 + x.toNat := by simp [fs4]
theorem fs4_lt : ∀ (l : List UInt8) (s m : Nat), s < m → l.foldl (fun s x => s * 256 + x.toNat) s < m * 256 ^ l.length
  | [], s, m, h => by simpa using h
  | x :: l, s, m, h => by
    have hx := x.toNat_lt
    have h1 := fs4_lt l (s * 256 + x.toNat) (m * 256) (by omega)
    simp only [List.foldl_cons, List.length_cons]
    rw [Nat.pow_succ, Nat.mul_comm (256 ^ l.length), ← Nat.mul_assoc]
    exact h1
theorem fs4_small {l : List UInt8} {k : Nat} (h : l.length ≤ k) : fs4 l < 256 ^ k := by
  have := fs4_lt l 0 1 (by omega)
  rw [Nat.one_mul] at this
  exact Nat.lt_of_lt_of_le this (Nat.pow_le_pow_right (by omega) h)
theorem or256 (s x : Nat) (h : x < 256) : (s * 256) ||| x = s * 256 + x := by
  have := Nat.two_pow_add_eq_or_of_lt (i := 8) (b := x) (by omega) s
  rw [Nat.mul_comm s 256]
  exact this.symm

/-- what the number in front leaves -/
def fgHead (bs : List UInt8) : List UInt8 := bs.take (bs.length - (vgRest bs).length)
def fgPay (bs : List UInt8) : List UInt8 := ((vgRest bs).drop 4).take (vgN bs)
/-- why there is no frame; 0: there is one -/
def fgE (bs : List UInt8) : Nat :=
  if vgE bs = 6 then 41 else if vgE bs ≠ 0 ∨ 16777216 < vgN bs then 40 else if (vgRest bs).length < 4 + vgN bs then 41
  else if cnext 0 (fgHead bs ++ fgPay bs) ≠ fs4 ((vgRest bs).take 4) then 40 else 0
/-- its payload -/
def fgP (bs : List UInt8) : List UInt8 := if fgE bs = 0 then fgPay bs else []
/-- what stands behind it -/
def fgR (bs : List UInt8) : List UInt8 := if fgE bs = 0 then (vgRest bs).drop (4 + vgN bs) else []
theorem fg_err {bs : List UInt8} {k : Nat} (h : fgE bs = k) (hk : k ≠ 0) : fgP bs = [] ∧ fgR bs = [] := by
  subst h
  exact ⟨if_neg hk, if_neg hk⟩

end Go.Proofs.Ytgipbkfpfidpmaa
