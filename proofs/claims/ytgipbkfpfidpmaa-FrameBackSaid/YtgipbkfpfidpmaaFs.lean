/-
  Plain law of frames one behind the other.
  Conditions: those of each statement.
-/
import Derived.Test.YtgipbkfpfidpmaaFg
namespace Go.Proofs.Ytgipbkfpfidpmaa

/-- the payloads of the frames that stand first, how many bytes are left, and why there is no other one (0: no bytes are left); n: fuel -/
def spl : Nat → List UInt8 → List (List UInt8) × Nat × Nat
  | 0, bs => ([], bs.length, 0)
  | n + 1, bs => if bs.length = 0 then ([], 0, 0) else if fgE bs ≠ 0 then ([], bs.length, fgE bs) else (fgP bs :: (spl n (fgR bs)).1, (spl n (fgR bs)).2)
theorem spl_none {n : Nat} {bs : List UInt8} (h : bs.length = 0) : spl n bs = ([], 0, 0) := by
  cases n with
  | zero => simp [spl, h]
  | succ n => simp [spl, h]
theorem spl_err {n : Nat} {bs : List UInt8} (hn : bs.length ≤ n) (h : bs.length ≠ 0) (he : fgE bs ≠ 0) : spl n bs = ([], bs.length, fgE bs) := by
  cases n with
  | zero => omega
  | succ n => simp only [spl]; rw [if_neg h, if_pos he]
theorem spl_ok {n : Nat} {bs : List UInt8} (h : bs.length ≠ 0) (he : fgE bs = 0) : spl (n + 1) bs = (fgP bs :: (spl n (fgR bs)).1, (spl n (fgR bs)).2) := by
  simp only [spl]
  rw [if_neg h, if_neg (by simp [he])]
theorem vgRest_le' (bs : List UInt8) : (vgRest bs).length ≤ bs.length := by
  unfold vgRest
  split
  · rw [List.length_drop]; omega
  · simp
/-- a frame has four bytes and more -/
theorem fgR_lt {bs : List UInt8} (he : fgE bs = 0) : (fgR bs).length + 4 ≤ bs.length ∧ (fgR bs).length + 4 + (fgP bs).length ≤ bs.length := by
  have h0 := vgRest_le' bs
  have hR : fgR bs = (vgRest bs).drop (4 + vgN bs) := if_pos he
  have hP : fgP bs = ((vgRest bs).drop 4).take (vgN bs) := if_pos he
  have hl : ¬(vgRest bs).length < 4 + vgN bs := by
    intro h
    unfold fgE at he
    split at he
    · cases he
    · split at he
      · cases he
      · first | (rw [if_pos h] at he; cases he) | cases he
  rw [hR, hP]
  simp only [List.length_drop, List.length_take]
  omega
/-- of any bytes -/
def sp (bs : List UInt8) : List (List UInt8) × Nat × Nat := spl bs.length bs

end Go.Proofs.Ytgipbkfpfidpmaa
