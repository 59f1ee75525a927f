/-
  Numbers of 64 bits, in the walk's words: zigzags.
  Conditions: those of each statement.
-/
import Derived.Test.YtbnjhpknagkiaaaVp
import Derived.WalkKit
import Derived.Laws.DeepNot64
namespace Go.Proofs.Ytbnjhpknagkiaaa
open Go.RowKit

/-- an integer of 64 bits -/
def I64 (n : Int) : Prop := -9223372036854775808 ≤ n ∧ n ≤ 9223372036854775807
theorem I64.lo {n : Int} (h : I64 n) : -9223372036854775808 ≤ n := h.1
theorem I64.hi {n : Int} (h : I64 n) : n ≤ 9223372036854775807 := h.2
/-- the zigzag of a whole number -/
def zig (n : Int) : Nat := if 0 ≤ n then (2 * n).toNat else (-2 * n - 1).toNat
/-- the whole number of a zigzag -/
def zag (u : Nat) : Int := if u % 2 = 0 then ((u / 2 : Nat) : Int) else -1 - ((u / 2 : Nat) : Int)

theorem zig_64 {n : Int} (hn : I64 n) : U64 (zig n) := by
  have h1 := hn.lo
  have h2 := hn.hi
  refine U64.mk ?_
  unfold zig
  split <;> omega
theorem zag_64 {u : Nat} (hu : U64 u) : I64 (zag u) := by
  have h1 := hu.lt
  unfold zag I64
  split <;> omega
theorem zag_zig (n : Int) : zag (zig n) = n := by
  unfold zag zig
  by_cases h : 0 ≤ n
  · rw [if_pos h]
    have : (2 * n).toNat % 2 = 0 := by omega
    rw [if_pos this]
    omega
  · rw [if_neg h]
    have : ¬(-2 * n - 1).toNat % 2 = 0 := by omega
    rw [if_neg this]
    omega
theorem zig_zag (u : Nat) : zig (zag u) = u := by
  unfold zag
  by_cases h : u % 2 = 0
  · rw [if_pos h]
    unfold zig
    rw [if_pos (by omega)]
    omega
  · rw [if_neg h]
    unfold zig
    rw [if_neg (by omega)]
    omega
theorem u64_not (a : Nat) (ha : a < 18446744073709551616) : bits .xor .u64 IntKind.u64.max (a : Int) = 18446744073709551615 - (a : Int) := by
  show IntKind.u64.wrap ((BitVec.ofInt 64 IntKind.u64.max ^^^ BitVec.ofInt 64 (a : Int)).toNat : Int) = _
  have h1 : BitVec.ofInt 64 IntKind.u64.max = BitVec.allOnes 64 := by decide
  rw [h1, BitVec.allOnes_xor, BitVec.toNat_not, ofInt_u64 a ha, IntKind.wrap_u64]
  omega
theorem zig_r0 {n : Int} (hn : I64 n) (h : 0 ≤ n) : IntKind.u64.wrap (2 * IntKind.u64.wrap n) = (zig n : Int) := by
  have h1 := hn.hi
  unfold zig
  rw [if_pos h, IntKind.wrap_u64, IntKind.wrap_u64]
  omega
theorem zig_r1 {n : Int} (hn : I64 n) (h : n < 0) : IntKind.u64.wrap (IntKind.u64.wrap (2 * IntKind.u64.wrap (wrap64 (-1 - n))) + 1) = (zig n : Int) := by
  have h1 := hn.lo
  unfold zig
  rw [if_neg (by omega), IntWalk.wrap64_in (-1 - n) (by omega), IntKind.wrap_u64, IntKind.wrap_u64, IntKind.wrap_u64]
  omega
theorem zig_p0 {n : Int} (hn : I64 n) (h : 0 ≤ n) : IntKind.u64.wrap (IntKind.u64.wrap n * 2) = (zig n : Int) := by
  have h1 := hn.hi
  unfold zig
  rw [if_pos h, IntKind.wrap_u64, IntKind.wrap_u64]
  omega
theorem zig_p1 {n : Int} (hn : I64 n) (h : n < 0) : bits .xor .u64 IntKind.u64.max (IntKind.u64.wrap (IntKind.u64.wrap n * 2)) = (zig n : Int) := by
  have h1 := hn.lo
  have e : IntKind.u64.wrap (IntKind.u64.wrap n * 2) = ((2 * n + 18446744073709551616).toNat : Int) := by
    rw [IntKind.wrap_u64, IntKind.wrap_u64]
    omega
  rw [e, u64_not _ (by omega)]
  unfold zig
  rw [if_neg (by omega)]
  omega
theorem and_1 (u : Nat) (hu : U64 u) : bits .and .u64 (u : Int) 1 = ((u % 2 : Nat) : Int) := by
  have e := u64_and_nat u 1 hu.lt (by omega)
  have e2 : u &&& 1 = u % 2 := Nat.and_one_is_mod u
  rw [e2] at e
  exact e
theorem odd_1 {u : Nat} (hu : U64 u) (h : ¬u % 2 = 0) : (bits .and .u64 (u : Int) 1 == 1) = true := by
  rw [and_1 u hu, show u % 2 = 1 from by omega]
  rfl
theorem odd_0 {u : Nat} (hu : U64 u) (h : u % 2 = 0) : (bits .and .u64 (u : Int) 1 == 1) = false := by
  rw [and_1 u hu, h]
  rfl
theorem zag_p0 {u : Nat} (hu : U64 u) (h : u % 2 = 0) : wrap64 ((u : Int) / 2) = zag u := by
  have := hu.lt
  rw [IntWalk.wrap64_in _ (by omega)]
  unfold zag
  rw [if_pos h]
  omega
theorem zag_p1 {u : Nat} (hu : U64 u) (h : ¬u % 2 = 0) : bits .xor .i64 (-1) (wrap64 ((u : Int) / 2)) = zag u := by
  have := hu.lt
  have e : (u : Int) / 2 = ((u / 2 : Nat) : Int) := by omega
  rw [IntWalk.wrap64_in _ (by omega), e, i64_not _ (by omega)]
  unfold zag
  rw [if_neg h]
theorem zag_0 {u : Nat} (hu : U64 u) : wrap64 (IntKind.u64.wrap ((u : Int) / 2)) = ((u / 2 : Nat) : Int) := by
  have := hu.lt
  rw [IntKind.wrap_u64, IntWalk.wrap64_in _ (by omega)]
  omega
theorem zag_r0 {u : Nat} (hu : U64 u) (h : u % 2 = 0) : wrap64 (IntKind.u64.wrap ((u : Int) / 2)) = zag u := by
  rw [zag_0 hu]
  unfold zag
  rw [if_pos h]
theorem zag_r1 {u : Nat} (hu : U64 u) (h : ¬u % 2 = 0) : wrap64 (-1 - wrap64 (IntKind.u64.wrap ((u : Int) / 2))) = zag u := by
  have := hu.lt
  rw [zag_0 hu, IntWalk.wrap64_in _ (by omega)]
  unfold zag
  rw [if_neg h]

end Go.Proofs.Ytbnjhpknagkiaaa
