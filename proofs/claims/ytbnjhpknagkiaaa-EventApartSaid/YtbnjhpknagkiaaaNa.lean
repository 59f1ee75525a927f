/-
  Plain: the runes of any bytes.
  Conditions: none.
-/
import Derived.Test.YtbnjhpknagkiaaaDt
namespace Go.Proofs.Ytbnjhpknagkiaaa

def d2 (c x : Nat) : Nat := c % 32 * 64 + x % 64
def d3 (c x y : Nat) : Nat := (c % 16 * 64 + x % 64) * 64 + y % 64
def d4 (c x y z : Nat) : Nat := ((c % 8 * 64 + x % 64) * 64 + y % 64) * 64 + z % 64
/-- the rune that begins with byte c, and of how many bytes it is -/
def decN (c : Nat) (t : List UInt8) : Nat × Nat :=
  if c < 128 then (c, 1)
  else if c / 32 = 6 then
    match t with
    | x :: _ => if x.toNat / 64 = 2 ∧ 128 ≤ d2 c x.toNat then (d2 c x.toNat, 2) else (65533, 1)
    | _ => (65533, 1)
  else if c / 16 = 14 then
    match t with
    | x :: y :: _ => if x.toNat / 64 = 2 ∧ y.toNat / 64 = 2 ∧ 2048 ≤ d3 c x.toNat y.toNat ∧ ¬(55296 ≤ d3 c x.toNat y.toNat ∧ d3 c x.toNat y.toNat ≤ 57343) then (d3 c x.toNat y.toNat, 3) else (65533, 1)
    | _ => (65533, 1)
  else if c / 8 = 30 then
    match t with
    | x :: y :: z :: _ => if x.toNat / 64 = 2 ∧ y.toNat / 64 = 2 ∧ z.toNat / 64 = 2 ∧ 65536 ≤ d4 c x.toNat y.toNat z.toNat ∧ d4 c x.toNat y.toNat z.toNat ≤ 1114111 then (d4 c x.toNat y.toNat z.toNat, 4) else (65533, 1)
    | _ => (65533, 1)
  else (65533, 1)
theorem decN_asc {c : Nat} (t : List UInt8) (h : c < 128) : decN c t = (c, 1) := by unfold decN; rw [if_pos h]
theorem decN_none {c : Nat} (t : List UInt8) (h : ¬c < 128) (h2 : ¬c / 32 = 6) (h3 : ¬c / 16 = 14) (h4 : ¬c / 8 = 30) : decN c t = (65533, 1) := by unfold decN; rw [if_neg h, if_neg h2, if_neg h3, if_neg h4]
theorem decN_s2 {c : Nat} {t : List UInt8} (h2 : c / 32 = 6) (ht : t.length < 1) : decN c t = (65533, 1) := by
  unfold decN
  rw [if_neg (by omega), if_pos h2]
  obtain rfl : t = [] := List.eq_nil_of_length_eq_zero (by omega)
  rfl
theorem decN_s3 {c : Nat} {t : List UInt8} (h3 : c / 16 = 14) (ht : t.length < 2) : decN c t = (65533, 1) := by
  unfold decN
  rw [if_neg (by omega), if_neg (by omega), if_pos h3]
  rcases t with _ | ⟨x, _ | ⟨y, t⟩⟩
  · rfl
  · rfl
  · simp only [List.length_cons] at ht; omega
theorem decN_s4 {c : Nat} {t : List UInt8} (h4 : c / 8 = 30) (ht : t.length < 3) : decN c t = (65533, 1) := by
  unfold decN
  rw [if_neg (by omega), if_neg (by omega), if_neg (by omega), if_pos h4]
  rcases t with _ | ⟨x, _ | ⟨y, _ | ⟨z, t⟩⟩⟩
  · rfl
  · rfl
  · rfl
  · simp only [List.length_cons] at ht; omega
theorem decN_2 {c : Nat} (x : UInt8) (t : List UInt8) (h2 : c / 32 = 6) : decN c (x :: t) = if x.toNat / 64 = 2 ∧ 128 ≤ d2 c x.toNat then (d2 c x.toNat, 2) else (65533, 1) := by
  unfold decN
  rw [if_neg (by omega), if_pos h2]
theorem decN_3 {c : Nat} (x y : UInt8) (t : List UInt8) (h3 : c / 16 = 14) : decN c (x :: y :: t) = if x.toNat / 64 = 2 ∧ y.toNat / 64 = 2 ∧ 2048 ≤ d3 c x.toNat y.toNat ∧ ¬(55296 ≤ d3 c x.toNat y.toNat ∧ d3 c x.toNat y.toNat ≤ 57343) then (d3 c x.toNat y.toNat, 3) else (65533, 1) := by
  unfold decN
  rw [if_neg (by omega), if_neg (by omega), if_pos h3]
theorem decN_4 {c : Nat} (x y z : UInt8) (t : List UInt8) (h4 : c / 8 = 30) : decN c (x :: y :: z :: t) = if x.toNat / 64 = 2 ∧ y.toNat / 64 = 2 ∧ z.toNat / 64 = 2 ∧ 65536 ≤ d4 c x.toNat y.toNat z.toNat ∧ d4 c x.toNat y.toNat z.toNat ≤ 1114111 then (d4 c x.toNat y.toNat z.toNat, 4) else (65533, 1) := by
  unfold decN
  rw [if_neg (by omega), if_neg (by omega), if_neg (by omega), if_pos h4]
theorem d2_lt (c x : Nat) : d2 c x < 2048 := by unfold d2; omega
theorem d3_lt (c x y : Nat) : d3 c x y < 65536 := by unfold d3; omega
theorem d4_lt (c x y z : Nat) : d4 c x y z < 2097152 := by unfold d4; omega
theorem decN_bd (c : Nat) (t : List UInt8) : 1 ≤ (decN c t).2 ∧ (decN c t).2 ≤ t.length + 1 ∧ (decN c t).1 ≤ 1114111 ∧ ¬(55296 ≤ (decN c t).1 ∧ (decN c t).1 ≤ 57343) := by
  by_cases h : c < 128
  · rw [decN_asc t h]; simp only; omega
  by_cases h2 : c / 32 = 6
  · rcases t with _ | ⟨x, t⟩
    · rw [decN_s2 h2 (by simp)]; simp
    · rw [decN_2 x t h2]
      have := d2_lt c x.toNat
      split
      · simp only [List.length_cons]; omega
      · simp
  by_cases h3 : c / 16 = 14
  · rcases t with _ | ⟨x, _ | ⟨y, t⟩⟩
    · rw [decN_s3 h3 (by simp)]; simp
    · rw [decN_s3 h3 (by simp)]; simp
    · rw [decN_3 x y t h3]
      have := d3_lt c x.toNat y.toNat
      split
      · simp only [List.length_cons]; omega
      · simp
  by_cases h4 : c / 8 = 30
  · rcases t with _ | ⟨x, _ | ⟨y, _ | ⟨z, t⟩⟩⟩
    · rw [decN_s4 h4 (by simp)]; simp
    · rw [decN_s4 h4 (by simp)]; simp
    · rw [decN_s4 h4 (by simp)]; simp
    · rw [decN_4 x y z t h4]
      split
      · rename_i h5
        simp only [List.length_cons]; omega
      · simp
  · rw [decN_none t h h2 h3 h4]; simp
/-- the runes, so many bytes ahead passed over -/
def runesK : Nat → List UInt8 → List Int
  | _, [] => []
  | k + 1, _ :: t => runesK k t
  | 0, b :: t => ((decN b.toNat t).1 : Int) :: runesK ((decN b.toNat t).2 - 1) t
def rns (s : List UInt8) : List Int := runesK 0 s
theorem runesK_drop : ∀ (k : Nat) (s : List UInt8), runesK k s = rns (s.drop k)
  | 0, s => by rw [List.drop_zero]; rfl
  | k + 1, [] => by rw [List.drop_nil]; rfl
  | k + 1, b :: t => by rw [List.drop_succ_cons, ← runesK_drop k t]; rfl
theorem rns_nil : rns [] = [] := rfl
theorem rns_at {s : List UInt8} {k : Nat} (h : k < s.length) : rns (s.drop k) = ((decN (s[k]).toNat (s.drop (k + 1))).1 : Int) :: rns (s.drop (k + (decN (s[k]).toNat (s.drop (k + 1))).2)) := by
  have hb := (decN_bd (s[k]).toNat (s.drop (k + 1))).1
  rw [List.drop_eq_getElem_cons h]
  show ((decN (s[k]).toNat (s.drop (k + 1))).1 : Int) :: runesK ((decN (s[k]).toNat (s.drop (k + 1))).2 - 1) (s.drop (k + 1)) = _
  rw [runesK_drop, List.drop_drop]
  congr 3
  omega
theorem runesK_len : ∀ (k : Nat) (s : List UInt8), (runesK k s).length ≤ s.length
  | _, [] => by simp [runesK]
  | k + 1, _ :: t => by have := runesK_len k t; simp only [runesK, List.length_cons]; omega
  | 0, b :: t => by have := runesK_len ((decN b.toNat t).2 - 1) t; simp only [runesK, List.length_cons]; omega
theorem rns_le (s : List UInt8) : (rns s).length ≤ s.length := runesK_len 0 s
/-- runes -/
def IsR (r : Int) : Prop := 0 ≤ r ∧ r ≤ 1114111 ∧ ¬(55296 ≤ r ∧ r ≤ 57343)
theorem runesK_r : ∀ (k : Nat) (s : List UInt8), ∀ r ∈ runesK k s, IsR r
  | _, [], r, h => by simp [runesK] at h
  | k + 1, _ :: t, r, h => runesK_r k t r h
  | 0, b :: t, r, h => by
    rw [runesK] at h
    rcases List.mem_cons.1 h with h | h
    · have := (decN_bd b.toNat t).2.2
      exact ⟨by omega, by omega, by omega⟩
    · exact runesK_r _ t r h
theorem rns_r (s : List UInt8) : ∀ r ∈ rns s, IsR r := runesK_r 0 s
end Go.Proofs.Ytbnjhpknagkiaaa
