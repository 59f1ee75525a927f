/-
  Contracts of the two 'shared' and of 'place'.
  Conditions: texts of at most 1,000,000 bytes.
-/
import Derived.Test.YtmgbhmmmegknjaaDc
namespace Go.Proofs.Ytmgbhmmmegknjaa
open Go.RowKit Go.Op

theorem ba_lt {l : List UInt8} {k : Nat} (h : k < l.length) : k < (ByteArray.mk l.toArray).size := by show k < l.toArray.size; simpa using h
theorem ba_at {l : List UInt8} {k : Nat} (h : k < l.length) : (ByteArray.mk l.toArray)[k]'(ba_lt h) = l[k] := rfl
theorem sh_at {a b : List UInt8} {k : Nat} (ha : k < a.length) (hb : k < b.length) : sh (a.drop k) (b.drop k) = if a[k] = b[k] then sh (a.drop (k + 1)) (b.drop (k + 1)) + 1 else 0 := by
  rw [List.drop_eq_getElem_cons ha, List.drop_eq_getElem_cons hb]
  rfl
theorem u8_eq {x y : UInt8} (h : x = y) : ((x.toNat : Int) == (y.toNat : Int)) = true := by rw [h]; simp
theorem u8_ne {x y : UInt8} (h : ¬x = y) : ((x.toNat : Int) == (y.toNat : Int)) = false := by
  rw [beq_eq_false_iff_ne]
  intro e
  exact h (UInt8.toNat_inj.1 (by omega))

set_option maxHeartbeats 1600000 in
set_option maxRecDepth 100000 in
theorem shared_any (w : World) (a b : List UInt8) (hla : a.length ≤ 1000000) (_hlb : b.length ≤ 1000000) :
    Calls Try.prog 40 #[.string ⟨a.toArray⟩, .string ⟨b.toArray⟩] w fun e w' => e = .returned (.int .i64 (sh a b)) ∧ Ext w w' := by
  go_enter Try.func40, Try.ntmps40
  go_wp2_with fail
  go_loopw [5] (fun i wr => ∃ k : Nat, i = .int .i64 k ∧ k ≤ a.length ∧ k ≤ b.length ∧ sh a b = k + sh (a.drop k) (b.drop k) ∧ Ext w wr) (fun i _ => a.length - (intOf i).toNat)
  case atStart => exact ⟨0, rfl, Nat.zero_le _, Nat.zero_le _, by simp, Below.refl _ _⟩
  case round =>
    rename World => wq
    obtain ⟨k, rfl, hka, hkb, hs, hx⟩ := hrel
    have Hx := Lib.hid hx
    clear hx
    by_cases h1 : k < a.length
    · by_cases h2 : k < b.length
      · rw [sh_at h1 h2] at hs
        have b1 := ba_lt h1
        have b2 := ba_lt h2
        have d1 : decide ((k : Int) < a.length) = true := decide_eq_true (by omega)
        have d2 : decide ((k : Int) < b.length) = true := decide_eq_true (by omega)
        by_cases h3 : a[k] = b[k]
        · rw [if_pos h3] at hs
          have d3 : ((((ByteArray.mk a.toArray)[k]'b1).toNat : Int) == (((ByteArray.mk b.toArray)[k]'b2).toNat : Int)) = true := u8_eq h3
          have Hs := Lib.hid hs
          clear hs h3
          go_wp2
          go_quiet (fail)
          all_goals go_wp2
          all_goals exact ⟨⟨k + 1, rfl, by omega, by omega, by rw [Hs.out]; omega, Hx.out.drN _⟩, by simp only [intOf]; omega⟩
        · rw [if_neg h3] at hs
          have d3 : ((((ByteArray.mk a.toArray)[k]'b1).toNat : Int) == (((ByteArray.mk b.toArray)[k]'b2).toNat : Int)) = false := u8_ne h3
          have Hs := Lib.hid hs
          clear hs h3
          go_wp2
          go_quiet (fail)
          all_goals go_wp2
          all_goals go_ret
          all_goals exact ⟨by rw [Hs.out]; rfl, Hx.out.drN _⟩
      · rw [sh_end (b := b.drop k) (.inr (List.drop_of_length_le (by omega)))] at hs
        have d1 : decide ((k : Int) < a.length) = true := decide_eq_true (by omega)
        have d2 : decide ((k : Int) < b.length) = false := decide_eq_false (by omega)
        have Hs := Lib.hid hs
        clear hs
        go_wp2
        go_quiet (fail)
        all_goals go_wp2
        all_goals go_ret
        all_goals exact ⟨by rw [Hs.out]; rfl, Hx.out.drN _⟩
    · rw [sh_end (a := a.drop k) (.inl (List.drop_of_length_le (by omega)))] at hs
      have d1 : decide ((k : Int) < a.length) = false := decide_eq_false (by omega)
      have Hs := Lib.hid hs
      clear hs
      go_wp2
      go_quiet (fail)
      all_goals go_wp2
      all_goals go_ret
      all_goals exact ⟨by rw [Hs.out]; rfl, Hx.out.drN _⟩

set_option maxHeartbeats 1600000 in
set_option maxRecDepth 100000 in
theorem rshared_any (w : World) (a b : List UInt8) (hla : a.length ≤ 1000000) (_hlb : b.length ≤ 1000000) :
    Calls Try.prog 44 #[.string ⟨a.toArray⟩, .string ⟨b.toArray⟩] w fun e w' => e = .returned (.int .i64 (sh a b)) ∧ Ext w w' := by
  go_enter Try.func44, Try.ntmps44
  go_wp2_with fail
  go_loopw [5] (fun i wr => ∃ k : Nat, i = .int .i64 k ∧ k ≤ a.length ∧ k ≤ b.length ∧ sh a b = k + sh (a.drop k) (b.drop k) ∧ Ext w wr) (fun i _ => a.length - (intOf i).toNat)
  case atStart => exact ⟨0, rfl, Nat.zero_le _, Nat.zero_le _, by simp, Below.refl _ _⟩
  case round =>
    rename World => wq
    obtain ⟨k, rfl, hka, hkb, hs, hx⟩ := hrel
    have Hx := Lib.hid hx
    clear hx
    by_cases h1 : k < a.length
    · by_cases h2 : k < b.length
      · rw [sh_at h1 h2] at hs
        have b1 := ba_lt h1
        have b2 := ba_lt h2
        have d1 : decide ((k : Int) < a.length) = true := decide_eq_true (by omega)
        have d2 : decide ((k : Int) < b.length) = true := decide_eq_true (by omega)
        by_cases h3 : a[k] = b[k]
        · rw [if_pos h3] at hs
          have d3 : ((((ByteArray.mk a.toArray)[k]'b1).toNat : Int) == (((ByteArray.mk b.toArray)[k]'b2).toNat : Int)) = true := u8_eq h3
          have Hs := Lib.hid hs
          clear hs h3
          go_wp2
          go_quiet (fail)
          all_goals go_wp2
          all_goals exact ⟨⟨k + 1, rfl, by omega, by omega, by rw [Hs.out]; omega, Hx.out.drN _⟩, by simp only [intOf]; omega⟩
        · rw [if_neg h3] at hs
          have d3 : ((((ByteArray.mk a.toArray)[k]'b1).toNat : Int) == (((ByteArray.mk b.toArray)[k]'b2).toNat : Int)) = false := u8_ne h3
          have Hs := Lib.hid hs
          clear hs h3
          go_wp2
          go_quiet (fail)
          all_goals go_wp2
          all_goals go_ret
          all_goals exact ⟨by rw [Hs.out]; rfl, Hx.out.drN _⟩
      · rw [sh_end (b := b.drop k) (.inr (List.drop_of_length_le (by omega)))] at hs
        have d1 : decide ((k : Int) < a.length) = true := decide_eq_true (by omega)
        have d2 : decide ((k : Int) < b.length) = false := decide_eq_false (by omega)
        have Hs := Lib.hid hs
        clear hs
        go_wp2
        go_quiet (fail)
        all_goals go_wp2
        all_goals go_ret
        all_goals exact ⟨by rw [Hs.out]; rfl, Hx.out.drN _⟩
    · rw [sh_end (a := a.drop k) (.inl (List.drop_of_length_le (by omega)))] at hs
      have d1 : decide ((k : Int) < a.length) = false := decide_eq_false (by omega)
      have Hs := Lib.hid hs
      clear hs
      go_wp2
      go_quiet (fail)
      all_goals go_wp2
      all_goals go_ret
      all_goals exact ⟨by rw [Hs.out]; rfl, Hx.out.drN _⟩

set_option maxHeartbeats 400000 in
theorem place_any (w : World) (n : Int) : Calls Try.prog 42 #[.int .i64 n] w fun e w' => e = .returned (.bool (pl n)) ∧ Ext w w' := by
  go_enter Try.func42, Try.ntmps42
  have e := pl_eq n
  generalize pl n = p at e
  generalize h1 : decide (0 ≤ n) = p1 at e
  generalize h2 : decide (n ≤ 67108864) = p2 at e
  have E := Lib.hid e
  clear e
  cases p1 with
  | false =>
    go_wp2
    go_ret
    exact ⟨by rw [E.out]; rfl, Below.refl _ _⟩
  | true =>
    cases p2 with
    | false =>
      go_wp2
      go_ret
      exact ⟨by rw [E.out]; rfl, Below.refl _ _⟩
    | true =>
      go_wp2
      go_ret
      exact ⟨by rw [E.out]; rfl, Below.refl _ _⟩

end Go.Proofs.Ytmgbhmmmegknjaa
