/-
  Contracts of the reference's IsWord and Lower (chapter 01).
  Conditions: runes.
-/
import Derived.Test.YtbnjhpknagkiaaaUb
import Derived.Test.YtbnjhpknagkiaaaNa
namespace Go.Proofs.Ytbnjhpknagkiaaa
open Go.RowKit Go.Op

theorem wd_all (r : Int) : (r < 48) ∨ (48 ≤ r ∧ r ≤ 57) ∨ (57 < r ∧ r < 65) ∨ (65 ≤ r ∧ r ≤ 90) ∨ (90 < r ∧ r < 97) ∨ (97 ≤ r ∧ r ≤ 122) ∨ (122 < r ∧ r < 192) ∨ (192 ≤ r ∧ r ≤ 255 ∧ r ≠ 215 ∧ r ≠ 247) ∨ (r = 215) ∨ (r = 247) ∨ (255 < r ∧ r < 913) ∨ (913 ≤ r ∧ r ≤ 974 ∧ r ≠ 930) ∨ (r = 930) ∨ (974 < r ∧ r < 1024) ∨ (1024 ≤ r ∧ r ≤ 1119) ∨ (1119 < r) := by omega
set_option maxHeartbeats 3200000 in
set_option maxRecDepth 100000 in
theorem risword_any (w : World) (r : Int) :
    Calls Try.prog 54 #[.int .i64 r] w fun e w' => e = .returned (.bool (isWd r)) ∧ w' = w := by
  rcases wd_all r with hc | hc | hc | hc | hc | hc | hc | hc | hc | hc | hc | hc | hc | hc | hc | hc
  · have hr := Lib.hid (show isWd r = false by
      rw [← Bool.not_eq_true]
      simp only [isWd, inS, Bool.or_eq_true, Bool.and_eq_true, decide_eq_true_eq, bne_iff_ne]
      omega)
    have d0 : decide ((48 : Int) ≤ r) = false := decide_eq_false (by omega)
    have d1 : decide (r ≤ 57) = true := decide_eq_true (by omega)
    have d2 : decide ((65 : Int) ≤ r) = false := decide_eq_false (by omega)
    have d3 : decide (r ≤ 90) = true := decide_eq_true (by omega)
    have d4 : decide ((97 : Int) ≤ r) = false := decide_eq_false (by omega)
    have d5 : decide (r ≤ 122) = true := decide_eq_true (by omega)
    have d6 : decide ((192 : Int) ≤ r) = false := decide_eq_false (by omega)
    have d7 : decide (r ≤ 255) = true := decide_eq_true (by omega)
    have d8 : (r != 215) = true := by rw [bne_iff_ne]; omega
    have d9 : (r != 247) = true := by rw [bne_iff_ne]; omega
    have d10 : decide ((913 : Int) ≤ r) = false := decide_eq_false (by omega)
    have d11 : decide (r ≤ 974) = true := decide_eq_true (by omega)
    have d12 : (r != 930) = true := by rw [bne_iff_ne]; omega
    have d13 : decide ((1024 : Int) ≤ r) = false := decide_eq_false (by omega)
    have d14 : decide (r ≤ 1119) = true := decide_eq_true (by omega)
    clear hc
    go_enter Try.func54, Try.ntmps54
    go_wp2
    go_ret
    exact ⟨by rw [hr.out]; rfl, rfl⟩
  · have hr := Lib.hid (show isWd r = true by
      simp only [isWd, inS, Bool.or_eq_true, Bool.and_eq_true, decide_eq_true_eq, bne_iff_ne]
      omega)
    have d0 : decide ((48 : Int) ≤ r) = true := decide_eq_true (by omega)
    have d1 : decide (r ≤ 57) = true := decide_eq_true (by omega)
    have d2 : decide ((65 : Int) ≤ r) = false := decide_eq_false (by omega)
    have d3 : decide (r ≤ 90) = true := decide_eq_true (by omega)
    have d4 : decide ((97 : Int) ≤ r) = false := decide_eq_false (by omega)
    have d5 : decide (r ≤ 122) = true := decide_eq_true (by omega)
    have d6 : decide ((192 : Int) ≤ r) = false := decide_eq_false (by omega)
    have d7 : decide (r ≤ 255) = true := decide_eq_true (by omega)
    have d8 : (r != 215) = true := by rw [bne_iff_ne]; omega
    have d9 : (r != 247) = true := by rw [bne_iff_ne]; omega
    have d10 : decide ((913 : Int) ≤ r) = false := decide_eq_false (by omega)
    have d11 : decide (r ≤ 974) = true := decide_eq_true (by omega)
    have d12 : (r != 930) = true := by rw [bne_iff_ne]; omega
    have d13 : decide ((1024 : Int) ≤ r) = false := decide_eq_false (by omega)
    have d14 : decide (r ≤ 1119) = true := decide_eq_true (by omega)
    clear hc
    go_enter Try.func54, Try.ntmps54
    go_wp2
    go_ret
    exact ⟨by rw [hr.out]; rfl, rfl⟩
  · have hr := Lib.hid (show isWd r = false by
      rw [← Bool.not_eq_true]
      simp only [isWd, inS, Bool.or_eq_true, Bool.and_eq_true, decide_eq_true_eq, bne_iff_ne]
      omega)
    have d0 : decide ((48 : Int) ≤ r) = true := decide_eq_true (by omega)
    have d1 : decide (r ≤ 57) = false := decide_eq_false (by omega)
    have d2 : decide ((65 : Int) ≤ r) = false := decide_eq_false (by omega)
    have d3 : decide (r ≤ 90) = true := decide_eq_true (by omega)
    have d4 : decide ((97 : Int) ≤ r) = false := decide_eq_false (by omega)
    have d5 : decide (r ≤ 122) = true := decide_eq_true (by omega)
    have d6 : decide ((192 : Int) ≤ r) = false := decide_eq_false (by omega)
    have d7 : decide (r ≤ 255) = true := decide_eq_true (by omega)
    have d8 : (r != 215) = true := by rw [bne_iff_ne]; omega
    have d9 : (r != 247) = true := by rw [bne_iff_ne]; omega
    have d10 : decide ((913 : Int) ≤ r) = false := decide_eq_false (by omega)
    have d11 : decide (r ≤ 974) = true := decide_eq_true (by omega)
    have d12 : (r != 930) = true := by rw [bne_iff_ne]; omega
    have d13 : decide ((1024 : Int) ≤ r) = false := decide_eq_false (by omega)
    have d14 : decide (r ≤ 1119) = true := decide_eq_true (by omega)
    clear hc
    go_enter Try.func54, Try.ntmps54
    go_wp2
    go_ret
    exact ⟨by rw [hr.out]; rfl, rfl⟩
  · have hr := Lib.hid (show isWd r = true by
      simp only [isWd, inS, Bool.or_eq_true, Bool.and_eq_true, decide_eq_true_eq, bne_iff_ne]
      omega)
    have d0 : decide ((48 : Int) ≤ r) = true := decide_eq_true (by omega)
    have d1 : decide (r ≤ 57) = false := decide_eq_false (by omega)
    have d2 : decide ((65 : Int) ≤ r) = true := decide_eq_true (by omega)
    have d3 : decide (r ≤ 90) = true := decide_eq_true (by omega)
    have d4 : decide ((97 : Int) ≤ r) = false := decide_eq_false (by omega)
    have d5 : decide (r ≤ 122) = true := decide_eq_true (by omega)
    have d6 : decide ((192 : Int) ≤ r) = false := decide_eq_false (by omega)
    have d7 : decide (r ≤ 255) = true := decide_eq_true (by omega)
    have d8 : (r != 215) = true := by rw [bne_iff_ne]; omega
    have d9 : (r != 247) = true := by rw [bne_iff_ne]; omega
    have d10 : decide ((913 : Int) ≤ r) = false := decide_eq_false (by omega)
    have d11 : decide (r ≤ 974) = true := decide_eq_true (by omega)
    have d12 : (r != 930) = true := by rw [bne_iff_ne]; omega
    have d13 : decide ((1024 : Int) ≤ r) = false := decide_eq_false (by omega)
    have d14 : decide (r ≤ 1119) = true := decide_eq_true (by omega)
    clear hc
    go_enter Try.func54, Try.ntmps54
    go_wp2
    go_ret
    exact ⟨by rw [hr.out]; rfl, rfl⟩
  · have hr := Lib.hid (show isWd r = false by
      rw [← Bool.not_eq_true]
      simp only [isWd, inS, Bool.or_eq_true, Bool.and_eq_true, decide_eq_true_eq, bne_iff_ne]
      omega)
    have d0 : decide ((48 : Int) ≤ r) = true := decide_eq_true (by omega)
    have d1 : decide (r ≤ 57) = false := decide_eq_false (by omega)
    have d2 : decide ((65 : Int) ≤ r) = true := decide_eq_true (by omega)
    have d3 : decide (r ≤ 90) = false := decide_eq_false (by omega)
    have d4 : decide ((97 : Int) ≤ r) = false := decide_eq_false (by omega)
    have d5 : decide (r ≤ 122) = true := decide_eq_true (by omega)
    have d6 : decide ((192 : Int) ≤ r) = false := decide_eq_false (by omega)
    have d7 : decide (r ≤ 255) = true := decide_eq_true (by omega)
    have d8 : (r != 215) = true := by rw [bne_iff_ne]; omega
    have d9 : (r != 247) = true := by rw [bne_iff_ne]; omega
    have d10 : decide ((913 : Int) ≤ r) = false := decide_eq_false (by omega)
    have d11 : decide (r ≤ 974) = true := decide_eq_true (by omega)
    have d12 : (r != 930) = true := by rw [bne_iff_ne]; omega
    have d13 : decide ((1024 : Int) ≤ r) = false := decide_eq_false (by omega)
    have d14 : decide (r ≤ 1119) = true := decide_eq_true (by omega)
    clear hc
    go_enter Try.func54, Try.ntmps54
    go_wp2
    go_ret
    exact ⟨by rw [hr.out]; rfl, rfl⟩
  · have hr := Lib.hid (show isWd r = true by
      simp only [isWd, inS, Bool.or_eq_true, Bool.and_eq_true, decide_eq_true_eq, bne_iff_ne]
      omega)
    have d0 : decide ((48 : Int) ≤ r) = true := decide_eq_true (by omega)
    have d1 : decide (r ≤ 57) = false := decide_eq_false (by omega)
    have d2 : decide ((65 : Int) ≤ r) = true := decide_eq_true (by omega)
    have d3 : decide (r ≤ 90) = false := decide_eq_false (by omega)
    have d4 : decide ((97 : Int) ≤ r) = true := decide_eq_true (by omega)
    have d5 : decide (r ≤ 122) = true := decide_eq_true (by omega)
    have d6 : decide ((192 : Int) ≤ r) = false := decide_eq_false (by omega)
    have d7 : decide (r ≤ 255) = true := decide_eq_true (by omega)
    have d8 : (r != 215) = true := by rw [bne_iff_ne]; omega
    have d9 : (r != 247) = true := by rw [bne_iff_ne]; omega
    have d10 : decide ((913 : Int) ≤ r) = false := decide_eq_false (by omega)
    have d11 : decide (r ≤ 974) = true := decide_eq_true (by omega)
    have d12 : (r != 930) = true := by rw [bne_iff_ne]; omega
    have d13 : decide ((1024 : Int) ≤ r) = false := decide_eq_false (by omega)
    have d14 : decide (r ≤ 1119) = true := decide_eq_true (by omega)
    clear hc
    go_enter Try.func54, Try.ntmps54
    go_wp2
    go_ret
    exact ⟨by rw [hr.out]; rfl, rfl⟩
  · have hr := Lib.hid (show isWd r = false by
      rw [← Bool.not_eq_true]
      simp only [isWd, inS, Bool.or_eq_true, Bool.and_eq_true, decide_eq_true_eq, bne_iff_ne]
      omega)
    have d0 : decide ((48 : Int) ≤ r) = true := decide_eq_true (by omega)
    have d1 : decide (r ≤ 57) = false := decide_eq_false (by omega)
    have d2 : decide ((65 : Int) ≤ r) = true := decide_eq_true (by omega)
    have d3 : decide (r ≤ 90) = false := decide_eq_false (by omega)
    have d4 : decide ((97 : Int) ≤ r) = true := decide_eq_true (by omega)
    have d5 : decide (r ≤ 122) = false := decide_eq_false (by omega)
    have d6 : decide ((192 : Int) ≤ r) = false := decide_eq_false (by omega)
    have d7 : decide (r ≤ 255) = true := decide_eq_true (by omega)
    have d8 : (r != 215) = true := by rw [bne_iff_ne]; omega
    have d9 : (r != 247) = true := by rw [bne_iff_ne]; omega
    have d10 : decide ((913 : Int) ≤ r) = false := decide_eq_false (by omega)
    have d11 : decide (r ≤ 974) = true := decide_eq_true (by omega)
    have d12 : (r != 930) = true := by rw [bne_iff_ne]; omega
    have d13 : decide ((1024 : Int) ≤ r) = false := decide_eq_false (by omega)
    have d14 : decide (r ≤ 1119) = true := decide_eq_true (by omega)
    clear hc
    go_enter Try.func54, Try.ntmps54
    go_wp2
    go_ret
    exact ⟨by rw [hr.out]; rfl, rfl⟩
  · have hr := Lib.hid (show isWd r = true by
      simp only [isWd, inS, Bool.or_eq_true, Bool.and_eq_true, decide_eq_true_eq, bne_iff_ne]
      omega)
    have d0 : decide ((48 : Int) ≤ r) = true := decide_eq_true (by omega)
    have d1 : decide (r ≤ 57) = false := decide_eq_false (by omega)
    have d2 : decide ((65 : Int) ≤ r) = true := decide_eq_true (by omega)
    have d3 : decide (r ≤ 90) = false := decide_eq_false (by omega)
    have d4 : decide ((97 : Int) ≤ r) = true := decide_eq_true (by omega)
    have d5 : decide (r ≤ 122) = false := decide_eq_false (by omega)
    have d6 : decide ((192 : Int) ≤ r) = true := decide_eq_true (by omega)
    have d7 : decide (r ≤ 255) = true := decide_eq_true (by omega)
    have d8 : (r != 215) = true := by rw [bne_iff_ne]; omega
    have d9 : (r != 247) = true := by rw [bne_iff_ne]; omega
    have d10 : decide ((913 : Int) ≤ r) = false := decide_eq_false (by omega)
    have d11 : decide (r ≤ 974) = true := decide_eq_true (by omega)
    have d12 : (r != 930) = true := by rw [bne_iff_ne]; omega
    have d13 : decide ((1024 : Int) ≤ r) = false := decide_eq_false (by omega)
    have d14 : decide (r ≤ 1119) = true := decide_eq_true (by omega)
    clear hc
    go_enter Try.func54, Try.ntmps54
    go_wp2
    go_ret
    exact ⟨by rw [hr.out]; rfl, rfl⟩
  · have hr := Lib.hid (show isWd r = false by
      rw [← Bool.not_eq_true]
      simp only [isWd, inS, Bool.or_eq_true, Bool.and_eq_true, decide_eq_true_eq, bne_iff_ne]
      omega)
    have d0 : decide ((48 : Int) ≤ r) = true := decide_eq_true (by omega)
    have d1 : decide (r ≤ 57) = false := decide_eq_false (by omega)
    have d2 : decide ((65 : Int) ≤ r) = true := decide_eq_true (by omega)
    have d3 : decide (r ≤ 90) = false := decide_eq_false (by omega)
    have d4 : decide ((97 : Int) ≤ r) = true := decide_eq_true (by omega)
    have d5 : decide (r ≤ 122) = false := decide_eq_false (by omega)
    have d6 : decide ((192 : Int) ≤ r) = true := decide_eq_true (by omega)
    have d7 : decide (r ≤ 255) = true := decide_eq_true (by omega)
    have d8 : (r != 215) = false := by rw [bne_eq_false_iff_eq]; omega
    have d9 : (r != 247) = true := by rw [bne_iff_ne]; omega
    have d10 : decide ((913 : Int) ≤ r) = false := decide_eq_false (by omega)
    have d11 : decide (r ≤ 974) = true := decide_eq_true (by omega)
    have d12 : (r != 930) = true := by rw [bne_iff_ne]; omega
    have d13 : decide ((1024 : Int) ≤ r) = false := decide_eq_false (by omega)
    have d14 : decide (r ≤ 1119) = true := decide_eq_true (by omega)
    clear hc
    go_enter Try.func54, Try.ntmps54
    go_wp2
    go_ret
    exact ⟨by rw [hr.out]; rfl, rfl⟩
  · have hr := Lib.hid (show isWd r = false by
      rw [← Bool.not_eq_true]
      simp only [isWd, inS, Bool.or_eq_true, Bool.and_eq_true, decide_eq_true_eq, bne_iff_ne]
      omega)
    have d0 : decide ((48 : Int) ≤ r) = true := decide_eq_true (by omega)
    have d1 : decide (r ≤ 57) = false := decide_eq_false (by omega)
    have d2 : decide ((65 : Int) ≤ r) = true := decide_eq_true (by omega)
    have d3 : decide (r ≤ 90) = false := decide_eq_false (by omega)
    have d4 : decide ((97 : Int) ≤ r) = true := decide_eq_true (by omega)
    have d5 : decide (r ≤ 122) = false := decide_eq_false (by omega)
    have d6 : decide ((192 : Int) ≤ r) = true := decide_eq_true (by omega)
    have d7 : decide (r ≤ 255) = true := decide_eq_true (by omega)
    have d8 : (r != 215) = true := by rw [bne_iff_ne]; omega
    have d9 : (r != 247) = false := by rw [bne_eq_false_iff_eq]; omega
    have d10 : decide ((913 : Int) ≤ r) = false := decide_eq_false (by omega)
    have d11 : decide (r ≤ 974) = true := decide_eq_true (by omega)
    have d12 : (r != 930) = true := by rw [bne_iff_ne]; omega
    have d13 : decide ((1024 : Int) ≤ r) = false := decide_eq_false (by omega)
    have d14 : decide (r ≤ 1119) = true := decide_eq_true (by omega)
    clear hc
    go_enter Try.func54, Try.ntmps54
    go_wp2
    go_ret
    exact ⟨by rw [hr.out]; rfl, rfl⟩
  · have hr := Lib.hid (show isWd r = false by
      rw [← Bool.not_eq_true]
      simp only [isWd, inS, Bool.or_eq_true, Bool.and_eq_true, decide_eq_true_eq, bne_iff_ne]
      omega)
    have d0 : decide ((48 : Int) ≤ r) = true := decide_eq_true (by omega)
    have d1 : decide (r ≤ 57) = false := decide_eq_false (by omega)
    have d2 : decide ((65 : Int) ≤ r) = true := decide_eq_true (by omega)
    have d3 : decide (r ≤ 90) = false := decide_eq_false (by omega)
    have d4 : decide ((97 : Int) ≤ r) = true := decide_eq_true (by omega)
    have d5 : decide (r ≤ 122) = false := decide_eq_false (by omega)
    have d6 : decide ((192 : Int) ≤ r) = true := decide_eq_true (by omega)
    have d7 : decide (r ≤ 255) = false := decide_eq_false (by omega)
    have d8 : (r != 215) = true := by rw [bne_iff_ne]; omega
    have d9 : (r != 247) = true := by rw [bne_iff_ne]; omega
    have d10 : decide ((913 : Int) ≤ r) = false := decide_eq_false (by omega)
    have d11 : decide (r ≤ 974) = true := decide_eq_true (by omega)
    have d12 : (r != 930) = true := by rw [bne_iff_ne]; omega
    have d13 : decide ((1024 : Int) ≤ r) = false := decide_eq_false (by omega)
    have d14 : decide (r ≤ 1119) = true := decide_eq_true (by omega)
    clear hc
    go_enter Try.func54, Try.ntmps54
    go_wp2
    go_ret
    exact ⟨by rw [hr.out]; rfl, rfl⟩
  · have hr := Lib.hid (show isWd r = true by
      simp only [isWd, inS, Bool.or_eq_true, Bool.and_eq_true, decide_eq_true_eq, bne_iff_ne]
      omega)
    have d0 : decide ((48 : Int) ≤ r) = true := decide_eq_true (by omega)
    have d1 : decide (r ≤ 57) = false := decide_eq_false (by omega)
    have d2 : decide ((65 : Int) ≤ r) = true := decide_eq_true (by omega)
    have d3 : decide (r ≤ 90) = false := decide_eq_false (by omega)
    have d4 : decide ((97 : Int) ≤ r) = true := decide_eq_true (by omega)
    have d5 : decide (r ≤ 122) = false := decide_eq_false (by omega)
    have d6 : decide ((192 : Int) ≤ r) = true := decide_eq_true (by omega)
    have d7 : decide (r ≤ 255) = false := decide_eq_false (by omega)
    have d8 : (r != 215) = true := by rw [bne_iff_ne]; omega
    have d9 : (r != 247) = true := by rw [bne_iff_ne]; omega
    have d10 : decide ((913 : Int) ≤ r) = true := decide_eq_true (by omega)
    have d11 : decide (r ≤ 974) = true := decide_eq_true (by omega)
    have d12 : (r != 930) = true := by rw [bne_iff_ne]; omega
    have d13 : decide ((1024 : Int) ≤ r) = false := decide_eq_false (by omega)
    have d14 : decide (r ≤ 1119) = true := decide_eq_true (by omega)
    clear hc
    go_enter Try.func54, Try.ntmps54
    go_wp2
    go_ret
    exact ⟨by rw [hr.out]; rfl, rfl⟩
  · have hr := Lib.hid (show isWd r = false by
      rw [← Bool.not_eq_true]
      simp only [isWd, inS, Bool.or_eq_true, Bool.and_eq_true, decide_eq_true_eq, bne_iff_ne]
      omega)
    have d0 : decide ((48 : Int) ≤ r) = true := decide_eq_true (by omega)
    have d1 : decide (r ≤ 57) = false := decide_eq_false (by omega)
    have d2 : decide ((65 : Int) ≤ r) = true := decide_eq_true (by omega)
    have d3 : decide (r ≤ 90) = false := decide_eq_false (by omega)
    have d4 : decide ((97 : Int) ≤ r) = true := decide_eq_true (by omega)
    have d5 : decide (r ≤ 122) = false := decide_eq_false (by omega)
    have d6 : decide ((192 : Int) ≤ r) = true := decide_eq_true (by omega)
    have d7 : decide (r ≤ 255) = false := decide_eq_false (by omega)
    have d8 : (r != 215) = true := by rw [bne_iff_ne]; omega
    have d9 : (r != 247) = true := by rw [bne_iff_ne]; omega
    have d10 : decide ((913 : Int) ≤ r) = true := decide_eq_true (by omega)
    have d11 : decide (r ≤ 974) = true := decide_eq_true (by omega)
    have d12 : (r != 930) = false := by rw [bne_eq_false_iff_eq]; omega
    have d13 : decide ((1024 : Int) ≤ r) = false := decide_eq_false (by omega)
    have d14 : decide (r ≤ 1119) = true := decide_eq_true (by omega)
    clear hc
    go_enter Try.func54, Try.ntmps54
    go_wp2
    go_ret
    exact ⟨by rw [hr.out]; rfl, rfl⟩
  · have hr := Lib.hid (show isWd r = false by
      rw [← Bool.not_eq_true]
      simp only [isWd, inS, Bool.or_eq_true, Bool.and_eq_true, decide_eq_true_eq, bne_iff_ne]
      omega)
    have d0 : decide ((48 : Int) ≤ r) = true := decide_eq_true (by omega)
    have d1 : decide (r ≤ 57) = false := decide_eq_false (by omega)
    have d2 : decide ((65 : Int) ≤ r) = true := decide_eq_true (by omega)
    have d3 : decide (r ≤ 90) = false := decide_eq_false (by omega)
    have d4 : decide ((97 : Int) ≤ r) = true := decide_eq_true (by omega)
    have d5 : decide (r ≤ 122) = false := decide_eq_false (by omega)
    have d6 : decide ((192 : Int) ≤ r) = true := decide_eq_true (by omega)
    have d7 : decide (r ≤ 255) = false := decide_eq_false (by omega)
    have d8 : (r != 215) = true := by rw [bne_iff_ne]; omega
    have d9 : (r != 247) = true := by rw [bne_iff_ne]; omega
    have d10 : decide ((913 : Int) ≤ r) = true := decide_eq_true (by omega)
    have d11 : decide (r ≤ 974) = false := decide_eq_false (by omega)
    have d12 : (r != 930) = true := by rw [bne_iff_ne]; omega
    have d13 : decide ((1024 : Int) ≤ r) = false := decide_eq_false (by omega)
    have d14 : decide (r ≤ 1119) = true := decide_eq_true (by omega)
    clear hc
    go_enter Try.func54, Try.ntmps54
    go_wp2
    go_ret
    exact ⟨by rw [hr.out]; rfl, rfl⟩
  · have hr := Lib.hid (show isWd r = true by
      simp only [isWd, inS, Bool.or_eq_true, Bool.and_eq_true, decide_eq_true_eq, bne_iff_ne]
      omega)
    have d0 : decide ((48 : Int) ≤ r) = true := decide_eq_true (by omega)
    have d1 : decide (r ≤ 57) = false := decide_eq_false (by omega)
    have d2 : decide ((65 : Int) ≤ r) = true := decide_eq_true (by omega)
    have d3 : decide (r ≤ 90) = false := decide_eq_false (by omega)
    have d4 : decide ((97 : Int) ≤ r) = true := decide_eq_true (by omega)
    have d5 : decide (r ≤ 122) = false := decide_eq_false (by omega)
    have d6 : decide ((192 : Int) ≤ r) = true := decide_eq_true (by omega)
    have d7 : decide (r ≤ 255) = false := decide_eq_false (by omega)
    have d8 : (r != 215) = true := by rw [bne_iff_ne]; omega
    have d9 : (r != 247) = true := by rw [bne_iff_ne]; omega
    have d10 : decide ((913 : Int) ≤ r) = true := decide_eq_true (by omega)
    have d11 : decide (r ≤ 974) = false := decide_eq_false (by omega)
    have d12 : (r != 930) = true := by rw [bne_iff_ne]; omega
    have d13 : decide ((1024 : Int) ≤ r) = true := decide_eq_true (by omega)
    have d14 : decide (r ≤ 1119) = true := decide_eq_true (by omega)
    clear hc
    go_enter Try.func54, Try.ntmps54
    go_wp2
    go_ret
    exact ⟨by rw [hr.out]; rfl, rfl⟩
  · have hr := Lib.hid (show isWd r = false by
      rw [← Bool.not_eq_true]
      simp only [isWd, inS, Bool.or_eq_true, Bool.and_eq_true, decide_eq_true_eq, bne_iff_ne]
      omega)
    have d0 : decide ((48 : Int) ≤ r) = true := decide_eq_true (by omega)
    have d1 : decide (r ≤ 57) = false := decide_eq_false (by omega)
    have d2 : decide ((65 : Int) ≤ r) = true := decide_eq_true (by omega)
    have d3 : decide (r ≤ 90) = false := decide_eq_false (by omega)
    have d4 : decide ((97 : Int) ≤ r) = true := decide_eq_true (by omega)
    have d5 : decide (r ≤ 122) = false := decide_eq_false (by omega)
    have d6 : decide ((192 : Int) ≤ r) = true := decide_eq_true (by omega)
    have d7 : decide (r ≤ 255) = false := decide_eq_false (by omega)
    have d8 : (r != 215) = true := by rw [bne_iff_ne]; omega
    have d9 : (r != 247) = true := by rw [bne_iff_ne]; omega
    have d10 : decide ((913 : Int) ≤ r) = true := decide_eq_true (by omega)
    have d11 : decide (r ≤ 974) = false := decide_eq_false (by omega)
    have d12 : (r != 930) = true := by rw [bne_iff_ne]; omega
    have d13 : decide ((1024 : Int) ≤ r) = true := decide_eq_true (by omega)
    have d14 : decide (r ≤ 1119) = false := decide_eq_false (by omega)
    clear hc
    go_enter Try.func54, Try.ntmps54
    go_wp2
    go_ret
    exact ⟨by rw [hr.out]; rfl, rfl⟩
theorem lo_all (r : Int) : (r < 65) ∨ (65 ≤ r ∧ r ≤ 90) ∨ (90 < r ∧ r < 192) ∨ (192 ≤ r ∧ r ≤ 222 ∧ r ≠ 215) ∨ (r = 215) ∨ (222 < r ∧ r < 913) ∨ (913 ≤ r ∧ r ≤ 939 ∧ r ≠ 930) ∨ (r = 930) ∨ (939 < r ∧ r < 1024) ∨ (1024 ≤ r ∧ r ≤ 1039) ∨ (1040 ≤ r ∧ r ≤ 1071) ∨ (1071 < r) := by omega
set_option maxHeartbeats 3200000 in
set_option maxRecDepth 100000 in
theorem rlower_any (w : World) (r : Int) (h : IsR r) :
    Calls Try.prog 75 #[.int .i64 r] w fun e w' => e = .returned (.int .i64 (lowR r)) ∧ w' = w := by
  have h1 : 0 ≤ r := h.1
  have h2 : r ≤ 1114111 := h.2.1
  have w1 : IntKind.i64.wrap (r + 32) = r + 32 := by rw [IntKind.wrap_i64]; omega
  have w2 : IntKind.i64.wrap (r + 80) = r + 80 := by rw [IntKind.wrap_i64]; omega
  clear h
  rcases lo_all r with hc | hc | hc | hc | hc | hc | hc | hc | hc | hc | hc | hc
  · have hr := Lib.hid (show lowR r = r by
      unfold lowR
      rw [if_neg (by simp only [inS, Bool.or_eq_true, Bool.and_eq_true, decide_eq_true_eq, bne_iff_ne]; omega), if_neg (by simp only [inS, Bool.and_eq_true, decide_eq_true_eq, bne_iff_ne]; omega)])
    have d0 : decide ((65 : Int) ≤ r) = false := decide_eq_false (by omega)
    have d1 : decide (r ≤ 90) = true := decide_eq_true (by omega)
    have d2 : decide ((192 : Int) ≤ r) = false := decide_eq_false (by omega)
    have d3 : decide (r ≤ 222) = true := decide_eq_true (by omega)
    have d4 : (r != 215) = true := by rw [bne_iff_ne]; omega
    have d5 : decide ((913 : Int) ≤ r) = false := decide_eq_false (by omega)
    have d6 : decide (r ≤ 939) = true := decide_eq_true (by omega)
    have d7 : (r != 930) = true := by rw [bne_iff_ne]; omega
    have d8 : decide ((1040 : Int) ≤ r) = false := decide_eq_false (by omega)
    have d9 : decide (r ≤ 1071) = true := decide_eq_true (by omega)
    have d10 : decide ((1024 : Int) ≤ r) = false := decide_eq_false (by omega)
    have d11 : decide (r ≤ 1039) = true := decide_eq_true (by omega)
    clear hc h1 h2
    go_enter Try.func75, Try.ntmps75
    go_wp2
    go_ret
    exact ⟨by rw [hr.out]; rfl, rfl⟩
  · have hr := Lib.hid (show lowR r = r + 32 by
      unfold lowR
      rw [if_pos (by simp only [inS, Bool.or_eq_true, Bool.and_eq_true, decide_eq_true_eq, bne_iff_ne]; omega)])
    have d0 : decide ((65 : Int) ≤ r) = true := decide_eq_true (by omega)
    have d1 : decide (r ≤ 90) = true := decide_eq_true (by omega)
    have d2 : decide ((192 : Int) ≤ r) = false := decide_eq_false (by omega)
    have d3 : decide (r ≤ 222) = true := decide_eq_true (by omega)
    have d4 : (r != 215) = true := by rw [bne_iff_ne]; omega
    have d5 : decide ((913 : Int) ≤ r) = false := decide_eq_false (by omega)
    have d6 : decide (r ≤ 939) = true := decide_eq_true (by omega)
    have d7 : (r != 930) = true := by rw [bne_iff_ne]; omega
    have d8 : decide ((1040 : Int) ≤ r) = false := decide_eq_false (by omega)
    have d9 : decide (r ≤ 1071) = true := decide_eq_true (by omega)
    have d10 : decide ((1024 : Int) ≤ r) = false := decide_eq_false (by omega)
    have d11 : decide (r ≤ 1039) = true := decide_eq_true (by omega)
    clear hc h1 h2
    go_enter Try.func75, Try.ntmps75
    go_wp2
    go_ret
    exact ⟨by rw [hr.out]; rfl, rfl⟩
  · have hr := Lib.hid (show lowR r = r by
      unfold lowR
      rw [if_neg (by simp only [inS, Bool.or_eq_true, Bool.and_eq_true, decide_eq_true_eq, bne_iff_ne]; omega), if_neg (by simp only [inS, Bool.and_eq_true, decide_eq_true_eq, bne_iff_ne]; omega)])
    have d0 : decide ((65 : Int) ≤ r) = true := decide_eq_true (by omega)
    have d1 : decide (r ≤ 90) = false := decide_eq_false (by omega)
    have d2 : decide ((192 : Int) ≤ r) = false := decide_eq_false (by omega)
    have d3 : decide (r ≤ 222) = true := decide_eq_true (by omega)
    have d4 : (r != 215) = true := by rw [bne_iff_ne]; omega
    have d5 : decide ((913 : Int) ≤ r) = false := decide_eq_false (by omega)
    have d6 : decide (r ≤ 939) = true := decide_eq_true (by omega)
    have d7 : (r != 930) = true := by rw [bne_iff_ne]; omega
    have d8 : decide ((1040 : Int) ≤ r) = false := decide_eq_false (by omega)
    have d9 : decide (r ≤ 1071) = true := decide_eq_true (by omega)
    have d10 : decide ((1024 : Int) ≤ r) = false := decide_eq_false (by omega)
    have d11 : decide (r ≤ 1039) = true := decide_eq_true (by omega)
    clear hc h1 h2
    go_enter Try.func75, Try.ntmps75
    go_wp2
    go_ret
    exact ⟨by rw [hr.out]; rfl, rfl⟩
  · have hr := Lib.hid (show lowR r = r + 32 by
      unfold lowR
      rw [if_pos (by simp only [inS, Bool.or_eq_true, Bool.and_eq_true, decide_eq_true_eq, bne_iff_ne]; omega)])
    have d0 : decide ((65 : Int) ≤ r) = true := decide_eq_true (by omega)
    have d1 : decide (r ≤ 90) = false := decide_eq_false (by omega)
    have d2 : decide ((192 : Int) ≤ r) = true := decide_eq_true (by omega)
    have d3 : decide (r ≤ 222) = true := decide_eq_true (by omega)
    have d4 : (r != 215) = true := by rw [bne_iff_ne]; omega
    have d5 : decide ((913 : Int) ≤ r) = false := decide_eq_false (by omega)
    have d6 : decide (r ≤ 939) = true := decide_eq_true (by omega)
    have d7 : (r != 930) = true := by rw [bne_iff_ne]; omega
    have d8 : decide ((1040 : Int) ≤ r) = false := decide_eq_false (by omega)
    have d9 : decide (r ≤ 1071) = true := decide_eq_true (by omega)
    have d10 : decide ((1024 : Int) ≤ r) = false := decide_eq_false (by omega)
    have d11 : decide (r ≤ 1039) = true := decide_eq_true (by omega)
    clear hc h1 h2
    go_enter Try.func75, Try.ntmps75
    go_wp2
    go_ret
    exact ⟨by rw [hr.out]; rfl, rfl⟩
  · have hr := Lib.hid (show lowR r = r by
      unfold lowR
      rw [if_neg (by simp only [inS, Bool.or_eq_true, Bool.and_eq_true, decide_eq_true_eq, bne_iff_ne]; omega), if_neg (by simp only [inS, Bool.and_eq_true, decide_eq_true_eq, bne_iff_ne]; omega)])
    have d0 : decide ((65 : Int) ≤ r) = true := decide_eq_true (by omega)
    have d1 : decide (r ≤ 90) = false := decide_eq_false (by omega)
    have d2 : decide ((192 : Int) ≤ r) = true := decide_eq_true (by omega)
    have d3 : decide (r ≤ 222) = true := decide_eq_true (by omega)
    have d4 : (r != 215) = false := by rw [bne_eq_false_iff_eq]; omega
    have d5 : decide ((913 : Int) ≤ r) = false := decide_eq_false (by omega)
    have d6 : decide (r ≤ 939) = true := decide_eq_true (by omega)
    have d7 : (r != 930) = true := by rw [bne_iff_ne]; omega
    have d8 : decide ((1040 : Int) ≤ r) = false := decide_eq_false (by omega)
    have d9 : decide (r ≤ 1071) = true := decide_eq_true (by omega)
    have d10 : decide ((1024 : Int) ≤ r) = false := decide_eq_false (by omega)
    have d11 : decide (r ≤ 1039) = true := decide_eq_true (by omega)
    clear hc h1 h2
    go_enter Try.func75, Try.ntmps75
    go_wp2
    go_ret
    exact ⟨by rw [hr.out]; rfl, rfl⟩
  · have hr := Lib.hid (show lowR r = r by
      unfold lowR
      rw [if_neg (by simp only [inS, Bool.or_eq_true, Bool.and_eq_true, decide_eq_true_eq, bne_iff_ne]; omega), if_neg (by simp only [inS, Bool.and_eq_true, decide_eq_true_eq, bne_iff_ne]; omega)])
    have d0 : decide ((65 : Int) ≤ r) = true := decide_eq_true (by omega)
    have d1 : decide (r ≤ 90) = false := decide_eq_false (by omega)
    have d2 : decide ((192 : Int) ≤ r) = true := decide_eq_true (by omega)
    have d3 : decide (r ≤ 222) = false := decide_eq_false (by omega)
    have d4 : (r != 215) = true := by rw [bne_iff_ne]; omega
    have d5 : decide ((913 : Int) ≤ r) = false := decide_eq_false (by omega)
    have d6 : decide (r ≤ 939) = true := decide_eq_true (by omega)
    have d7 : (r != 930) = true := by rw [bne_iff_ne]; omega
    have d8 : decide ((1040 : Int) ≤ r) = false := decide_eq_false (by omega)
    have d9 : decide (r ≤ 1071) = true := decide_eq_true (by omega)
    have d10 : decide ((1024 : Int) ≤ r) = false := decide_eq_false (by omega)
    have d11 : decide (r ≤ 1039) = true := decide_eq_true (by omega)
    clear hc h1 h2
    go_enter Try.func75, Try.ntmps75
    go_wp2
    go_ret
    exact ⟨by rw [hr.out]; rfl, rfl⟩
  · have hr := Lib.hid (show lowR r = r + 32 by
      unfold lowR
      rw [if_pos (by simp only [inS, Bool.or_eq_true, Bool.and_eq_true, decide_eq_true_eq, bne_iff_ne]; omega)])
    have d0 : decide ((65 : Int) ≤ r) = true := decide_eq_true (by omega)
    have d1 : decide (r ≤ 90) = false := decide_eq_false (by omega)
    have d2 : decide ((192 : Int) ≤ r) = true := decide_eq_true (by omega)
    have d3 : decide (r ≤ 222) = false := decide_eq_false (by omega)
    have d4 : (r != 215) = true := by rw [bne_iff_ne]; omega
    have d5 : decide ((913 : Int) ≤ r) = true := decide_eq_true (by omega)
    have d6 : decide (r ≤ 939) = true := decide_eq_true (by omega)
    have d7 : (r != 930) = true := by rw [bne_iff_ne]; omega
    have d8 : decide ((1040 : Int) ≤ r) = false := decide_eq_false (by omega)
    have d9 : decide (r ≤ 1071) = true := decide_eq_true (by omega)
    have d10 : decide ((1024 : Int) ≤ r) = false := decide_eq_false (by omega)
    have d11 : decide (r ≤ 1039) = true := decide_eq_true (by omega)
    clear hc h1 h2
    go_enter Try.func75, Try.ntmps75
    go_wp2
    go_ret
    exact ⟨by rw [hr.out]; rfl, rfl⟩
  · have hr := Lib.hid (show lowR r = r by
      unfold lowR
      rw [if_neg (by simp only [inS, Bool.or_eq_true, Bool.and_eq_true, decide_eq_true_eq, bne_iff_ne]; omega), if_neg (by simp only [inS, Bool.and_eq_true, decide_eq_true_eq, bne_iff_ne]; omega)])
    have d0 : decide ((65 : Int) ≤ r) = true := decide_eq_true (by omega)
    have d1 : decide (r ≤ 90) = false := decide_eq_false (by omega)
    have d2 : decide ((192 : Int) ≤ r) = true := decide_eq_true (by omega)
    have d3 : decide (r ≤ 222) = false := decide_eq_false (by omega)
    have d4 : (r != 215) = true := by rw [bne_iff_ne]; omega
    have d5 : decide ((913 : Int) ≤ r) = true := decide_eq_true (by omega)
    have d6 : decide (r ≤ 939) = true := decide_eq_true (by omega)
    have d7 : (r != 930) = false := by rw [bne_eq_false_iff_eq]; omega
    have d8 : decide ((1040 : Int) ≤ r) = false := decide_eq_false (by omega)
    have d9 : decide (r ≤ 1071) = true := decide_eq_true (by omega)
    have d10 : decide ((1024 : Int) ≤ r) = false := decide_eq_false (by omega)
    have d11 : decide (r ≤ 1039) = true := decide_eq_true (by omega)
    clear hc h1 h2
    go_enter Try.func75, Try.ntmps75
    go_wp2
    go_ret
    exact ⟨by rw [hr.out]; rfl, rfl⟩
  · have hr := Lib.hid (show lowR r = r by
      unfold lowR
      rw [if_neg (by simp only [inS, Bool.or_eq_true, Bool.and_eq_true, decide_eq_true_eq, bne_iff_ne]; omega), if_neg (by simp only [inS, Bool.and_eq_true, decide_eq_true_eq, bne_iff_ne]; omega)])
    have d0 : decide ((65 : Int) ≤ r) = true := decide_eq_true (by omega)
    have d1 : decide (r ≤ 90) = false := decide_eq_false (by omega)
    have d2 : decide ((192 : Int) ≤ r) = true := decide_eq_true (by omega)
    have d3 : decide (r ≤ 222) = false := decide_eq_false (by omega)
    have d4 : (r != 215) = true := by rw [bne_iff_ne]; omega
    have d5 : decide ((913 : Int) ≤ r) = true := decide_eq_true (by omega)
    have d6 : decide (r ≤ 939) = false := decide_eq_false (by omega)
    have d7 : (r != 930) = true := by rw [bne_iff_ne]; omega
    have d8 : decide ((1040 : Int) ≤ r) = false := decide_eq_false (by omega)
    have d9 : decide (r ≤ 1071) = true := decide_eq_true (by omega)
    have d10 : decide ((1024 : Int) ≤ r) = false := decide_eq_false (by omega)
    have d11 : decide (r ≤ 1039) = true := decide_eq_true (by omega)
    clear hc h1 h2
    go_enter Try.func75, Try.ntmps75
    go_wp2
    go_ret
    exact ⟨by rw [hr.out]; rfl, rfl⟩
  · have hr := Lib.hid (show lowR r = r + 80 by
      unfold lowR
      rw [if_neg (by simp only [inS, Bool.or_eq_true, Bool.and_eq_true, decide_eq_true_eq, bne_iff_ne]; omega), if_pos (by simp only [inS, Bool.and_eq_true, decide_eq_true_eq, bne_iff_ne]; omega)])
    have d0 : decide ((65 : Int) ≤ r) = true := decide_eq_true (by omega)
    have d1 : decide (r ≤ 90) = false := decide_eq_false (by omega)
    have d2 : decide ((192 : Int) ≤ r) = true := decide_eq_true (by omega)
    have d3 : decide (r ≤ 222) = false := decide_eq_false (by omega)
    have d4 : (r != 215) = true := by rw [bne_iff_ne]; omega
    have d5 : decide ((913 : Int) ≤ r) = true := decide_eq_true (by omega)
    have d6 : decide (r ≤ 939) = false := decide_eq_false (by omega)
    have d7 : (r != 930) = true := by rw [bne_iff_ne]; omega
    have d8 : decide ((1040 : Int) ≤ r) = false := decide_eq_false (by omega)
    have d9 : decide (r ≤ 1071) = true := decide_eq_true (by omega)
    have d10 : decide ((1024 : Int) ≤ r) = true := decide_eq_true (by omega)
    have d11 : decide (r ≤ 1039) = true := decide_eq_true (by omega)
    clear hc h1 h2
    go_enter Try.func75, Try.ntmps75
    go_wp2
    go_ret
    exact ⟨by rw [hr.out]; rfl, rfl⟩
  · have hr := Lib.hid (show lowR r = r + 32 by
      unfold lowR
      rw [if_pos (by simp only [inS, Bool.or_eq_true, Bool.and_eq_true, decide_eq_true_eq, bne_iff_ne]; omega)])
    have d0 : decide ((65 : Int) ≤ r) = true := decide_eq_true (by omega)
    have d1 : decide (r ≤ 90) = false := decide_eq_false (by omega)
    have d2 : decide ((192 : Int) ≤ r) = true := decide_eq_true (by omega)
    have d3 : decide (r ≤ 222) = false := decide_eq_false (by omega)
    have d4 : (r != 215) = true := by rw [bne_iff_ne]; omega
    have d5 : decide ((913 : Int) ≤ r) = true := decide_eq_true (by omega)
    have d6 : decide (r ≤ 939) = false := decide_eq_false (by omega)
    have d7 : (r != 930) = true := by rw [bne_iff_ne]; omega
    have d8 : decide ((1040 : Int) ≤ r) = true := decide_eq_true (by omega)
    have d9 : decide (r ≤ 1071) = true := decide_eq_true (by omega)
    have d10 : decide ((1024 : Int) ≤ r) = true := decide_eq_true (by omega)
    have d11 : decide (r ≤ 1039) = false := decide_eq_false (by omega)
    clear hc h1 h2
    go_enter Try.func75, Try.ntmps75
    go_wp2
    go_ret
    exact ⟨by rw [hr.out]; rfl, rfl⟩
  · have hr := Lib.hid (show lowR r = r by
      unfold lowR
      rw [if_neg (by simp only [inS, Bool.or_eq_true, Bool.and_eq_true, decide_eq_true_eq, bne_iff_ne]; omega), if_neg (by simp only [inS, Bool.and_eq_true, decide_eq_true_eq, bne_iff_ne]; omega)])
    have d0 : decide ((65 : Int) ≤ r) = true := decide_eq_true (by omega)
    have d1 : decide (r ≤ 90) = false := decide_eq_false (by omega)
    have d2 : decide ((192 : Int) ≤ r) = true := decide_eq_true (by omega)
    have d3 : decide (r ≤ 222) = false := decide_eq_false (by omega)
    have d4 : (r != 215) = true := by rw [bne_iff_ne]; omega
    have d5 : decide ((913 : Int) ≤ r) = true := decide_eq_true (by omega)
    have d6 : decide (r ≤ 939) = false := decide_eq_false (by omega)
    have d7 : (r != 930) = true := by rw [bne_iff_ne]; omega
    have d8 : decide ((1040 : Int) ≤ r) = true := decide_eq_true (by omega)
    have d9 : decide (r ≤ 1071) = false := decide_eq_false (by omega)
    have d10 : decide ((1024 : Int) ≤ r) = true := decide_eq_true (by omega)
    have d11 : decide (r ≤ 1039) = false := decide_eq_false (by omega)
    clear hc h1 h2
    go_enter Try.func75, Try.ntmps75
    go_wp2
    go_ret
    exact ⟨by rw [hr.out]; rfl, rfl⟩
end Go.Proofs.Ytbnjhpknagkiaaa
