/-
  Contracts of utf.forms, utf.half; bits of runes.
  Conditions: those of each statement.
-/
import Derived.Test.YtbnjhpknagkiaaaNa
import Derived.Test.YtbnjhpknagkiaaaUb
import Derived.Test.YtbnjhpknagkiaaaEb
import Derived.Laws.Rows
import Derived.Laws.BitsLemmas
namespace Go.Proofs.Ytbnjhpknagkiaaa
open Go.RowKit Go.Op

theorem and224 (c : Nat) (h : c < 256) : bits .and .u8 (c : Int) 224 = ((c / 32 * 32 : Nat) : Int) := by
  have h1 : ∀ k : Fin 256, k.val &&& 224 = k.val / 32 * 32 := by decide +kernel
  have := u8_and_nat c 224 h (by decide)
  rw [h1 ⟨c, h⟩] at this
  exact this
theorem and240 (c : Nat) (h : c < 256) : bits .and .u8 (c : Int) 240 = ((c / 16 * 16 : Nat) : Int) := by
  have h1 : ∀ k : Fin 256, k.val &&& 240 = k.val / 16 * 16 := by decide +kernel
  have := u8_and_nat c 240 h (by decide)
  rw [h1 ⟨c, h⟩] at this
  exact this
theorem and248 (c : Nat) (h : c < 256) : bits .and .u8 (c : Int) 248 = ((c / 8 * 8 : Nat) : Int) := by
  have h1 : ∀ k : Fin 256, k.val &&& 248 = k.val / 8 * 8 := by decide +kernel
  have := u8_and_nat c 248 h (by decide)
  rw [h1 ⟨c, h⟩] at this
  exact this
theorem and192 (c : Nat) (h : c < 256) : bits .and .u8 (c : Int) 192 = ((c / 64 * 64 : Nat) : Int) := by
  have h1 : ∀ k : Fin 256, k.val &&& 192 = k.val / 64 * 64 := by decide +kernel
  have := u8_and_nat c 192 h (by decide)
  rw [h1 ⟨c, h⟩] at this
  exact this
theorem and63 (c : Nat) (h : c < 256) : bits .and .u8 (c : Int) 63 = ((c % 64 : Nat) : Int) := by rw [u8_and63 _ (by omega) (by omega)]; omega
theorem not224 (c : Nat) (h : c < 256) : bits .andNot .u8 (c : Int) 224 = ((c % 32 : Nat) : Int) := by
  have h1 : ∀ k : Fin 256, k.val &&& (255 - 224) = k.val % 32 := by decide +kernel
  have := u8_andNot_nat c 224 h (by decide)
  rw [h1 ⟨c, h⟩] at this
  exact this
theorem not240 (c : Nat) (h : c < 256) : bits .andNot .u8 (c : Int) 240 = ((c % 16 : Nat) : Int) := by
  have h1 : ∀ k : Fin 256, k.val &&& (255 - 240) = k.val % 16 := by decide +kernel
  have := u8_andNot_nat c 240 h (by decide)
  rw [h1 ⟨c, h⟩] at this
  exact this
theorem not248 (c : Nat) (h : c < 256) : bits .andNot .u8 (c : Int) 248 = ((c % 8 : Nat) : Int) := by
  have h1 : ∀ k : Fin 256, k.val &&& (255 - 248) = k.val % 8 := by decide +kernel
  have := u8_andNot_nat c 248 h (by decide)
  rw [h1 ⟨c, h⟩] at this
  exact this
theorem wraps_i64 (n : Int) (h₀ : 0 ≤ n) (h₁ : n < 2 ^ 63) : IntKind.i64.wrap n = n := by rw [IntKind.wrap_i64]; omega
/-- six bits more -/
theorem or6 (r x : Nat) (hr : r < 100000000) : bits .or .i64 ((r * 64 : Nat) : Int) ((x % 64 : Nat) : Int) = ((r * 64 + x % 64 : Nat) : Int) := by
  rw [bits_join .i64 63 (by decide) wraps_i64 6 _ _ (by omega) (by omega) (by omega) (by omega) (by omega) (by omega)]
  omega

set_option maxHeartbeats 800000 in
theorem half_any (w : World) (r : Int) :
    Calls Try.prog 91 #[.int .i64 r] w fun e w' => e = .returned (.bool (decide (55296 ≤ r) && decide (r ≤ 57343))) ∧ w' = w := by
  by_cases h1 : 55296 ≤ r
  · rw [decide_eq_true h1]
    by_cases h2 : r ≤ 57343
    · rw [decide_eq_true h2]
      go_enter Try.func91, Try.ntmps91
      go_wp2
      go_ret
      exact ⟨rfl, rfl⟩
    · rw [decide_eq_false h2]
      go_enter Try.func91, Try.ntmps91
      go_wp2
      go_ret
      exact ⟨rfl, rfl⟩
  · rw [decide_eq_false h1]
    go_enter Try.func91, Try.ntmps91
    go_wp2
    go_ret
    exact ⟨rfl, rfl⟩

set_option maxHeartbeats 1600000 in
set_option maxRecDepth 100000 in
theorem forms_any (w : World) :
    Calls Try.prog 90 #[] w fun e w' => e = .returned (.agg #[.int .i64 2, .int .u8 224, .int .u8 192, .int .i64 128, .int .i64 2047, .int .i64 (-1), .int .i64 3, .int .u8 240, .int .u8 224, .int .i64 2048, .int .i64 65535, .int .i64 (-1), .int .i64 4, .int .u8 248, .int .u8 240, .int .i64 65536, .int .i64 1114111, .int .i64 (-1)]) ∧ Ext w w' := by
  have HX := Lib.hid (Ext.of_alloc w (.cells #[.int .i64 2, .int .u8 224, .int .u8 192, .int .i64 128, .int .i64 2047, .int .i64 (-1), .int .i64 3, .int .u8 240, .int .u8 224, .int .i64 2048, .int .i64 65535, .int .i64 (-1), .int .i64 4, .int .u8 248, .int .u8 240, .int .i64 65536, .int .i64 1114111, .int .i64 (-1)] 127))
  go_enter Try.func90, Try.ntmps90
  go_wp2_with (first
    | (refine wpList_build rfl 109 _ rfl (by as_aux_lemma => kernel_rfl) ?_)
    | (refine wpList_build rfl 126 _ rfl (by as_aux_lemma => kernel_rfl) ?_)
    | (refine wpList_build rfl 127 _ rfl (by as_aux_lemma => kernel_rfl) ?_; rw [show (Try.prog.built 127 _).getD #[] = #[.int .i64 2, .int .u8 224, .int .u8 192, .int .i64 128, .int .i64 2047, .int .i64 (-1), .int .i64 3, .int .u8 240, .int .u8 224, .int .i64 2048, .int .i64 65535, .int .i64 (-1), .int .i64 4, .int .u8 248, .int .u8 240, .int .i64 65536, .int .i64 1114111, .int .i64 (-1)] from by as_aux_lemma => kernel_rfl])
    | (refine wpList_store_row rfl 127 _ _ rfl w.heap.size #[.int .i64 2, .int .u8 224, .int .u8 192, .int .i64 128, .int .i64 2047, .int .i64 (-1), .int .i64 3, .int .u8 240, .int .u8 224, .int .i64 2048, .int .i64 65535, .int .i64 (-1), .int .i64 4, .int .u8 248, .int .u8 240, .int .i64 65536, .int .i64 1114111, .int .i64 (-1)] rfl rfl 127 #[.int .i64 0, .int .u8 0, .int .u8 0, .int .i64 0, .int .i64 0, .int .i64 0, .int .i64 0, .int .u8 0, .int .u8 0, .int .i64 0, .int .i64 0, .int .i64 0, .int .i64 0, .int .u8 0, .int .u8 0, .int .i64 0, .int .i64 0, .int .i64 0] (heap_alloc_last w _) (by as_aux_lemma => kernel_rfl) rfl (by as_aux_lemma => kernel_rfl) ?_; rw [World.setRow_alloc_new])
    | fail)
  refine bodyPost_ret (results_cell_row rfl _ _ w.heap.size 127 _ (0, 0) _ rfl (heap_alloc_last w _) Try.underlying127 rfl (by as_aux_lemma => kernel_rfl)) rfl ?_
  exact ⟨rfl, HX.out⟩
end Go.Proofs.Ytbnjhpknagkiaaa
