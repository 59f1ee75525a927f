/-
  Contract of the reference's Bytes (loggiaref02): a number's bytes.
  Conditions: a number of 64 bits.
-/
import Derived.Test.YtbnjhpknagkiaaaVc
namespace Go.Proofs.Ytbnjhpknagkiaaa
open Go.RowKit

/-- '[]byte{x}' -/
theorem own_one (w : World) (x : Int) (b : UInt8) (hx : x = (b.toNat : Int)) (base : Nat) (hb : base ≤ w.heap.size) : Own (w.alloc (.cells #[.int .u8 x] 5)) base (.slice (some ⟨w.heap.size, 0, none⟩) 1 1) [b] := by
  subst hx
  exact ⟨rfl, .inr ⟨w.heap.size, 1, #[.int .u8 (b.toNat : Int)], rfl, hb, heap_alloc_new w _, Nat.le_refl _, by simp [maxLen], rfl, rfl⟩⟩

set_option maxHeartbeats 800000 in
set_option maxRecDepth 100000 in
theorem bytes_any (k : Nat) : ∀ (n : Nat) (w : World), n ≤ k → U64 n →
    Calls Try.prog 42 #[.int .u64 n] w fun e w' => ∃ v, e = .returned v ∧ Own w' w.heap.size v (enc n) ∧ Ext w w' := by
  induction k with
  | zero =>
    intro n w hk hn
    obtain rfl : n = 0 := by omega
    show Calls Try.prog 42 #[.int .u64 0] w _
    go_enter Try.func42, Try.ntmps42
    go_wp2_with fail
    go_ret
    exact ⟨_, rfl, own_one w 0 0 rfl _ (Nat.le_refl _), Ext.of_alloc _ _⟩
  | succ k ih =>
    intro n w hk hn
    have Ih := Lib.hid ih
    clear ih
    by_cases hlt : n < 128
    · have hx : (n : Int) = ((UInt8.ofNat n).toNat : Int) := by rw [UInt8.toNat_ofNat']; omega
      have Hx := Lib.hid hx
      clear hx
      go_enter Try.func42, Try.ntmps42
      go_wp2_with fail
      go_ret
      refine ⟨_, rfl, ?_, Ext.of_alloc _ _⟩
      rw [enc_lt hlt]
      exact own_one w _ _ Hx.out _ (Nat.le_refl _)
    · have hx : ((n : Int) % 128 + 128) = ((UInt8.ofNat (n % 128 + 128)).toNat : Int) := by rw [UInt8.toNat_ofNat']; omega
      have Hx := Lib.hid hx
      clear hx
      have he := enc_len10 (hn.le (show n / 128 ≤ n by omega))
      go_enter Try.func42, Try.ntmps42
      go_wp2_with fail
      rw [show IntKind.u64.wrap ((n : Int) / 128) = ((n / 128 : Nat) : Int) from by have := hn.lt; rw [IntKind.wrap_u64]; omega]
      refine (Ih.out (n / 128) _ (by omega) (hn.le (by omega))).mono ?_
      rintro e w1 ⟨v1, rfl, hown1, hb1⟩
      have hb1' := Lib.hid hb1
      have hbs := hb1.size
      simp at hbs
      clear hb1
      go_wp2_with (at_builtin; refine wpList_append_bytes _ rfl (.tmp 12) (.tmp 15) rfl w.heap.size (.slice (some ⟨w.heap.size, 0, none⟩) 1 1) [UInt8.ofNat (n % 128 + 128)] rfl ((own_one w _ _ Hx.out _ (Nat.le_refl _)).ext hb1'.out) _ _ (enc (n / 128)) rfl hown1.bs (by simp; omega) (by omega) ?_; intro v2 w2 hown2 hg2 hat2)
      go_ret
      refine ⟨_, rfl, ?_, ?_⟩
      · rw [enc_ge (n := n) (by omega)]; exact hown2
      · exact (Below.trans (Ext.of_alloc w _) (hb1'.out.mono (by simp))).grown hg2 (by omega) (by simp [Value.ownBlock])

end Go.Proofs.Ytbnjhpknagkiaaa
