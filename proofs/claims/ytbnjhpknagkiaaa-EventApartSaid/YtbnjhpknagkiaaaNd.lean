/-
  Contract of utf.Decode, at any bytes.
  Conditions: at most 1,000,000 bytes.
-/
import Derived.Test.YtbnjhpknagkiaaaNc
namespace Go.Proofs.Ytbnjhpknagkiaaa
open Go.RowKit Go.Op

set_option maxHeartbeats 800000 in
set_option maxRecDepth 100000 in
theorem decode_1 (w : World) (s : List UInt8) (k : Nat) (hk : k < s.length) (ha : (s[k]).toNat < 128) :
    Calls Try.prog 78 #[.string ⟨s.toArray⟩, .int .i64 k] w fun e w' => e = .returned (.tuple #[.int .i64 ((s[k]).toNat : Int), .int .i64 1]) ∧ w' = w := by
  have hsz : (ByteArray.mk s.toArray).size = s.length := by show s.toArray.size = _; simp
  have hk0 : decide ((k : Int) < 0) = false := decide_eq_false (by omega)
  have hk1 : decide ((s.length : Int) ≤ k) = false := decide_eq_false (by omega)
  have hb := ba_lt hk
  have hbv := ba_at hk
  generalize hcc : (s[k]).toNat = c at ha
  have hcv : (((ByteArray.mk s.toArray)[k]'hb).toNat : Int) = (c : Nat) := by rw [hbv, hcc]
  have hc1 : (c : Int) < 128 := by omega
  have hmod : (c : Int) % 256 = c := by omega
  have hw1 : IntKind.i64.wrap (c : Int) = c := by rw [IntKind.wrap_i64]; omega
  clear hcc hbv
  go_enter Try.func78, Try.ntmps78
  go_wp2
  go_ret2
  exact ⟨rfl, rfl⟩

set_option maxHeartbeats 3200000 in
set_option maxRecDepth 100000 in
theorem decode_skip (w : World) (s : List UInt8) (k c : Nat) (hk : k < s.length) (hcc : (s[k]).toNat = c) (hc : 128 ≤ c) (hl : s.length ≤ 1000000)
    (h0 : (bits .and .u8 (c : Int) 224 != 192) = true ∨ (bits .and .u8 (c : Int) 224 != 192) = false ∧ decide ((s.length : Int) - k < 2) = true)
    (h1 : (bits .and .u8 (c : Int) 240 != 224) = true ∨ (bits .and .u8 (c : Int) 240 != 224) = false ∧ decide ((s.length : Int) - k < 3) = true)
    (h2 : (bits .and .u8 (c : Int) 248 != 240) = true ∨ (bits .and .u8 (c : Int) 248 != 240) = false ∧ decide ((s.length : Int) - k < 4) = true) :
    Calls Try.prog 78 #[.string ⟨s.toArray⟩, .int .i64 k] w fun e w' => e = .returned (.tuple #[.int .i64 65533, .int .i64 1]) ∧ Ext w w' := by
  have hsz : (ByteArray.mk s.toArray).size = s.length := by show s.toArray.size = _; simp
  have hk0 : decide ((k : Int) < 0) = false := decide_eq_false (by omega)
  have hk1 : decide ((s.length : Int) ≤ k) = false := decide_eq_false (by omega)
  have hb := ba_lt hk
  have hbv := ba_at hk
  have hcv : (((ByteArray.mk s.toArray)[k]'hb).toNat : Int) = (c : Nat) := by rw [hbv, hcc]
  have hc1 : ¬(c : Int) < 128 := by omega
  have i0 := frm0
  have i1 := frm1
  have i2 := frm2
  clear hcc hbv
  go_enter Try.func78, Try.ntmps78
  go_wp2_with fail
  refine (forms_any w).mono ?_
  rintro e w1 ⟨rfl, hx1⟩
  go_wp2_with fail
  refine wp_loop_rounds 4 ?_
  rw [rounds_succ]
  rcases h0 with h0 | ⟨h0, g0⟩
  all_goals go_wp2_with fail
  all_goals rw [rounds_succ]
  all_goals rcases h1 with h1 | ⟨h1, g1⟩
  all_goals go_wp2_with fail
  all_goals rw [rounds_succ]
  all_goals rcases h2 with h2 | ⟨h2, g2⟩
  all_goals go_wp2_with fail
  all_goals rw [rounds_succ]
  all_goals go_wp2
  all_goals go_ret2
  all_goals exact ⟨rfl, Ext.al (Ext.al (Ext.al hx1 _) _) _⟩

theorem decode_any (w : World) (s : List UInt8) (k : Nat) (hk : k < s.length) (hl : s.length ≤ 1000000) :
    Calls Try.prog 78 #[.string ⟨s.toArray⟩, .int .i64 k] w fun e w' => e = .returned (.tuple #[.int .i64 ((decN (s[k]).toNat (s.drop (k + 1))).1 : Int), .int .i64 ((decN (s[k]).toNat (s.drop (k + 1))).2 : Int)]) ∧ Ext w w' := by
  by_cases h1 : (s[k]).toNat < 128
  · rw [decN_asc _ h1]
    refine (decode_1 w s k hk h1).mono ?_
    rintro e w' ⟨rfl, rfl⟩
    exact ⟨rfl, Below.refl _ _⟩
  have hlt := (s[k]).toNat_lt
  have hdl : (s.drop (k + 1)).length = s.length - (k + 1) := List.length_drop
  have sk : ∀ (h0 : (s[k]).toNat / 32 = 6 → s.length < k + 2) (h1' : (s[k]).toNat / 16 = 14 → s.length < k + 3) (h2' : (s[k]).toNat / 8 = 30 → s.length < k + 4),
      Calls Try.prog 78 #[.string ⟨s.toArray⟩, .int .i64 k] w fun e w' => e = .returned (.tuple #[.int .i64 65533, .int .i64 1]) ∧ Ext w w' := by
    intro h0 h1' h2'
    refine decode_skip w s k _ hk rfl (by omega) hl ?_ ?_ ?_
    · rw [and224 _ hlt]
      by_cases h : (s[k]).toNat / 32 = 6
      · exact .inr ⟨by rw [h]; rfl, decide_eq_true (by have := h0 h; omega)⟩
      · exact .inl (by rw [bne_iff_ne]; omega)
    · rw [and240 _ hlt]
      by_cases h : (s[k]).toNat / 16 = 14
      · exact .inr ⟨by rw [h]; rfl, decide_eq_true (by have := h1' h; omega)⟩
      · exact .inl (by rw [bne_iff_ne]; omega)
    · rw [and248 _ hlt]
      by_cases h : (s[k]).toNat / 8 = 30
      · exact .inr ⟨by rw [h]; rfl, decide_eq_true (by have := h2' h; omega)⟩
      · exact .inl (by rw [bne_iff_ne]; omega)
  by_cases h2 : (s[k]).toNat / 32 = 6
  · by_cases hs : k + 1 < s.length
    · exact decode_2 w s k hs h2 hl
    · rw [decN_s2 h2 (by omega)]
      exact sk (by omega) (by omega) (by omega)
  by_cases h3 : (s[k]).toNat / 16 = 14
  · by_cases hs : k + 2 < s.length
    · exact decode_3 w s k hs h3 hl
    · rw [decN_s3 h3 (by omega)]
      exact sk (by omega) (by omega) (by omega)
  by_cases h4 : (s[k]).toNat / 8 = 30
  · by_cases hs : k + 3 < s.length
    · exact decode_4 w s k hs h4 hl
    · rw [decN_s4 h4 (by omega)]
      exact sk (by omega) (by omega) (by omega)
  · rw [decN_none _ h1 h2 h3 h4]
    exact sk (by omega) (by omega) (by omega)
end Go.Proofs.Ytbnjhpknagkiaaa
