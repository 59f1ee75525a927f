/-
  Contract of the reference's Get (loggiaref02).
  Conditions: a row of bytes of at most 1,000,000.
-/
import Derived.Test.YtbnjhpknagkiaaaVc
namespace Go.Proofs.Ytbnjhpknagkiaaa
open Go.RowKit

/-- what the reference adds, in the walk's words -/
theorem add_step (acc k y : Nat) (hk : k ≤ 9) (h9 : k = 9 → y ≤ 1) (hacc : acc < 2 ^ (7 * k)) :
    IntKind.u64.wrap ((acc : Int) + IntKind.u64.wrap ((y : Int) % 128 * 2 ^ (7 * k))) = ((acc + y % 128 * 2 ^ (7 * k) : Nat) : Int) := by
  have hs := acc_64 hk h9 hacc
  have e3 : (y : Int) % 128 * 2 ^ (7 * k) = ((y % 128 * 2 ^ (7 * k) : Nat) : Int) := by simp
  rw [e3, IntKind.wrap_u64, IntKind.wrap_u64]
  omega

set_option maxHeartbeats 1600000 in
set_option maxRecDepth 100000 in
theorem rget_any (w : World) (B : Nat) (v : Value) (bs : List UInt8) (h : BS w B v bs) (hB : B ≤ w.heap.size) (hl : bs.length ≤ 1000000) :
    Calls Try.prog 44 #[v] w fun e w' =>
      ∃ r, e = .returned (.tuple #[.int .u64 (vgN bs), r, .int .i64 (vgE bs)]) ∧ BS w' B r (vgRest bs) ∧ Ext w w' := by
  obtain ⟨A, c, rfl, hc, hm, hnil, hr⟩ := h
  have Hnil := Lib.hid hnil
  have hbs := Lib.hid (show BS w B (.slice A bs.length c) bs from ⟨A, c, rfl, hc, hm, hnil, hr⟩)
  clear hnil
  go_enter Try.func44, Try.ntmps44
  go_wp2
  go_loop [5, 6] (fun n i => ∃ (k acc : Nat), k ≤ bs.length ∧ k ≤ 10 ∧ n = .int .u64 acc ∧ acc < 2 ^ (7 * k) ∧ i = .int .i64 k ∧ vgo (bs.drop k) k acc = vgo bs 0 0) (fun _ i => 10 - (intOf i).toNat)
  case atStart => exact ⟨0, 0, Nat.zero_le _, by omega, rfl, by simp, rfl, rfl⟩
  case round =>
    obtain ⟨k, acc, hk, hk10, rfl, hacc, rfl, heq⟩ := hrel
    have Hacc := Lib.hid hacc
    have Heq := Lib.hid heq
    clear hacc heq
    by_cases hlt : k < bs.length ∧ k < 10
    · obtain ⟨hlt, hk9⟩ := hlt
      obtain ⟨ad, rfl, _, hcell⟩ := hr.2 (by omega)
      have hx := hcell k _ (bv_get bs k (by omega))
      have hb := (bs[k]'(by omega)).toNat_lt
      generalize hX : (bs[k]'(by omega)) = X at hx hb
      have HX := Lib.hid hX
      have Hcell := Lib.hid hcell
      clear hX hcell hr
      generalize hy : X.toNat = y at hx hb
      have Hy := Lib.hid hy
      clear hy
      have Hor := Lib.hid (fun h9 : k = 9 → y ≤ 1 => add_step acc k y (by omega) h9 Hacc.out)
      have e9 : ((k : Int) == 9) = true ∧ k = 9 ∨ ((k : Int) == 9) = false ∧ k ≠ 9 := by
        by_cases h : k = 9
        · exact .inl ⟨by simp [h], h⟩
        · exact .inr ⟨by simpa using (by omega : ¬(k : Int) = 9), h⟩
      have e0 : ((y : Int) == 0) = true ∧ y = 0 ∨ ((y : Int) == 0) = false ∧ y ≠ 0 := by
        by_cases h : y = 0
        · exact .inl ⟨by simp [h], h⟩
        · exact .inr ⟨by simpa using (by omega : ¬(y : Int) = 0), h⟩
      by_cases hbad : (k = 9 ∧ 1 < y) ∨ (0 < k ∧ y = 0)
      · have Hv := Lib.hid (vgo_bad (bs := bs) (k := k) (acc := acc) (by omega) hk9 (by rw [HX.out]; exact Hy.out) hbad)
        have Hbad := Lib.hid hbad
        clear hbad
        rcases e9 with ⟨t9, e9⟩ | ⟨t9, e9⟩ <;> rcases e0 with ⟨t0, e0⟩ | ⟨t0, e0⟩
        all_goals have E9 := Lib.hid e9
        all_goals have E0 := Lib.hid e0
        all_goals clear e9 e0
        all_goals go_wp2
        all_goals first | (exfalso; have := Hbad.out; have := E9.out; have := E0.out; omega) | skip
        all_goals go_ret3
        all_goals refine ⟨_, ret_get Heq.out Hv.out, bs_err Heq.out Hv.out (by decide), Below.refl _ _⟩
      · have Hbad := Lib.hid hbad
        clear hbad
        have H9 := Lib.hid (show k = 9 → y ≤ 1 from fun h => by have := Hbad.out; omega)
        by_cases h128 : y < 128
        · have Hv := Lib.hid (vgo_last (bs := bs) (k := k) (acc := acc) (by omega) hk9 (by rw [HX.out]; exact Hy.out) Hbad.out h128)
          have Hcut := Lib.hid (BS.cut_ (k := k + 1) hbs.out (by omega))
          rcases e9 with ⟨t9, e9⟩ | ⟨t9, e9⟩ <;> rcases e0 with ⟨t0, e0⟩ | ⟨t0, e0⟩
          all_goals have E9 := Lib.hid e9
          all_goals have E0 := Lib.hid e0
          all_goals clear e9 e0
          all_goals go_wp2
          all_goals first | (exfalso; have := Hbad.out; have := E9.out; have := E0.out; omega) | skip
          all_goals go_quiet (fail)
          all_goals go_wp2
          all_goals go_ret3
          all_goals refine ⟨_, ret_get Heq.out Hv.out (Hor.out H9.out) rfl, bs_ok Heq.out Hv.out ?_, Ext.drewN _ _⟩
          all_goals have hc' := Hcut.out.ext hB (Ext.drewN _ nq)
          all_goals by_cases hck : c = k + 1
          all_goals first | (exfalso; omega) | (rw [if_neg hck] at hc'; exact hc') | (subst hck; rw [if_pos rfl, Nat.sub_self] at hc'; exact hc')
        · have Hv := Lib.hid (vgo_next (bs := bs) (k := k) (acc := acc) (by omega) hk9 (by rw [HX.out]; exact Hy.out) Hbad.out h128)
          rcases e9 with ⟨t9, e9⟩ | ⟨t9, e9⟩ <;> rcases e0 with ⟨t0, e0⟩ | ⟨t0, e0⟩
          all_goals have E9 := Lib.hid e9
          all_goals have E0 := Lib.hid e0
          all_goals clear e9 e0
          all_goals go_wp2
          all_goals first | (exfalso; have := Hbad.out; have := E9.out; have := E0.out; omega) | skip
          all_goals go_round
          all_goals first | (case rel => exact ⟨k + 1, _, by omega, by omega, congrArg (Value.int .u64) (Hor.out H9.out), acc_next Hacc.out, by go_num, by rw [← Hv.out]; exact Heq.out⟩) | (case measure => simp [intOf]; omega)
    · have Hv := Lib.hid (vgo_short (bs := bs) (k := k) (acc := acc) (by omega))
      by_cases hl2 : k < bs.length
      all_goals go_wp2
      all_goals go_ret3
      all_goals exact ⟨_, ret_get Heq.out Hv.out, bs_err Heq.out Hv.out (by decide), Below.refl _ _⟩

end Go.Proofs.Ytbnjhpknagkiaaa
