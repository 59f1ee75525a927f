/-
  Contracts of varint.Get and of its reference.
  Conditions: a row of bytes of at most 1,000,000.
-/
import Derived.Test.YtbnjhpknagkiaaaVa
import Derived.Test.YtbnjhpknagkiaaaVp
import Derived.Lib.MinMax
namespace Go.Proofs.Ytbnjhpknagkiaaa
open Go.RowKit

/-- what Get adds, in the walk's words -/
theorem or_step (acc k y : Nat) (hk : k ≤ 9) (hy : y < 256) (h9 : k = 9 → y ≤ 1) (hacc : acc < 2 ^ (7 * k)) :
    bits .or .u64 (acc : Int) (IntKind.u64.wrap (IntKind.u64.wrap (bits .and .u8 (y : Int) 127) * 2 ^ (7 * k))) = ((acc + y % 128 * 2 ^ (7 * k) : Nat) : Int) := by
  have hs := acc_64 hk h9 hacc
  have e1 : bits .and .u8 (y : Int) 127 = ((y % 128 : Nat) : Int) := by
    rw [u8_and _ _ (by omega) (by omega) (by omega) (by omega)]
    have : y &&& 127 = y % 128 := Nat.and_two_pow_sub_one_eq_mod y 7
    simp [this]
  have e2 : IntKind.u64.wrap ((y % 128 : Nat) : Int) = ((y % 128 : Nat) : Int) := by rw [IntKind.wrap_u64]; omega
  have e3 : ((y % 128 : Nat) : Int) * 2 ^ (7 * k) = ((y % 128 * 2 ^ (7 * k) : Nat) : Int) := by simp
  have e4 : IntKind.u64.wrap ((y % 128 * 2 ^ (7 * k) : Nat) : Int) = ((y % 128 * 2 ^ (7 * k) : Nat) : Int) := by rw [IntKind.wrap_u64]; omega
  rw [e1, e2, e3, e4, u64_or_nat _ _ (by omega) (by omega), or_nat hacc]

theorem ret_get {bs : List UInt8} {k acc n j e : Nat} {r : Value} (h : vgo (bs.drop k) k acc = vgo bs 0 0) (hv : vgo (bs.drop k) k acc = (n, j, e)) {N E : Int} (hN : N = n := by rfl) (hE : E = e := by rfl) :
    Ending.returned (.tuple #[.int .u64 N, r, .int .i64 E]) = .returned (.tuple #[.int .u64 (vgN bs), r, .int .i64 (vgE bs)]) := by
  subst hN hE
  unfold vgN vgE
  rw [← h, hv]

theorem bs_err {w : World} {B : Nat} {bs : List UInt8} {k acc n j e : Nat} (h : vgo (bs.drop k) k acc = vgo bs 0 0) (hv : vgo (bs.drop k) k acc = (n, j, e)) (he : e ≠ 0) : BS w B (.slice none 0 0) (vgRest bs) := by
  have : vgRest bs = [] := by
    unfold vgRest
    rw [← h, hv]
    simp [he]
  rw [this]
  exact BS.nil_ _ _
theorem bs_ok {w : World} {B : Nat} {bs : List UInt8} {k acc n j : Nat} {r : Value} (h : vgo (bs.drop k) k acc = vgo bs 0 0) (hv : vgo (bs.drop k) k acc = (n, j, 0)) (hr : BS w B r (bs.drop j)) : BS w B r (vgRest bs) := by
  have : vgRest bs = bs.drop j := by
    unfold vgRest
    rw [← h, hv]
    simp
  rw [this]
  exact hr

set_option maxHeartbeats 800000 in
set_option maxRecDepth 100000 in
theorem get_any (w : World) (B : Nat) (v : Value) (bs : List UInt8) (h : BS w B v bs) (hB : B ≤ w.heap.size) (hl : bs.length ≤ 1000000) :
    Calls Try.prog 43 #[v] w fun e w' =>
      ∃ r, e = .returned (.tuple #[.int .u64 (vgN bs), r, .int .i64 (vgE bs)]) ∧ BS w' B r (vgRest bs) ∧ Ext w w' := by
  obtain ⟨A, c, rfl, hc, hm, hnil, hr⟩ := h
  have Hnil := Lib.hid hnil
  have hbs := Lib.hid (show BS w B (.slice A bs.length c) bs from ⟨A, c, rfl, hc, hm, hnil, hr⟩)
  obtain ⟨M, hM⟩ : ∃ M : Nat, (M : Int) = min (bs.length : Int) 10 := ⟨min bs.length 10, by omega⟩
  have hM1 : M ≤ bs.length := by omega
  have hM2 : M ≤ 10 := by omega
  have hmin : min (bs.length : Int) 10 = (M : Int) := hM.symm
  have HM := Lib.hid hM
  clear hM
  clear hnil
  go_enter Try.func43, Try.ntmps43
  go_wp2
  go_step3
  go_wp2
  go_step3
  go_wp2
  clear hmin
  go_loop [2, 4, 13] (fun n e i => ∃ (k acc : Nat), k ≤ M ∧ n = .int .u64 acc ∧ acc < 2 ^ (7 * k) ∧ e = .int .i64 6 ∧ i = .int .i64 k ∧ vgo (bs.drop k) k acc = vgo bs 0 0) (fun _ _ i => M - (intOf i).toNat)
  case atStart => exact ⟨0, 0, Nat.zero_le _, rfl, by simp, rfl, rfl, rfl⟩
  case round =>
    obtain ⟨k, acc, hk, rfl, hacc, rfl, rfl, heq⟩ := hrel
    have Hacc := Lib.hid hacc
    have Heq := Lib.hid heq
    clear hacc heq
    by_cases hlt : k < M
    · obtain ⟨ad, rfl, _, hcell⟩ := hr.2 (by omega)
      have hx := hcell k _ (bv_get bs k (by omega))
      have hb := (bs[k]'(by omega)).toNat_lt
      generalize hX : (bs[k]'(by omega)) = X at hx hb
      have HX := Lib.hid hX
      have Hcell := Lib.hid hcell
      clear hX hcell hr
      generalize hy : X.toNat = y at hx hb
      have Hy := Lib.hid hy
      clear hy
      have hk9 : k < 10 := by omega
      have Hor := Lib.hid (fun h9 : k = 9 → y ≤ 1 => or_step acc k y (by omega) (by omega) h9 Hacc.out)
      have e9 : ((k : Int) == 9) = true ∧ k = 9 ∨ ((k : Int) == 9) = false ∧ k ≠ 9 := by
        by_cases h : k = 9
        · exact .inl ⟨by simp [h], h⟩
        · exact .inr ⟨by simpa using (by omega : ¬(k : Int) = 9), h⟩
      have e0 : ((y : Int) == 0) = true ∧ y = 0 ∨ ((y : Int) == 0) = false ∧ y ≠ 0 := by
        by_cases h : y = 0
        · exact .inl ⟨by simp [h], h⟩
        · exact .inr ⟨by simpa using (by omega : ¬(y : Int) = 0), h⟩
      by_cases hbad : (k = 9 ∧ 1 < y) ∨ (0 < k ∧ y = 0)
      · have Hv := Lib.hid (vgo_bad (bs := bs) (k := k) (acc := acc) (by omega) hk9 (by rw [HX.out]; exact Hy.out) hbad)
        have Hbad := Lib.hid hbad
        clear hbad hk9
        rcases e9 with ⟨t9, e9⟩ | ⟨t9, e9⟩ <;> rcases e0 with ⟨t0, e0⟩ | ⟨t0, e0⟩
        all_goals have E9 := Lib.hid e9
        all_goals have E0 := Lib.hid e0
        all_goals clear e9 e0
        all_goals go_wp2
        all_goals first | (exfalso; have := Hbad.out; have := E9.out; have := E0.out; omega) | skip
        all_goals (try rw [Exit.noGoto_ret])
        all_goals go_ret3
        all_goals refine ⟨_, ret_get Heq.out Hv.out, bs_err Heq.out Hv.out (by decide), Below.refl _ _⟩
      · have Hbad := Lib.hid hbad
        clear hbad
        have H9 := Lib.hid (show k = 9 → y ≤ 1 from fun h => by have := Hbad.out; omega)
        by_cases h128 : y < 128
        · have Hv := Lib.hid (vgo_last (bs := bs) (k := k) (acc := acc) (by omega) hk9 (by rw [HX.out]; exact Hy.out) Hbad.out h128)
          have Hcut := Lib.hid (BS.cut_ (k := k + 1) hbs.out (by omega))
          rcases e9 with ⟨t9, e9⟩ | ⟨t9, e9⟩ <;> rcases e0 with ⟨t0, e0⟩ | ⟨t0, e0⟩
          all_goals have E9 := Lib.hid e9
          all_goals have E0 := Lib.hid e0
          all_goals clear e9 e0
          all_goals go_wp2
          all_goals first | (exfalso; have := Hbad.out; have := E9.out; have := E0.out; omega) | skip
          all_goals go_quiet (fail)
          all_goals go_wp2
          all_goals (try rw [Exit.noGoto_ret])
          all_goals go_ret3
          all_goals refine ⟨_, ret_get Heq.out Hv.out (Hor.out H9.out) rfl, bs_ok Heq.out Hv.out ?_, Ext.drewN _ _⟩
          all_goals have hc' := Hcut.out.ext hB (Ext.drewN _ nq)
          all_goals by_cases hck : c = k + 1
          all_goals first | (exfalso; omega) | (rw [if_neg hck] at hc'; exact hc') | (subst hck; rw [if_pos rfl, Nat.sub_self] at hc'; exact hc')
        · have Hv := Lib.hid (vgo_next (bs := bs) (k := k) (acc := acc) (by omega) hk9 (by rw [HX.out]; exact Hy.out) Hbad.out h128)
          rcases e9 with ⟨t9, e9⟩ | ⟨t9, e9⟩ <;> rcases e0 with ⟨t0, e0⟩ | ⟨t0, e0⟩
          all_goals have E9 := Lib.hid e9
          all_goals have E0 := Lib.hid e0
          all_goals clear e9 e0
          all_goals go_wp2
          all_goals first | (exfalso; have := Hbad.out; have := E9.out; have := E0.out; omega) | skip
          all_goals go_round
          all_goals first | (case rel => exact ⟨k + 1, _, by omega, congrArg (Value.int .u64) (Hor.out H9.out), acc_next Hacc.out, rfl, by go_num, by rw [← Hv.out]; exact Heq.out⟩) | (case measure => simp [intOf]; omega)
    · have Hv := Lib.hid (vgo_short (bs := bs) (k := k) (acc := acc) (by have := HM.out; omega))
      go_wp2
      (try rw [Exit.noGoto_ret])
      go_ret3
      exact ⟨_, ret_get Heq.out Hv.out, bs_err Heq.out Hv.out (by decide), Below.refl _ _⟩

end Go.Proofs.Ytbnjhpknagkiaaa
