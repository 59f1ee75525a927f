/-
  Contracts of posting.rising and posting.Check.
  Conditions: those of each statement.
-/
import Derived.Test.YtccmhjlniljhcaaQa
import Derived.BigQuiet
namespace Go.Proofs.Ytccmhjlniljhcaa
open Go.RowKit

theorem drop_at {α : Type} (l : List α) {k : Nat} (h : k < l.length) : l.drop k = l[k] :: l.drop (k + 1) := List.drop_eq_getElem_cons h

set_option maxHeartbeats 1600000 in
set_option maxRecDepth 100000 in
theorem risi_any (w : World) (S : Nat → Prop) (v : Value) (l : List Int) (b : Int) (hv : SL w S v l) :
    Calls Try.prog 42 #[v, .int .i64 b, .func (.func 43) #[] #[]] w fun e w' => e = .returned (.bool (ris (-1) b l)) ∧ w = w' := by
  obtain ⟨A, c, rfl, hc, hm⟩ := hv.form
  have hm' : (l.length : Int) ≤ 9223372036854775807 := by unfold maxLen at hm; omega
  have Hv := Lib.hid hv
  clear hv hm
  go_enter Try.func42, Try.ntmps42
  go_wp2_with fail
  go_loop [7, 13] (fun x i => ∃ (k : Nat) (last : Int), i = .int .i64 k ∧ k ≤ l.length ∧ x = .int .i64 last ∧ ris (-1) b l = ris last b (l.drop k)) (fun _ i => l.length - (intOf i).toNat)
  case atStart => exact ⟨0, -1, rfl, Nat.zero_le _, rfl, by simp⟩
  case round =>
    obtain ⟨k, last, rfl, hk, rfl, hr⟩ := hrel
    by_cases hlt : k < l.length
    · obtain ⟨ad, rfl, _, hcell, h6⟩ := Hv.out.int_at hlt
      rw [drop_at l hlt] at hr
      have hklt : (k : Int) < l.length := by omega
      generalize l[k] = N at hcell h6 hr
      by_cases h1 : N ≤ last
      · have : ris last b (N :: l.drop (k + 1)) = false := by simp [ris]; omega
        rw [this] at hr
        have Hr := Lib.hid hr
        clear hr this
        go_wp2
        go_ret
        exact ⟨by rw [Hr.out]; rfl, rfl⟩
      · by_cases h2 : b ≤ N
        · have : ris last b (N :: l.drop (k + 1)) = false := by simp [ris]; omega
          rw [this] at hr
          have Hr := Lib.hid hr
          clear hr this
          go_wp2
          go_ret
          exact ⟨by rw [Hr.out]; rfl, rfl⟩
        · have : ris last b (N :: l.drop (k + 1)) = ris N b (l.drop (k + 1)) := by
            have e1 : decide (last < N) = true := decide_eq_true (by omega)
            have e2 : decide (N < b) = true := decide_eq_true (by omega)
            simp [ris, e1, e2]
          rw [this] at hr
          have Hr := Lib.hid hr
          clear hr this
          go_wp2
          go_round
          case rel => exact ⟨k + 1, N, rfl, by omega, rfl, Hr.out⟩
          case measure => simp only [intOf]; omega
    · have hnl : ¬(k : Int) < l.length := by omega
      rw [List.drop_of_length_le (by omega)] at hr
      have Hr := Lib.hid hr
      clear hr
      go_wp2
      go_ret
      exact ⟨by rw [Hr.out]; rfl, rfl⟩

set_option maxHeartbeats 1600000 in
set_option maxRecDepth 100000 in
theorem risp_any (w : World) (v : Value) (l : List Post) (b : Int) (hv : SL w (Bw w) v l) :
    Calls Try.prog 40 #[v, .int .i64 b, .func (.func 41) #[] #[]] w fun e w' => e = .returned (.bool (ris (-1) b (l.map (·.1)))) ∧ Ext w w' := by
  obtain ⟨A, c, rfl, hc, hm⟩ := hv.form
  have hm' : (l.length : Int) ≤ 9223372036854775807 := by unfold maxLen at hm; omega
  have Hv := Lib.hid hv
  clear hv hm
  go_enter Try.func40, Try.ntmps40
  go_wp2_with fail
  go_loopw [7, 13] (fun x i wr => ∃ (k : Nat) (last : Int), i = .int .i64 k ∧ k ≤ l.length ∧ x = .int .i64 last ∧ ris (-1) b (l.map (·.1)) = ris last b ((l.drop k).map (·.1)) ∧ Ext w wr) (fun _ i _ => l.length - (intOf i).toNat)
  case atStart => exact ⟨0, -1, rfl, Nat.zero_le _, rfl, by simp, Below.refl _ _⟩
  case round =>
    obtain ⟨k, last, rfl, hk, rfl, hr, hx⟩ := hrel
    have Hx := Lib.hid hx
    by_cases hlt : k < l.length
    · obtain ⟨ad, u, rfl, _, hc0, hc1, hu, h6⟩ := (Hv.out.up hx).post_at hlt
      rw [drop_at l hlt, List.map_cons] at hr
      have hklt : (k : Int) < l.length := by omega
      generalize l[k] = N at hc0 hc1 h6 hr hu
      obtain ⟨N, ps⟩ := N
      obtain ⟨Au, cu, rfl, _, _⟩ := hu.form
      dsimp only at hc0 hc1 h6 hr hu
      clear hu hx
      have hsz := Hx.out.size
      by_cases h1 : N ≤ last
      · have : ris last b (N :: (l.drop (k + 1)).map (·.1)) = false := by simp [ris]; omega
        rw [this] at hr
        have Hr := Lib.hid hr
        clear hr this
        go_wp2
        go_ret
        exact ⟨by rw [Hr.out]; rfl, (Hx.out.al _).al _⟩
      · by_cases h2 : b ≤ N
        · have : ris last b (N :: (l.drop (k + 1)).map (·.1)) = false := by simp [ris]; omega
          rw [this] at hr
          have Hr := Lib.hid hr
          clear hr this
          go_wp2
          go_ret
          exact ⟨by rw [Hr.out]; rfl, (Hx.out.al _).al _⟩
        · have : ris last b (N :: (l.drop (k + 1)).map (·.1)) = ris N b ((l.drop (k + 1)).map (·.1)) := by
            have e1 : decide (last < N) = true := decide_eq_true (by omega)
            have e2 : decide (N < b) = true := decide_eq_true (by omega)
            simp [ris, e1, e2]
          rw [this] at hr
          have Hr := Lib.hid hr
          clear hr this
          go_wp2
          go_roundw
          case rel => exact ⟨k + 1, N, rfl, by omega, rfl, Hr.out, (Hx.out.al _).al _⟩
          case measure => simp only [intOf]; omega
    · have hnl : ¬(k : Int) < l.length := by omega
      rw [List.drop_of_length_le (by omega)] at hr
      have Hr := Lib.hid hr
      clear hr hx
      go_wp2
      go_ret
      exact ⟨by rw [Hr.out]; rfl, Hx.out⟩

set_option maxHeartbeats 1600000 in
set_option maxRecDepth 100000 in
theorem check_any (w : World) (v : Value) (l : List Post) (hv : SL w (Bw w) v l) :
    Calls Try.prog 21 #[v] w fun e w' => e = .returned (.int .i64 (if psOk l = true then 0 else 80)) ∧ Ext w w' := by
  obtain ⟨A, c, rfl, hc, hm⟩ := hv.form
  have hm' : (l.length : Int) ≤ 9223372036854775807 := by unfold maxLen at hm; omega
  have Hv := Lib.hid hv
  clear hv hm
  go_enter Try.func21, Try.ntmps21
  go_wp2_with fail
  refine (risp_any w _ l 65536 Hv.out).mono ?_
  rintro e w1 ⟨rfl, hx1⟩
  have Hx1 := Lib.hid hx1
  clear hx1
  generalize hr0 : ris (-1) 65536 (l.map (·.1)) = r0
  have Hr0 := Lib.hid hr0
  clear hr0
  go_wp2_with fail
  go_loopw [3, 10] (fun x i wr => ∃ (k : Nat), i = .int .i64 k ∧ k ≤ l.length ∧ x = .bool (r0 && (l.take k).all pOk) ∧ Ext w wr) (fun _ i _ => l.length - (intOf i).toNat)
  case atStart => exact ⟨0, rfl, Nat.zero_le _, by simp, Hx1.out⟩
  case round =>
    obtain ⟨k, rfl, hk, rfl, hx⟩ := hrel
    have Hx := Lib.hid hx
    by_cases hlt : k < l.length
    · obtain ⟨ad, u, rfl, _, hc0, hc1, hu, h6⟩ := (Hv.out.up hx).post_at hlt
      have hklt : (k : Int) < l.length := by omega
      have hall : (l.take (k + 1)).all pOk = ((l.take k).all pOk && pOk l[k]) := by
        rw [List.take_succ_eq_append_getElem hlt, List.all_append]
        simp
      generalize l[k] = N at hc0 hc1 h6 hu hall
      obtain ⟨N, ps⟩ := N
      obtain ⟨Au, cu, rfl, _, _⟩ := hu.form
      dsimp only at hc0 hc1 h6 hu
      have hsz := Hx.out.size
      have Hu := Lib.hid hu
      generalize (l.take k).all pOk = ak at hall
      have Hall := Lib.hid hall
      clear hu hx hall
      cases hb : (r0 && ak) with
      | false =>
        have Hb := Lib.hid hb
        clear hb
        go_wp2
        go_roundw
        case rel => exact ⟨k + 1, rfl, by omega, by rw [Hall.out, ← Bool.and_assoc, Hb.out]; rfl, Hx.out.al _⟩
        case measure => simp only [intOf]; omega
      | true =>
        have Hb := Lib.hid hb
        clear hb
        by_cases h0 : 0 < ps.length
        · have h0' : (0 : Int) < ps.length := by omega
          go_wp2_with fail
          refine (risi_any _ _ _ ps 1048576 (Hu.out.keep (Sm.of_ext (Ext.of_alloc wr _) fun _ hk => hk))).mono ?_
          rintro e w3 ⟨rfl, rfl⟩
          have hp : pOk ((N, ps) : Post) = ris (-1) 1048576 ps := by simp [pOk, h0]
          rw [hp] at Hall
          generalize ris (-1) 1048576 ps = rr at Hall
          go_wp2
          go_roundw
          case rel => exact ⟨k + 1, rfl, by omega, by rw [Hall.out, ← Bool.and_assoc, Hb.out]; rfl, Hx.out.al _⟩
          case measure => simp only [intOf]; omega
        · have hl0 : ps.length = 0 := by omega
          have h0' : ¬(0 : Int) < ps.length := by omega
          have hp : pOk ((N, ps) : Post) = false := by simp [pOk, hl0]
          rw [hp] at Hall
          go_wp2
          go_roundw
          case rel => exact ⟨k + 1, rfl, by omega, by rw [Hall.out, ← Bool.and_assoc, Hb.out]; rfl, Hx.out.al _⟩
          case measure => simp only [intOf]; omega
    · have hnl : ¬(k : Int) < l.length := by omega
      rw [List.take_of_length_le (by omega)]
      have hok : (r0 && l.all pOk) = psOk l := by rw [← Hr0.out]; rfl
      rw [hok]
      clear hx hok
      cases hps : psOk l with
      | true =>
        go_wp2
        go_ret
        exact ⟨rfl, Hx.out⟩
      | false =>
        go_wp2
        go_ret
        exact ⟨rfl, Hx.out⟩

end Go.Proofs.Ytccmhjlniljhcaa
