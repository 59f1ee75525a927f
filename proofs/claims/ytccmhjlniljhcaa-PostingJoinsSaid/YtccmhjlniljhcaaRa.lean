/-
  Contracts of the reference's Find and of Find's comparison.
  Conditions: those of each statement.
-/
import Derived.Test.YtccmhjlniljhcaaQc
namespace Go.Proofs.Ytccmhjlniljhcaa
open Go.RowKit

/-- a doc's places -/
def fnd (doc : Int) : List Post → Option (List Int)
  | [] => none
  | p :: l => if p.1 = doc then some p.2 else fnd doc l
/-- how two numbers compare -/
def cmpI (a b : Int) : Int := if a < b then -1 else if b < a then 1 else 0

set_option maxHeartbeats 1600000 in
theorem find1_any (w : World) (d doc : Int) (u : Value) (ps : List Int) (hu : SL w (Bw w) u ps) :
    Calls Try.prog 48 #[.agg #[.int .i64 d, u], .int .i64 doc] w fun e w' => e = .returned (.int .i64 (cmpI d doc)) ∧ Ext w w' := by
  obtain ⟨A, c, rfl, _, _⟩ := hu.form
  clear hu
  have hx := Ext.of_alloc w (.cells #[.int .i64 d, .slice A ps.length c] 43)
  have Hx := Lib.hid hx
  clear hx
  go_enter Try.func48, Try.ntmps48
  by_cases h : d < doc
  · have hc : cmpI d doc = -1 := if_pos h
    have Hc := Lib.hid hc
    clear hc
    go_wp2
    go_ret
    exact ⟨by rw [Hc.out]; rfl, Hx.out⟩
  · by_cases h2 : doc < d
    · have hc : cmpI d doc = 1 := by unfold cmpI; rw [if_neg h, if_pos h2]
      have Hc := Lib.hid hc
      clear hc
      go_wp2
      go_ret
      exact ⟨by rw [Hc.out]; rfl, Hx.out⟩
    · have hc : cmpI d doc = 0 := by unfold cmpI; rw [if_neg h, if_neg h2]
      have Hc := Lib.hid hc
      clear hc
      go_wp2
      go_ret
      exact ⟨by rw [Hc.out]; rfl, Hx.out⟩

set_option maxHeartbeats 1600000 in
theorem rfind_any (w : World) (v : Value) (l : List Post) (doc : Int) (hv : SL w (Bw w) v l) :
    Calls Try.prog 19 #[v, .int .i64 doc] w fun e w' => ∃ u, e = .returned (.tuple #[u, .bool (fnd doc l).isSome]) ∧ SL w' (Bw w') u ((fnd doc l).getD []) ∧ Ext w w' := by
  obtain ⟨A, c, rfl, hc, hm⟩ := hv.form
  have hml : (l.length : Int) ≤ 9223372036854775807 := by unfold maxLen at hm; omega
  have Hv := Lib.hid hv
  clear hv hm
  go_enter Try.func19, Try.ntmps19
  go_wp2_with fail
  go_loopw [6] (fun i wr => ∃ k : Nat, i = .int .i64 k ∧ k ≤ l.length ∧ fnd doc l = fnd doc (l.drop k) ∧ Ext w wr) (fun i _ => l.length - (intOf i).toNat)
  case atStart => exact ⟨0, rfl, Nat.zero_le _, rfl, Below.refl _ _⟩
  case round =>
    obtain ⟨k, rfl, hk, hf, hx⟩ := hrel
    have Hx := Lib.hid hx
    by_cases hlt : k < l.length
    · obtain ⟨ad, u, rfl, _, hc0, hc1, hu, h6⟩ := (Hv.out.up hx).post_at hlt
      have hklt : (k : Int) < l.length := by omega
      rw [drop_at l hlt] at hf
      generalize l[k] = N at hc0 hc1 hu hf
      obtain ⟨d, ps⟩ := N
      dsimp only at hc0 hc1 hu
      obtain ⟨Au, cu, rfl, _, _⟩ := hu.form
      have HU := Lib.hid hu
      by_cases he : d = doc
      · have te : (d == doc) = true := by simp [he]
        have hs : fnd doc l = some ps := by rw [hf]; exact if_pos he
        have Hs := Lib.hid hs
        clear hu hx hf he hs
        go_wp2
        go_ret2
        rw [Hs.out]
        exact ⟨_, rfl, HU.out, Hx.out⟩
      · have te : (d == doc) = false := by simp [he]
        have hs : fnd doc l = fnd doc (l.drop (k + 1)) := by rw [hf]; exact if_neg he
        have Hs := Lib.hid hs
        clear hu hx hf he hs
        go_wp2_with fail
        go_roundw
        case rel => exact ⟨k + 1, rfl, by omega, Hs.out, Hx.out⟩
        case measure => simp only [intOf]; omega
    · have hklt : ¬(k : Int) < l.length := by omega
      rw [List.drop_eq_nil_of_le (by omega)] at hf
      have Hf := Lib.hid hf
      clear hx hf
      go_wp2
      go_ret2
      rw [Hf.out]
      exact ⟨_, rfl, SL.nil_ _ _, Hx.out⟩

end Go.Proofs.Ytccmhjlniljhcaa
