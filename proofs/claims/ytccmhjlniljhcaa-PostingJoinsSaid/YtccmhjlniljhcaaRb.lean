/-
  Contract of slices.BinarySearchFunc over posts.
  Conditions: rising docs.
-/
import Derived.Test.YtccmhjlniljhcaaRa
namespace Go.Proofs.Ytccmhjlniljhcaa
open Go.RowKit

/-- docs rise -/
def Rise (l : List Post) : Prop := ∀ i j (hi : i < l.length) (hj : j < l.length), i < j → (l[i]).1 < (l[j]).1
/-- what is found -/
def BsIs (l : List Post) (doc : Int) (e : Ending) : Prop := ∃ (i : Nat) (b : Bool), e = .returned (.tuple #[.int .i64 i, .bool b]) ∧ (b = true → ∃ h : i < l.length, (l[i]).1 = doc) ∧ (b = false → ∀ j (h : j < l.length), (l[j]).1 ≠ doc)
set_option maxHeartbeats 3200000 in
set_option maxRecDepth 100000 in
theorem bs_any (w : World) (v : Value) (l : List Post) (doc : Int) (hv : SL w (Bw w) v l) (hl : l.length ≤ 1000000) (hr : Rise l) :
    Calls Try.prog 47 #[v, .int .i64 doc, .func (.func 48) #[] #[]] w fun e w' => BsIs l doc e ∧ Ext w w' := by
  obtain ⟨A, c, rfl, hc, hm⟩ := hv.form
  have Hv := Lib.hid hv
  have Hr := Lib.hid hr
  have hli : (l.length : Int) ≤ 1000000 := by omega
  clear hv hm hr
  go_enter Try.func47, Try.ntmps47
  go_wp2_with fail
  go_loopw [9, 10] (fun a b wr => ∃ lo hi : Nat, a = .int .i64 lo ∧ b = .int .i64 hi ∧ lo ≤ hi ∧ hi ≤ l.length ∧ (∀ j (h : j < l.length), j < lo → (l[j]).1 < doc) ∧ (∀ j (h : j < l.length), hi ≤ j → doc ≤ (l[j]).1) ∧ Ext w wr) (fun a b _ => ((intOf b) - (intOf a)).toNat)
  case atStart => exact ⟨0, l.length, rfl, rfl, Nat.zero_le _, Nat.le_refl _, fun j _ h => absurd h (by omega), fun j h h' => absurd h (by omega), Below.refl _ _⟩
  case round =>
    rename World => wr
    obtain ⟨lo, hi, rfl, rfl, hlh, hhl, hlo, hhi, hx⟩ := hrel
    have Hx := Lib.hid hx
    have Hlo := Lib.hid hlo
    have Hhi := Lib.hid hhi
    clear hlo hhi
    by_cases hlt : lo < hi
    · have hlti : (lo : Int) < hi := by omega
      obtain ⟨m, hm⟩ : ∃ m : Nat, ((lo : Int) + hi) / 2 = m := ⟨(lo + hi) / 2, by omega⟩
      have hm1 : lo ≤ m := by omega
      have hm2 : m < hi := by omega
      have hml : m < l.length := by omega
      have hhii : (hi : Int) ≤ 1000000 := by omega
      obtain ⟨ad, u, rfl, _, hc0, hc1, hu, h6⟩ := (Hv.out.up hx).post_at hml
      clear hx
      have HU := Lib.hid hu
      generalize hN : (l[m]).1 = N at hc0 h6
      generalize (l[m]).2 = PS at HU
      have HN := Lib.hid hN
      clear hN hu
      go_wp2_with fail
      refine (find1_any wr N doc u PS HU.out).mono ?_
      rintro e w2 ⟨rfl, hx⟩
      have Hx2 := Lib.hid (Ext.trans Hx.out hx)
      clear hx
      by_cases hd : N < doc
      · have hcm : cmpI N doc = -1 := if_pos hd
        rw [hcm]
        clear hcm
        go_wp2_with fail
        go_roundw
        case rel =>
          refine ⟨m + 1, hi, rfl, rfl, by omega, hhl, fun j h hj => ?_, Hhi.out, Hx2.out⟩
          by_cases hjm : j = m
          · subst hjm
            rw [HN.out]
            exact hd
          · have := Hr.out j m h hml (by omega)
            rw [HN.out] at this
            omega
        case measure => simp only [intOf]; omega
      · have hcm : decide (cmpI N doc < 0) = false := decide_eq_false (by unfold cmpI; rw [if_neg hd]; split <;> omega)
        generalize cmpI N doc = C at hcm
        go_wp2_with fail
        go_roundw
        case rel =>
          refine ⟨lo, m, rfl, rfl, hm1, by omega, Hlo.out, fun j h hj => ?_, Hx2.out⟩
          by_cases hjm : j = m
          · subst hjm
            rw [HN.out]
            omega
          · have := Hr.out m j hml h (by omega)
            rw [HN.out] at this
            omega
        case measure => simp only [intOf]; omega
    · have hlti : ¬(lo : Int) < hi := by omega
      by_cases hln : lo < l.length
      · have hlni : (lo : Int) < l.length := by omega
        obtain ⟨ad, u, rfl, _, hc0, hc1, hu, h6⟩ := (Hv.out.up hx).post_at hln
        clear hx
        have HU := Lib.hid hu
        generalize hN : (l[lo]).1 = N at hc0 h6
        generalize (l[lo]).2 = PS at HU
        have HN := Lib.hid hN
        clear hN hu
        go_wp2_with fail
        refine (find1_any wr N doc u PS HU.out).mono ?_
        rintro e w2 ⟨rfl, hx⟩
        have Hx2 := Lib.hid (Ext.trans Hx.out hx)
        clear hx
        have hge : doc ≤ N := by have := Hhi.out lo hln (by omega); rw [HN.out] at this; exact this
        by_cases hd : N = doc
        · have hcm : (cmpI N doc == 0) = true := by unfold cmpI; rw [if_neg (by omega), if_neg (by omega)]; rfl
          generalize cmpI N doc = C at hcm
          go_wp2
          go_ret2
          exact ⟨⟨lo, true, rfl, fun _ => ⟨hln, by rw [HN.out]; exact hd⟩, fun h => (by cases h)⟩, Hx2.out⟩
        · have hcm : (cmpI N doc == 0) = false := by unfold cmpI; rw [if_neg (by omega), if_pos (by omega)]; rfl
          generalize cmpI N doc = C at hcm
          go_wp2
          go_ret2
          refine ⟨⟨lo, false, rfl, fun h => (by cases h), fun _ j h he => ?_⟩, Hx2.out⟩
          by_cases hj : j < lo
          · have := Hlo.out j h hj
            omega
          · by_cases hjl : j = lo
            · subst hjl
              rw [HN.out] at he
              exact hd he
            · have := Hr.out lo j hln h (by omega)
              rw [HN.out] at this
              omega
      · have hlni : ¬(lo : Int) < l.length := by omega
        clear hx
        go_wp2
        go_ret2
        refine ⟨⟨lo, false, rfl, fun h => (by cases h), fun _ j h he => ?_⟩, Hx.out⟩
        have := Hlo.out j h (by omega)
        omega

end Go.Proofs.Ytccmhjlniljhcaa
