/-
  Contracts of the reference's one, Is, Check.
  Conditions: those of each statement.
-/
import Derived.Test.YtccmhjlniljhcaaQe
import Derived.BigQuiet
namespace Go.Proofs.Ytccmhjlniljhcaa
open Go.RowKit

/-- may a post be, by itself -/
def oneOk (p : Post) : Bool := decide (0 ≤ p.1) && (decide (p.1 ≤ 65535) && pOk p)
theorem add_succ (ad : Addr) (j : Nat) : ad.add (j + 1) = ⟨ad.block, ad.off + (j + 1), none⟩ := by simp [Addr.add]
theorem ilast_take : ∀ (ps : List Int) (last : Int) (k : Nat) (h : k < ps.length), ilast last (ps.take (k + 1)) = ps[k]
  | n :: ps, last, 0, _ => by simp [ilast]
  | n :: ps, last, k + 1, h => by
    have := ilast_take ps n k (by simpa using h)
    simpa [ilast] using this

set_option maxHeartbeats 3200000 in
set_option maxRecDepth 100000 in
theorem one_any (w : World) (d : Int) (u : Value) (ps : List Int) (h6 : I6 d) (hu : SL w (Bw w) u ps) :
    Calls Try.prog 51 #[.agg #[.int .i64 d, u]] w fun e w' => e = .returned (.bool (oneOk (d, ps))) ∧ Ext w w' := by
  obtain ⟨A, c, rfl, hc, hm⟩ := hu.form
  have hm' : (ps.length : Int) ≤ 9223372036854775807 := by unfold maxLen at hm; omega
  have Hu := Lib.hid hu
  clear hu hm
  have h6' := h6.le
  by_cases h1 : d < 0
  · have ho : oneOk (d, ps) = false := by simp [oneOk]; omega
    rw [ho]
    go_enter Try.func51, Try.ntmps51
    go_wp2
    go_ret
    exact ⟨rfl, Ext.of_alloc _ _⟩
  · by_cases h2 : 65535 < d
    · have ho : oneOk (d, ps) = false := by simp [oneOk]; omega
      rw [ho]
      go_enter Try.func51, Try.ntmps51
      go_wp2
      go_ret
      exact ⟨rfl, Ext.of_alloc _ _⟩
    · by_cases h3 : ps.length = 0
      · have ho : oneOk (d, ps) = false := by simp [oneOk, pOk, h3]
        rw [ho]
        have h3' : ((ps.length : Int) == 0) = true := by rw [beq_iff_eq]; omega
        go_enter Try.func51, Try.ntmps51
        go_wp2
        go_ret
        exact ⟨rfl, Ext.of_alloc _ _⟩
      · have h3' : ((ps.length : Int) == 0) = false := by rw [beq_eq_false_iff_ne]; omega
        have ho : oneOk (d, ps) = ris (-1) 1048576 ps := by
          have e1 : decide (0 ≤ d) = true := decide_eq_true (by omega)
          have e2 : decide (d ≤ 65535) = true := decide_eq_true (by omega)
          have e3 : decide (0 < ps.length) = true := decide_eq_true (by omega)
          simp only [oneOk, pOk, e1, e2, e3, Bool.true_and]
        rw [ho]
        clear ho h6' h6
        go_enter Try.func51, Try.ntmps51
        go_wp2_with fail
        have hq0 := cell_new w #[.int .i64 d, .slice A ps.length c] 43 1 (v := .slice A ps.length c) rfl
        have hx1 : Ext w (w.alloc (.cells #[.int .i64 d, .slice A ps.length c] 43)) := Ext.of_alloc _ _
        generalize w.alloc (.cells #[.int .i64 d, .slice A ps.length c] 43) = w1 at hq0 hx1
        have Hx1 := Lib.hid hx1
        have Hq0 := Lib.hid hq0
        clear hq0 hx1
        go_loopw [3] (fun i wr => ∃ k : Nat, i = .int .i64 k ∧ k ≤ ps.length ∧ ris (-1) 1048576 ps = ris (ilast (-1) (ps.take k)) 1048576 (ps.drop k) ∧ -1 ≤ ilast (-1) (ps.take k) ∧ Ext w1 wr) (fun i _ => ps.length - (intOf i).toNat)
        case atStart => exact ⟨0, rfl, Nat.zero_le _, rfl, by simp [ilast], Below.refl _ _⟩
        case round =>
          obtain ⟨k, rfl, hk, hr, hl, hx⟩ := hrel
          have Hx := Lib.hid hx
          have hq := Ext.keeps hx Hq0.out
          by_cases hlt : k < ps.length
          · have hu2 := Hu.out.up (Ext.trans Hx1.out hx)
            obtain ⟨ad, rfl, _, hcell, h6⟩ := hu2.int_at hlt
            have hilt := ilast_take ps (-1) k hlt
            have hklt : (k : Int) < ps.length := by omega
            rw [drop_at ps hlt] at hr
            cases k with
            | zero =>
              rw [show ad.add 0 = ad from by simp [Addr.add]] at hcell
              generalize ps[0] = N at hcell h6 hr hilt
              have e0 : ilast (-1) (ps.take 0) = -1 := rfl
              rw [e0] at hr
              by_cases n1 : N < 0
              · have : ris (-1) 1048576 (N :: ps.drop (0 + 1)) = false := by simp [ris]; omega
                rw [this] at hr
                have Hr := Lib.hid hr
                clear hr this hx hu2 e0 hl hilt
                have hd1 : decide (N < 0) = true := decide_eq_true n1
                clear n1
                go_wp2
                go_quiet (fail)
                all_goals go_wp2
                all_goals go_ret
                all_goals exact ⟨by rw [Hr.out]; rfl, Ext.trans Hx1.out (Hx.out.drN _)⟩
              · by_cases n2 : 1048575 < N
                · have : ris (-1) 1048576 (N :: ps.drop (0 + 1)) = false := by simp [ris]; omega
                  rw [this] at hr
                  have Hr := Lib.hid hr
                  clear hr this hx hu2 e0 hl hilt
                  have hd1 : decide (N < 0) = false := decide_eq_false n1
                  have hd2 : decide (1048575 < N) = true := decide_eq_true n2
                  clear n1 n2
                  go_wp2
                  go_quiet (fail)
                  all_goals go_wp2
                  all_goals go_ret
                  all_goals exact ⟨by rw [Hr.out]; rfl, Ext.trans Hx1.out (Hx.out.drN _)⟩
                · have : ris (-1) 1048576 (N :: ps.drop (0 + 1)) = ris N 1048576 (ps.drop (0 + 1)) := by
                    have e1 : decide (-1 < N) = true := decide_eq_true (by omega)
                    have e2 : decide (N < 1048576) = true := decide_eq_true (by omega)
                    simp [ris, e1, e2]
                  rw [this, ← hilt] at hr
                  have Hr := Lib.hid hr
                  have Hil := Lib.hid hilt
                  clear hr this hx hu2 e0 hl hilt
                  have hd1 : decide (N < 0) = false := decide_eq_false n1
                  have hd2 : decide (1048575 < N) = false := decide_eq_false n2
                  have Hn := Lib.hid (And.intro n1 trivial)
                  clear n1 n2
                  go_wp2
                  go_quiet (fail)
                  all_goals go_wp2
                  all_goals exact ⟨⟨1, rfl, by omega, Hr.out, by rw [Hil.out]; have := Hn.out.1; omega, Hx.out.drN _⟩, by simp only [intOf]; omega⟩
            | succ j =>
              obtain ⟨ad2, had2, _, hcell2, h62⟩ := hu2.int_at (show j < ps.length by omega)
              have hj1 : (j : Int) + 1 < ps.length := by omega
              have hj0 : (j : Int) < ps.length := by omega
              have htn : ((j : Int) + 1).toNat = j + 1 := by omega
              have hj00 : (0 : Int) ≤ (j : Int) + 1 := by omega
              obtain rfl : ad = ad2 := by injection had2
              have hil2 := ilast_take ps (-1) j (by omega)
              rw [hil2] at hr hl
              generalize ps[j] = M at hcell2 h62 hr hl
              generalize ps[j + 1] = N at hcell h6 hr hilt
              rw [add_succ] at hcell
              by_cases n1 : N < 0
              · have : ris M 1048576 (N :: ps.drop (j + 1 + 1)) = false := by simp [ris]; omega
                rw [this] at hr
                have Hr := Lib.hid hr
                clear hr this hx hu2 hl hilt hil2 had2
                have hd1 : decide (N < 0) = true := decide_eq_true n1
                clear n1
                go_wp2
                go_quiet (fail)
                all_goals go_wp2
                all_goals go_ret
                all_goals exact ⟨by rw [Hr.out]; rfl, Ext.trans Hx1.out (Hx.out.drN _)⟩
              · by_cases n2 : 1048575 < N
                · have : ris M 1048576 (N :: ps.drop (j + 1 + 1)) = false := by simp [ris]; omega
                  rw [this] at hr
                  have Hr := Lib.hid hr
                  clear hr this hx hu2 hl hilt hil2 had2
                  have hd1 : decide (N < 0) = false := decide_eq_false n1
                  have hd2 : decide (1048575 < N) = true := decide_eq_true n2
                  clear n1 n2
                  go_wp2
                  go_quiet (fail)
                  all_goals go_wp2
                  all_goals go_ret
                  all_goals exact ⟨by rw [Hr.out]; rfl, Ext.trans Hx1.out (Hx.out.drN _)⟩
                · by_cases n3 : N ≤ M
                  · have : ris M 1048576 (N :: ps.drop (j + 1 + 1)) = false := by simp [ris]; omega
                    rw [this] at hr
                    have Hr := Lib.hid hr
                    clear hr this hx hu2 hl hilt hil2 had2
                    have hd1 : decide (N < 0) = false := decide_eq_false n1
                    have hd2 : decide (1048575 < N) = false := decide_eq_false n2
                    have hd3 : decide (N ≤ M) = true := decide_eq_true n3
                    clear n1 n2 n3
                    go_wp2
                    go_quiet (fail)
                    all_goals go_wp2
                    all_goals go_ret
                    all_goals exact ⟨by rw [Hr.out]; rfl, Ext.trans Hx1.out (Hx.out.drN _)⟩
                  · have : ris M 1048576 (N :: ps.drop (j + 1 + 1)) = ris N 1048576 (ps.drop (j + 1 + 1)) := by
                      have e1 : decide (M < N) = true := decide_eq_true (by omega)
                      have e2 : decide (N < 1048576) = true := decide_eq_true (by omega)
                      simp [ris, e1, e2]
                    rw [this, ← hilt] at hr
                    have Hr := Lib.hid hr
                    have Hil := Lib.hid hilt
                    clear hr this hx hu2 hl hilt hil2 had2
                    have hd1 : decide (N < 0) = false := decide_eq_false n1
                    have hd2 : decide (1048575 < N) = false := decide_eq_false n2
                    have hd3 : decide (N ≤ M) = false := decide_eq_false n3
                    have Hn := Lib.hid (And.intro n1 trivial)
                    clear n1 n2 n3
                    go_wp2
                    go_quiet (fail)
                    all_goals go_wp2
                    all_goals exact ⟨⟨j + 1 + 1, rfl, by omega, Hr.out, by rw [Hil.out]; have := Hn.out.1; omega, Hx.out.drN _⟩, by simp only [intOf]; omega⟩
          · have hlt' : ¬(k : Int) < ps.length := by omega
            rw [List.drop_of_length_le (by omega)] at hr
            have Hr := Lib.hid hr
            clear hr hx
            go_wp2
            go_ret
            exact ⟨by rw [Hr.out]; rfl, Ext.trans Hx1.out Hx.out⟩

end Go.Proofs.Ytccmhjlniljhcaa
