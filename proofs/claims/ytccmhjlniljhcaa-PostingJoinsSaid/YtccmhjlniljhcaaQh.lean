/-
  Contracts of the reference's Is, Check.
  Conditions: those of each statement.
-/
import Derived.Test.YtccmhjlniljhcaaQg
import Derived.Test.YtccmhjlniljhcaaStep
namespace Go.Proofs.Ytccmhjlniljhcaa
open Go.RowKit

theorem wrap64_nat {n : Nat} (h : (n : Int) ≤ 9223372036854775807) : IntKind.i64.wrap (n : Int) = n := by
  rw [IntKind.wrap_i64]
  omega
theorem psOk_drop (l : List Post) {k : Nat} (hk : k < l.length) (last : Int) (hl : -1 ≤ last) :
    (ris last 65536 ((l.drop k).map (·.1)) && (l.drop k).all pOk) = (oneOk l[k] && (decide (last < l[k].1) && (ris l[k].1 65536 ((l.drop (k + 1)).map (·.1)) && (l.drop (k + 1)).all pOk))) := by
  rw [drop_at l hk, List.map_cons, List.all_cons]
  simp only [ris, oneOk]
  by_cases h1 : last < l[k].1
  · have e1 : decide (last < l[k].1) = true := decide_eq_true h1
    have e2 : decide (0 ≤ l[k].1) = true := decide_eq_true (by omega)
    rw [e1, e2]
    by_cases h2 : l[k].1 < 65536
    · have e3 : decide (l[k].1 < 65536) = true := decide_eq_true h2
      have e4 : decide (l[k].1 ≤ 65535) = true := decide_eq_true (by omega)
      rw [e3, e4]
      cases pOk l[k] <;> simp
    · have e3 : decide (l[k].1 < 65536) = false := decide_eq_false h2
      have e4 : decide (l[k].1 ≤ 65535) = false := decide_eq_false (by omega)
      rw [e3, e4]
      simp
  · have e1 : decide (last < l[k].1) = false := decide_eq_false h1
    rw [e1]
    simp

set_option maxHeartbeats 3200000 in
set_option maxRecDepth 100000 in
theorem is_any (w : World) (v : Value) (l : List Post) (hv : SL w (Bw w) v l) :
    Calls Try.prog 30 #[v] w fun e w' => e = .returned (.bool (psOk l)) ∧ Ext w w' := by
  obtain ⟨A, c, rfl, hc, hm⟩ := hv.form
  have hm' : (l.length : Int) ≤ 9223372036854775807 := by unfold maxLen at hm; omega
  have Hv := Lib.hid hv
  clear hv hm
  go_enter Try.func30, Try.ntmps30
  go_wp2_with fail
  go_loopw [3] (fun i wr => ∃ k : Nat, i = .int .i64 k ∧ k ≤ l.length ∧ psOk l = (ris (plast (-1) (l.take k)) 65536 ((l.drop k).map (·.1)) && (l.drop k).all pOk) ∧ -1 ≤ plast (-1) (l.take k) ∧ Ext w wr) (fun i _ => l.length - (intOf i).toNat)
  case atStart => exact ⟨0, rfl, Nat.zero_le _, rfl, by simp [plast], Below.refl _ _⟩
  case round =>
    obtain ⟨k, rfl, hk, hr, hl, hx⟩ := hrel
    have Hx := Lib.hid hx
    by_cases hlt : k < l.length
    · obtain ⟨ad, u, rfl, _, hc0, hc1, hu, h6⟩ := (Hv.out.up hx).post_at hlt
      have hklt : (k : Int) < l.length := by omega
      rw [psOk_drop l hlt _ hl] at hr
      have hpn := plast_snoc (l.take k) (-1) l[k]
      rw [← take_next l hlt] at hpn
      have hN : l[k] = l[k] := rfl
      generalize hNN : l[k] = N at hc0 hc1 hu h6 hr hpn
      obtain ⟨d, ps⟩ := N
      obtain ⟨Au, cu, rfl, _, _⟩ := hu.form
      dsimp only at hc0 hc1 hu h6 hr hpn
      have Hu := Lib.hid hu
      have Hpn := Lib.hid hpn
      have hd6 := h6.le
      clear hu hx hpn hN
      by_cases h1 : oneOk (d, ps) = true
      · have H1 := Lib.hid h1
        have hd0 : 0 ≤ d := by
          simp only [oneOk, Bool.and_eq_true, decide_eq_true_eq] at h1
          exact h1.1
        rw [h1, Bool.true_and] at hr
        clear h1
        by_cases h0 : k = 0
        · have e0 : decide (plast (-1) (l.take k) < d) = true := by
            rw [h0]
            exact decide_eq_true (by simp only [List.take_zero, plast]; omega)
          rw [e0, Bool.true_and] at hr
          have Hr := Lib.hid hr
          have H0 := Lib.hid h0
          clear hr e0 hl h0
          go_wp2_with fail
          refine wp_region_list2 [Is (.slice (some ad) l.length c), Is (.int .i64 k), Is (.pointer (some (ad.add (k * 2)))), Is (.agg #[.int .i64 d, .slice Au ps.length cu]), Is (.bool true), Is (.bool false), Is (.bool false), Is (.int .i64 k), Is (.bool false), Is (.bool false), Is undef, Is undef, Is undef, Is undef, Is undef, Is undef, Is undef, Is undef, Is undef, Is undef, Is undef, Is undef, Is (.bool false), Is (.bool false)] (by kernel_rfl) (by kernel_rfl) (by kernel_rfl) ?_ (Steps.all ?_) ?_
          · intro p hp
            simp only [List.mem_cons, List.not_mem_nil, or_false] at hp
            rcases hp with rfl | rfl | rfl | rfl | rfl | rfl | rfl | rfl | rfl | rfl | rfl | rfl | rfl | rfl | rfl | rfl | rfl | rfl | rfl | rfl | rfl | rfl | rfl | rfl
            all_goals first | exact mono_is _
          · refine Steps.cons_ (step_mk (Is (.slice (some ad) l.length c)) rfl fun a W hx hE hO => ?_) ?_
            · have h0 : a.eval (.tmp 0) = .slice (some ad) l.length c := hO 0 (by kernel_rfl)
              exact yes_none rfl (do_move rfl h0)
            refine Steps.cons_ (step_mk (Is (.int .i64 k)) rfl fun a W hx hE hO => ?_) ?_
            · have h3 : a.eval (.tmp 3) = .int .i64 k := hO 3 (by kernel_rfl)
              exact yes_none rfl (do_move rfl h3)
            refine Steps.cons_ (step_mk (Is (.pointer (some (ad.add (k * 2))))) rfl fun a W hx hE hO => ?_) ?_
            · have h10 : a.eval (.tmp 10) = (.slice (some ad) l.length c) := hE 0 (by kernel_rfl) 10 rfl
              have h11 : a.eval (.tmp 11) = (.int .i64 k) := hE 1 (by kernel_rfl) 11 rfl
              refine yes_none rfl (do_run (by simp only [execOp, h10, h11] <;> simp [go_sem, hlt]) rfl)
            refine Steps.cons_ (step_mk (Is (.agg #[.int .i64 d, .slice Au ps.length cu])) rfl fun a W hx hE hO => ?_) ?_
            · have h12 : a.eval (.tmp 12) = (.pointer (some (ad.add (k * 2)))) := hE 2 (by kernel_rfl) 12 rfl
              refine yes_none rfl ?_
              have q0 := Ext.keeps (Ext.trans (Ext.drew wr) hx) hc0; have q1 := Ext.keeps (Ext.trans (Ext.drew wr) hx) hc1; exact do_run (by simp only [execOp, h12] <;> simp [go_sem, q0, q1]) rfl
            refine Steps.cons_ (step_mk (Is (.bool true)) rfl fun a W hx hE hO => ?_) ?_
            · have h13 : a.eval (.tmp 13) = (.agg #[.int .i64 d, .slice Au ps.length cu]) := hE 3 (by kernel_rfl) 13 rfl
              refine yes_none rfl (do_call rfl Try.func51 (by kernel_rfl) (by kernel_rfl) (args := #[(.agg #[.int .i64 d, .slice Au ps.length cu])]) (by simp only [List.map_toArray, List.map_cons, List.map_nil, h13]) ?_)
              exact (one_any W d _ ps h6 (Hu.out.up (Ext.trans (Ext.drew wr) hx))).mono fun e w' ⟨he, hx⟩ => ⟨_, he, hx, by rw [H1.out]; rfl⟩
            refine Steps.cons_ (step_mk (Is (.bool false)) rfl fun a W hx hE hO => ?_) ?_
            · have h14 : a.eval (.tmp 14) = (.bool true) := hE 4 (by kernel_rfl) 14 rfl
              refine yes_none rfl (do_run (by simp only [execOp, h14] <;> simp [go_sem]) rfl)
            refine Steps.cons_ (step_mk (Is (.bool false)) rfl fun a W hx hE hO => ?_) ?_
            · have h15 : a.eval (.tmp 15) = (.bool false) := hE 5 (by kernel_rfl) 15 rfl
              exact yes_none rfl (do_move rfl h15)
            refine Steps.cons_ (step_mk (Is (.int .i64 k)) rfl fun a W hx hE hO => ?_) ?_
            · have h16 : a.eval (.tmp 16) = (.bool false) := hE 6 (by kernel_rfl) 16 rfl
              have h3 : a.eval (.tmp 3) = .int .i64 k := hO 3 (by kernel_rfl)
              exact yes_is (j := 6) (d := 16) (b := false) rfl rfl h16 (do_move rfl h3)
            refine Steps.cons_ (step_mk (Is (.bool false)) rfl fun a W hx hE hO => ?_) ?_
            · have h16 : a.eval (.tmp 16) = (.bool false) := hE 6 (by kernel_rfl) 16 rfl
              have h17 : a.eval (.tmp 17) = (.int .i64 k) := hE 7 (by kernel_rfl) 17 rfl
              refine yes_is (j := 6) (d := 16) (b := false) rfl rfl h16 ?_
              exact do_bin (v := .bool false) rfl h17 rfl (by simp [go_sem, H0.out]) rfl
            refine Steps.cons_ (step_mk (Is (.bool false)) rfl fun a W hx hE hO => ?_) ?_
            · have h16 : a.eval (.tmp 16) = (.bool false) := hE 6 (by kernel_rfl) 16 rfl
              have h18 : a.eval (.tmp 18) = (.bool false) := hE 8 (by kernel_rfl) 18 rfl
              exact yes_is (j := 6) (d := 16) (b := false) rfl rfl h16 (do_move rfl h18)
            refine Steps.cons_ (step_mk (Is undef) rfl fun a W hx hE hO => ?_) ?_
            · have h19 : a.eval (.tmp 19) = (.bool false) := hE 9 (by kernel_rfl) 19 rfl
              have h0 : a.eval (.tmp 0) = .slice (some ad) l.length c := hO 0 (by kernel_rfl)
              exact no_is (j := 9) (d := 19) (b := true) rfl rfl h19 rfl
            refine Steps.cons_ (step_mk (Is undef) rfl fun a W hx hE hO => ?_) ?_
            · have h19 : a.eval (.tmp 19) = (.bool false) := hE 9 (by kernel_rfl) 19 rfl
              have h3 : a.eval (.tmp 3) = .int .i64 k := hO 3 (by kernel_rfl)
              exact no_is (j := 9) (d := 19) (b := true) rfl rfl h19 rfl
            refine Steps.cons_ (step_mk (Is undef) rfl fun a W hx hE hO => ?_) ?_
            · have h19 : a.eval (.tmp 19) = (.bool false) := hE 9 (by kernel_rfl) 19 rfl
              have h20 : a.eval (.tmp 20) = undef := hE 10 (by kernel_rfl) 20 rfl
              have h21 : a.eval (.tmp 21) = undef := hE 11 (by kernel_rfl) 21 rfl
              exact no_is (j := 9) (d := 19) (b := true) rfl rfl h19 rfl
            refine Steps.cons_ (step_mk (Is undef) rfl fun a W hx hE hO => ?_) ?_
            · have h19 : a.eval (.tmp 19) = (.bool false) := hE 9 (by kernel_rfl) 19 rfl
              have h22 : a.eval (.tmp 22) = undef := hE 12 (by kernel_rfl) 22 rfl
              exact no_is (j := 9) (d := 19) (b := true) rfl rfl h19 rfl
            refine Steps.cons_ (step_mk (Is undef) rfl fun a W hx hE hO => ?_) ?_
            · have h19 : a.eval (.tmp 19) = (.bool false) := hE 9 (by kernel_rfl) 19 rfl
              have h23 : a.eval (.tmp 23) = undef := hE 13 (by kernel_rfl) 23 rfl
              exact no_is (j := 9) (d := 19) (b := true) rfl rfl h19 rfl
            refine Steps.cons_ (step_mk (Is undef) rfl fun a W hx hE hO => ?_) ?_
            · have h19 : a.eval (.tmp 19) = (.bool false) := hE 9 (by kernel_rfl) 19 rfl
              have h0 : a.eval (.tmp 0) = .slice (some ad) l.length c := hO 0 (by kernel_rfl)
              exact no_is (j := 9) (d := 19) (b := true) rfl rfl h19 rfl
            refine Steps.cons_ (step_mk (Is undef) rfl fun a W hx hE hO => ?_) ?_
            · have h19 : a.eval (.tmp 19) = (.bool false) := hE 9 (by kernel_rfl) 19 rfl
              have h3 : a.eval (.tmp 3) = .int .i64 k := hO 3 (by kernel_rfl)
              exact no_is (j := 9) (d := 19) (b := true) rfl rfl h19 rfl
            refine Steps.cons_ (step_mk (Is undef) rfl fun a W hx hE hO => ?_) ?_
            · have h19 : a.eval (.tmp 19) = (.bool false) := hE 9 (by kernel_rfl) 19 rfl
              have h26 : a.eval (.tmp 26) = undef := hE 16 (by kernel_rfl) 26 rfl
              exact no_is (j := 9) (d := 19) (b := true) rfl rfl h19 rfl
            refine Steps.cons_ (step_mk (Is undef) rfl fun a W hx hE hO => ?_) ?_
            · have h19 : a.eval (.tmp 19) = (.bool false) := hE 9 (by kernel_rfl) 19 rfl
              have h25 : a.eval (.tmp 25) = undef := hE 15 (by kernel_rfl) 25 rfl
              have h27 : a.eval (.tmp 27) = undef := hE 17 (by kernel_rfl) 27 rfl
              exact no_is (j := 9) (d := 19) (b := true) rfl rfl h19 rfl
            refine Steps.cons_ (step_mk (Is undef) rfl fun a W hx hE hO => ?_) ?_
            · have h19 : a.eval (.tmp 19) = (.bool false) := hE 9 (by kernel_rfl) 19 rfl
              have h28 : a.eval (.tmp 28) = undef := hE 18 (by kernel_rfl) 28 rfl
              exact no_is (j := 9) (d := 19) (b := true) rfl rfl h19 rfl
            refine Steps.cons_ (step_mk (Is undef) rfl fun a W hx hE hO => ?_) ?_
            · have h19 : a.eval (.tmp 19) = (.bool false) := hE 9 (by kernel_rfl) 19 rfl
              have h29 : a.eval (.tmp 29) = undef := hE 19 (by kernel_rfl) 29 rfl
              exact no_is (j := 9) (d := 19) (b := true) rfl rfl h19 rfl
            refine Steps.cons_ (step_mk (Is undef) rfl fun a W hx hE hO => ?_) ?_
            · have h19 : a.eval (.tmp 19) = (.bool false) := hE 9 (by kernel_rfl) 19 rfl
              have h24 : a.eval (.tmp 24) = undef := hE 14 (by kernel_rfl) 24 rfl
              have h30 : a.eval (.tmp 30) = undef := hE 20 (by kernel_rfl) 30 rfl
              exact no_is (j := 9) (d := 19) (b := true) rfl rfl h19 rfl
            refine Steps.cons_ (step_mk (Is (.bool false)) rfl fun a W hx hE hO => ?_) ?_
            · have h16 : a.eval (.tmp 16) = (.bool false) := hE 6 (by kernel_rfl) 16 rfl
              have h19 : a.eval (.tmp 19) = (.bool false) := hE 9 (by kernel_rfl) 19 rfl
              have h31 : a.eval (.tmp 31) = undef := hE 21 (by kernel_rfl) 31 rfl
              exact yes_is (j := 6) (d := 16) (b := false) rfl rfl h16 (do_pick_no rfl h19 rfl)
            refine Steps.cons_ (step_mk (Is (.bool false)) rfl fun a W hx hE hO => ?_) ?_
            · have h16 : a.eval (.tmp 16) = (.bool false) := hE 6 (by kernel_rfl) 16 rfl
              have h32 : a.eval (.tmp 32) = (.bool false) := hE 22 (by kernel_rfl) 32 rfl
              exact yes_none rfl (do_pick_no rfl h16 h32)
            exact Steps.nil_
          · intro a W hx hd hsz hE hO
            have h33 : a.eval (.tmp 33) = (.bool false) := hE 23 (of_decide_eq_true (by kernel_rfl)) 33 rfl
            have hmix := act_mix [false, false, false, false, false, false, false, false, false, false, true, true, true, true, true, true, true, true, true, true, true, true, true, true, true, true, true, true, true, true, true, true, true, true] (by kernel_rfl) hsz hd hO
            simp only [mixA, Nat.reduceAdd, Nat.zero_add] at hmix
            rw [hmix]
            rw [h33]
            generalize a.eval (.tmp 10) = u10
            generalize a.eval (.tmp 11) = u11
            generalize a.eval (.tmp 12) = u12
            generalize a.eval (.tmp 13) = u13
            generalize a.eval (.tmp 14) = u14
            generalize a.eval (.tmp 15) = u15
            generalize a.eval (.tmp 16) = u16
            generalize a.eval (.tmp 17) = u17
            generalize a.eval (.tmp 18) = u18
            generalize a.eval (.tmp 19) = u19
            generalize a.eval (.tmp 20) = u20
            generalize a.eval (.tmp 21) = u21
            generalize a.eval (.tmp 22) = u22
            generalize a.eval (.tmp 23) = u23
            generalize a.eval (.tmp 24) = u24
            generalize a.eval (.tmp 25) = u25
            generalize a.eval (.tmp 26) = u26
            generalize a.eval (.tmp 27) = u27
            generalize a.eval (.tmp 28) = u28
            generalize a.eval (.tmp 29) = u29
            generalize a.eval (.tmp 30) = u30
            generalize a.eval (.tmp 31) = u31
            generalize a.eval (.tmp 32) = u32
            clear hmix hd hsz hE hO
            go_wp2
            exact ⟨⟨k + 1, rfl, by omega, by rw [Hpn.out]; exact Hr.out, by rw [Hpn.out]; omega, Ext.trans Hx.out hx⟩, by simp only [intOf]; omega⟩
        · obtain ⟨j, hkj⟩ : ∃ j, k = j + 1 := ⟨k - 1, by omega⟩
          have h0p : 0 < k := by omega
          have hjl : j < l.length := by omega
          have hwr : IntKind.i64.wrap ((k : Int) - 1) = (j : Int) := by rw [hkj]; exact (by rw [show ((j + 1 : Nat) : Int) - 1 = (j : Int) from by omega]; exact wrap64_nat (by omega))
          obtain ⟨ad2, u2, had2, _, hcj, _, _, hj6⟩ := (Hv.out.up Hx.out).post_at hjl
          obtain rfl : ad = ad2 := by injection had2
          have hpj : plast (-1) (l.take k) = l[j].1 := by rw [hkj, take_next l hjl, plast_snoc]
          rw [hpj] at hr hl
          generalize l[j].1 = M at hcj hj6 hr hl
          clear hpj had2 hkj h0
          by_cases h2 : M < d
          · rw [decide_eq_true h2, Bool.true_and] at hr
            have Hr := Lib.hid hr
            have hd2 : decide (d ≤ M) = false := decide_eq_false (by omega)
            clear hr
            go_wp2_with fail
            refine wp_region_list2 [Is (.slice (some ad) l.length c), Is (.int .i64 k), Is (.pointer (some (ad.add (k * 2)))), Is (.agg #[.int .i64 d, .slice Au ps.length cu]), Is (.bool true), Is (.bool false), Is (.bool false), Is (.int .i64 k), Is (.bool true), Is (.bool true), Is (.slice (some ad) l.length c), Is (.int .i64 k), Is (.pointer (some (ad.add (k * 2)))), Is (.pointer (some (ad.add (k * 2)))), Is (.int .i64 d), Is (.slice (some ad) l.length c), Is (.int .i64 k), Is (.int .i64 j), Is (.pointer (some (ad.add (j * 2)))), Is (.pointer (some (ad.add (j * 2)))), Is (.int .i64 M), Is (.bool false), Is (.bool false), Is (.bool false)] (by kernel_rfl) (by kernel_rfl) (by kernel_rfl) ?_ (Steps.all ?_) ?_
            · intro p hp
              simp only [List.mem_cons, List.not_mem_nil, or_false] at hp
              rcases hp with rfl | rfl | rfl | rfl | rfl | rfl | rfl | rfl | rfl | rfl | rfl | rfl | rfl | rfl | rfl | rfl | rfl | rfl | rfl | rfl | rfl | rfl | rfl | rfl
              all_goals first | exact mono_is _
            · refine Steps.cons_ (step_mk (Is (.slice (some ad) l.length c)) rfl fun a W hx hE hO => ?_) ?_
              · have h0 : a.eval (.tmp 0) = .slice (some ad) l.length c := hO 0 (by kernel_rfl)
                exact yes_none rfl (do_move rfl h0)
              refine Steps.cons_ (step_mk (Is (.int .i64 k)) rfl fun a W hx hE hO => ?_) ?_
              · have h3 : a.eval (.tmp 3) = .int .i64 k := hO 3 (by kernel_rfl)
                exact yes_none rfl (do_move rfl h3)
              refine Steps.cons_ (step_mk (Is (.pointer (some (ad.add (k * 2))))) rfl fun a W hx hE hO => ?_) ?_
              · have h10 : a.eval (.tmp 10) = (.slice (some ad) l.length c) := hE 0 (by kernel_rfl) 10 rfl
                have h11 : a.eval (.tmp 11) = (.int .i64 k) := hE 1 (by kernel_rfl) 11 rfl
                refine yes_none rfl (do_run (by simp only [execOp, h10, h11] <;> simp [go_sem, hlt]) rfl)
              refine Steps.cons_ (step_mk (Is (.agg #[.int .i64 d, .slice Au ps.length cu])) rfl fun a W hx hE hO => ?_) ?_
              · have h12 : a.eval (.tmp 12) = (.pointer (some (ad.add (k * 2)))) := hE 2 (by kernel_rfl) 12 rfl
                refine yes_none rfl ?_
                have q0 := Ext.keeps (Ext.trans (Ext.drew wr) hx) hc0; have q1 := Ext.keeps (Ext.trans (Ext.drew wr) hx) hc1; exact do_run (by simp only [execOp, h12] <;> simp [go_sem, q0, q1]) rfl
              refine Steps.cons_ (step_mk (Is (.bool true)) rfl fun a W hx hE hO => ?_) ?_
              · have h13 : a.eval (.tmp 13) = (.agg #[.int .i64 d, .slice Au ps.length cu]) := hE 3 (by kernel_rfl) 13 rfl
                refine yes_none rfl (do_call rfl Try.func51 (by kernel_rfl) (by kernel_rfl) (args := #[(.agg #[.int .i64 d, .slice Au ps.length cu])]) (by simp only [List.map_toArray, List.map_cons, List.map_nil, h13]) ?_)
                exact (one_any W d _ ps h6 (Hu.out.up (Ext.trans (Ext.drew wr) hx))).mono fun e w' ⟨he, hx⟩ => ⟨_, he, hx, by rw [H1.out]; rfl⟩
              refine Steps.cons_ (step_mk (Is (.bool false)) rfl fun a W hx hE hO => ?_) ?_
              · have h14 : a.eval (.tmp 14) = (.bool true) := hE 4 (by kernel_rfl) 14 rfl
                refine yes_none rfl (do_run (by simp only [execOp, h14] <;> simp [go_sem]) rfl)
              refine Steps.cons_ (step_mk (Is (.bool false)) rfl fun a W hx hE hO => ?_) ?_
              · have h15 : a.eval (.tmp 15) = (.bool false) := hE 5 (by kernel_rfl) 15 rfl
                exact yes_none rfl (do_move rfl h15)
              refine Steps.cons_ (step_mk (Is (.int .i64 k)) rfl fun a W hx hE hO => ?_) ?_
              · have h16 : a.eval (.tmp 16) = (.bool false) := hE 6 (by kernel_rfl) 16 rfl
                have h3 : a.eval (.tmp 3) = .int .i64 k := hO 3 (by kernel_rfl)
                exact yes_is (j := 6) (d := 16) (b := false) rfl rfl h16 (do_move rfl h3)
              refine Steps.cons_ (step_mk (Is (.bool true)) rfl fun a W hx hE hO => ?_) ?_
              · have h16 : a.eval (.tmp 16) = (.bool false) := hE 6 (by kernel_rfl) 16 rfl
                have h17 : a.eval (.tmp 17) = (.int .i64 k) := hE 7 (by kernel_rfl) 17 rfl
                refine yes_is (j := 6) (d := 16) (b := false) rfl rfl h16 ?_
                exact do_bin (v := .bool true) rfl h17 rfl (by simp [go_sem, h0p]) rfl
              refine Steps.cons_ (step_mk (Is (.bool true)) rfl fun a W hx hE hO => ?_) ?_
              · have h16 : a.eval (.tmp 16) = (.bool false) := hE 6 (by kernel_rfl) 16 rfl
                have h18 : a.eval (.tmp 18) = (.bool true) := hE 8 (by kernel_rfl) 18 rfl
                exact yes_is (j := 6) (d := 16) (b := false) rfl rfl h16 (do_move rfl h18)
              refine Steps.cons_ (step_mk (Is (.slice (some ad) l.length c)) rfl fun a W hx hE hO => ?_) ?_
              · have h19 : a.eval (.tmp 19) = (.bool true) := hE 9 (by kernel_rfl) 19 rfl
                have h0 : a.eval (.tmp 0) = .slice (some ad) l.length c := hO 0 (by kernel_rfl)
                exact yes_is (j := 9) (d := 19) (b := true) rfl rfl h19 (do_move rfl h0)
              refine Steps.cons_ (step_mk (Is (.int .i64 k)) rfl fun a W hx hE hO => ?_) ?_
              · have h19 : a.eval (.tmp 19) = (.bool true) := hE 9 (by kernel_rfl) 19 rfl
                have h3 : a.eval (.tmp 3) = .int .i64 k := hO 3 (by kernel_rfl)
                exact yes_is (j := 9) (d := 19) (b := true) rfl rfl h19 (do_move rfl h3)
              refine Steps.cons_ (step_mk (Is (.pointer (some (ad.add (k * 2))))) rfl fun a W hx hE hO => ?_) ?_
              · have h19 : a.eval (.tmp 19) = (.bool true) := hE 9 (by kernel_rfl) 19 rfl
                have h20 : a.eval (.tmp 20) = (.slice (some ad) l.length c) := hE 10 (by kernel_rfl) 20 rfl
                have h21 : a.eval (.tmp 21) = (.int .i64 k) := hE 11 (by kernel_rfl) 21 rfl
                refine yes_is (j := 9) (d := 19) (b := true) rfl rfl h19 (do_run (by simp only [execOp, h20, h21] <;> simp [go_sem, hlt]) rfl)
              refine Steps.cons_ (step_mk (Is (.pointer (some (ad.add (k * 2))))) rfl fun a W hx hE hO => ?_) ?_
              · have h19 : a.eval (.tmp 19) = (.bool true) := hE 9 (by kernel_rfl) 19 rfl
                have h22 : a.eval (.tmp 22) = (.pointer (some (ad.add (k * 2)))) := hE 12 (by kernel_rfl) 22 rfl
                refine yes_is (j := 9) (d := 19) (b := true) rfl rfl h19 (do_run (by simp only [execOp, h22] <;> simp [go_sem]) rfl)
              refine Steps.cons_ (step_mk (Is (.int .i64 d)) rfl fun a W hx hE hO => ?_) ?_
              · have h19 : a.eval (.tmp 19) = (.bool true) := hE 9 (by kernel_rfl) 19 rfl
                have h23 : a.eval (.tmp 23) = (.pointer (some (ad.add (k * 2)))) := hE 13 (by kernel_rfl) 23 rfl
                refine yes_is (j := 9) (d := 19) (b := true) rfl rfl h19 ?_
                have q0 := Ext.keeps (Ext.trans (Ext.drew wr) hx) hc0; exact do_run (by simp only [execOp, h23] <;> simp [go_sem, q0]) rfl
              refine Steps.cons_ (step_mk (Is (.slice (some ad) l.length c)) rfl fun a W hx hE hO => ?_) ?_
              · have h19 : a.eval (.tmp 19) = (.bool true) := hE 9 (by kernel_rfl) 19 rfl
                have h0 : a.eval (.tmp 0) = .slice (some ad) l.length c := hO 0 (by kernel_rfl)
                exact yes_is (j := 9) (d := 19) (b := true) rfl rfl h19 (do_move rfl h0)
              refine Steps.cons_ (step_mk (Is (.int .i64 k)) rfl fun a W hx hE hO => ?_) ?_
              · have h19 : a.eval (.tmp 19) = (.bool true) := hE 9 (by kernel_rfl) 19 rfl
                have h3 : a.eval (.tmp 3) = .int .i64 k := hO 3 (by kernel_rfl)
                exact yes_is (j := 9) (d := 19) (b := true) rfl rfl h19 (do_move rfl h3)
              refine Steps.cons_ (step_mk (Is (.int .i64 j)) rfl fun a W hx hE hO => ?_) ?_
              · have h19 : a.eval (.tmp 19) = (.bool true) := hE 9 (by kernel_rfl) 19 rfl
                have h26 : a.eval (.tmp 26) = (.int .i64 k) := hE 16 (by kernel_rfl) 26 rfl
                refine yes_is (j := 9) (d := 19) (b := true) rfl rfl h19 ?_
                exact do_bin (v := .int .i64 j) rfl h26 rfl (by simp [go_sem, hwr]) rfl
              refine Steps.cons_ (step_mk (Is (.pointer (some (ad.add (j * 2))))) rfl fun a W hx hE hO => ?_) ?_
              · have h19 : a.eval (.tmp 19) = (.bool true) := hE 9 (by kernel_rfl) 19 rfl
                have h25 : a.eval (.tmp 25) = (.slice (some ad) l.length c) := hE 15 (by kernel_rfl) 25 rfl
                have h27 : a.eval (.tmp 27) = (.int .i64 j) := hE 17 (by kernel_rfl) 27 rfl
                refine yes_is (j := 9) (d := 19) (b := true) rfl rfl h19 (do_run (by simp only [execOp, h25, h27] <;> simp [go_sem, hjl]) rfl)
              refine Steps.cons_ (step_mk (Is (.pointer (some (ad.add (j * 2))))) rfl fun a W hx hE hO => ?_) ?_
              · have h19 : a.eval (.tmp 19) = (.bool true) := hE 9 (by kernel_rfl) 19 rfl
                have h28 : a.eval (.tmp 28) = (.pointer (some (ad.add (j * 2)))) := hE 18 (by kernel_rfl) 28 rfl
                refine yes_is (j := 9) (d := 19) (b := true) rfl rfl h19 (do_run (by simp only [execOp, h28] <;> simp [go_sem]) rfl)
              refine Steps.cons_ (step_mk (Is (.int .i64 M)) rfl fun a W hx hE hO => ?_) ?_
              · have h19 : a.eval (.tmp 19) = (.bool true) := hE 9 (by kernel_rfl) 19 rfl
                have h29 : a.eval (.tmp 29) = (.pointer (some (ad.add (j * 2)))) := hE 19 (by kernel_rfl) 29 rfl
                refine yes_is (j := 9) (d := 19) (b := true) rfl rfl h19 ?_
                have q0 := Ext.keeps (Ext.trans (Ext.drew wr) hx) hcj; exact do_run (by simp only [execOp, h29] <;> simp [go_sem, q0]) rfl
              refine Steps.cons_ (step_mk (Is (.bool false)) rfl fun a W hx hE hO => ?_) ?_
              · have h19 : a.eval (.tmp 19) = (.bool true) := hE 9 (by kernel_rfl) 19 rfl
                have h24 : a.eval (.tmp 24) = (.int .i64 d) := hE 14 (by kernel_rfl) 24 rfl
                have h30 : a.eval (.tmp 30) = (.int .i64 M) := hE 20 (by kernel_rfl) 30 rfl
                refine yes_is (j := 9) (d := 19) (b := true) rfl rfl h19 ?_
                exact do_bin (v := .bool false) rfl h24 h30 (by simp [go_sem, hd2]) rfl
              refine Steps.cons_ (step_mk (Is (.bool false)) rfl fun a W hx hE hO => ?_) ?_
              · have h16 : a.eval (.tmp 16) = (.bool false) := hE 6 (by kernel_rfl) 16 rfl
                have h19 : a.eval (.tmp 19) = (.bool true) := hE 9 (by kernel_rfl) 19 rfl
                have h31 : a.eval (.tmp 31) = (.bool false) := hE 21 (by kernel_rfl) 31 rfl
                exact yes_is (j := 6) (d := 16) (b := false) rfl rfl h16 (do_pick rfl h19 h31)
              refine Steps.cons_ (step_mk (Is (.bool false)) rfl fun a W hx hE hO => ?_) ?_
              · have h16 : a.eval (.tmp 16) = (.bool false) := hE 6 (by kernel_rfl) 16 rfl
                have h32 : a.eval (.tmp 32) = (.bool false) := hE 22 (by kernel_rfl) 32 rfl
                exact yes_none rfl (do_pick_no rfl h16 h32)
              exact Steps.nil_
            · intro a W hx hd hsz hE hO
              have h33 : a.eval (.tmp 33) = (.bool false) := hE 23 (of_decide_eq_true (by kernel_rfl)) 33 rfl
              have hmix := act_mix [false, false, false, false, false, false, false, false, false, false, true, true, true, true, true, true, true, true, true, true, true, true, true, true, true, true, true, true, true, true, true, true, true, true] (by kernel_rfl) hsz hd hO
              simp only [mixA, Nat.reduceAdd, Nat.zero_add] at hmix
              rw [hmix]
              rw [h33]
              generalize a.eval (.tmp 10) = u10
              generalize a.eval (.tmp 11) = u11
              generalize a.eval (.tmp 12) = u12
              generalize a.eval (.tmp 13) = u13
              generalize a.eval (.tmp 14) = u14
              generalize a.eval (.tmp 15) = u15
              generalize a.eval (.tmp 16) = u16
              generalize a.eval (.tmp 17) = u17
              generalize a.eval (.tmp 18) = u18
              generalize a.eval (.tmp 19) = u19
              generalize a.eval (.tmp 20) = u20
              generalize a.eval (.tmp 21) = u21
              generalize a.eval (.tmp 22) = u22
              generalize a.eval (.tmp 23) = u23
              generalize a.eval (.tmp 24) = u24
              generalize a.eval (.tmp 25) = u25
              generalize a.eval (.tmp 26) = u26
              generalize a.eval (.tmp 27) = u27
              generalize a.eval (.tmp 28) = u28
              generalize a.eval (.tmp 29) = u29
              generalize a.eval (.tmp 30) = u30
              generalize a.eval (.tmp 31) = u31
              generalize a.eval (.tmp 32) = u32
              clear hmix hd hsz hE hO
              go_wp2
              exact ⟨⟨k + 1, rfl, by omega, by rw [Hpn.out]; exact Hr.out, by rw [Hpn.out]; omega, Ext.trans Hx.out hx⟩, by simp only [intOf]; omega⟩
          · rw [decide_eq_false h2, Bool.false_and] at hr
            have Hr := Lib.hid hr
            have hd2 : decide (d ≤ M) = true := decide_eq_true (by omega)
            clear hr
            go_wp2_with fail
            refine wp_region_list2 [Is (.slice (some ad) l.length c), Is (.int .i64 k), Is (.pointer (some (ad.add (k * 2)))), Is (.agg #[.int .i64 d, .slice Au ps.length cu]), Is (.bool true), Is (.bool false), Is (.bool false), Is (.int .i64 k), Is (.bool true), Is (.bool true), Is (.slice (some ad) l.length c), Is (.int .i64 k), Is (.pointer (some (ad.add (k * 2)))), Is (.pointer (some (ad.add (k * 2)))), Is (.int .i64 d), Is (.slice (some ad) l.length c), Is (.int .i64 k), Is (.int .i64 j), Is (.pointer (some (ad.add (j * 2)))), Is (.pointer (some (ad.add (j * 2)))), Is (.int .i64 M), Is (.bool true), Is (.bool true), Is (.bool true)] (by kernel_rfl) (by kernel_rfl) (by kernel_rfl) ?_ (Steps.all ?_) ?_
            · intro p hp
              simp only [List.mem_cons, List.not_mem_nil, or_false] at hp
              rcases hp with rfl | rfl | rfl | rfl | rfl | rfl | rfl | rfl | rfl | rfl | rfl | rfl | rfl | rfl | rfl | rfl | rfl | rfl | rfl | rfl | rfl | rfl | rfl | rfl
              all_goals first | exact mono_is _
            · refine Steps.cons_ (step_mk (Is (.slice (some ad) l.length c)) rfl fun a W hx hE hO => ?_) ?_
              · have h0 : a.eval (.tmp 0) = .slice (some ad) l.length c := hO 0 (by kernel_rfl)
                exact yes_none rfl (do_move rfl h0)
              refine Steps.cons_ (step_mk (Is (.int .i64 k)) rfl fun a W hx hE hO => ?_) ?_
              · have h3 : a.eval (.tmp 3) = .int .i64 k := hO 3 (by kernel_rfl)
                exact yes_none rfl (do_move rfl h3)
              refine Steps.cons_ (step_mk (Is (.pointer (some (ad.add (k * 2))))) rfl fun a W hx hE hO => ?_) ?_
              · have h10 : a.eval (.tmp 10) = (.slice (some ad) l.length c) := hE 0 (by kernel_rfl) 10 rfl
                have h11 : a.eval (.tmp 11) = (.int .i64 k) := hE 1 (by kernel_rfl) 11 rfl
                refine yes_none rfl (do_run (by simp only [execOp, h10, h11] <;> simp [go_sem, hlt]) rfl)
              refine Steps.cons_ (step_mk (Is (.agg #[.int .i64 d, .slice Au ps.length cu])) rfl fun a W hx hE hO => ?_) ?_
              · have h12 : a.eval (.tmp 12) = (.pointer (some (ad.add (k * 2)))) := hE 2 (by kernel_rfl) 12 rfl
                refine yes_none rfl ?_
                have q0 := Ext.keeps (Ext.trans (Ext.drew wr) hx) hc0; have q1 := Ext.keeps (Ext.trans (Ext.drew wr) hx) hc1; exact do_run (by simp only [execOp, h12] <;> simp [go_sem, q0, q1]) rfl
              refine Steps.cons_ (step_mk (Is (.bool true)) rfl fun a W hx hE hO => ?_) ?_
              · have h13 : a.eval (.tmp 13) = (.agg #[.int .i64 d, .slice Au ps.length cu]) := hE 3 (by kernel_rfl) 13 rfl
                refine yes_none rfl (do_call rfl Try.func51 (by kernel_rfl) (by kernel_rfl) (args := #[(.agg #[.int .i64 d, .slice Au ps.length cu])]) (by simp only [List.map_toArray, List.map_cons, List.map_nil, h13]) ?_)
                exact (one_any W d _ ps h6 (Hu.out.up (Ext.trans (Ext.drew wr) hx))).mono fun e w' ⟨he, hx⟩ => ⟨_, he, hx, by rw [H1.out]; rfl⟩
              refine Steps.cons_ (step_mk (Is (.bool false)) rfl fun a W hx hE hO => ?_) ?_
              · have h14 : a.eval (.tmp 14) = (.bool true) := hE 4 (by kernel_rfl) 14 rfl
                refine yes_none rfl (do_run (by simp only [execOp, h14] <;> simp [go_sem]) rfl)
              refine Steps.cons_ (step_mk (Is (.bool false)) rfl fun a W hx hE hO => ?_) ?_
              · have h15 : a.eval (.tmp 15) = (.bool false) := hE 5 (by kernel_rfl) 15 rfl
                exact yes_none rfl (do_move rfl h15)
              refine Steps.cons_ (step_mk (Is (.int .i64 k)) rfl fun a W hx hE hO => ?_) ?_
              · have h16 : a.eval (.tmp 16) = (.bool false) := hE 6 (by kernel_rfl) 16 rfl
                have h3 : a.eval (.tmp 3) = .int .i64 k := hO 3 (by kernel_rfl)
                exact yes_is (j := 6) (d := 16) (b := false) rfl rfl h16 (do_move rfl h3)
              refine Steps.cons_ (step_mk (Is (.bool true)) rfl fun a W hx hE hO => ?_) ?_
              · have h16 : a.eval (.tmp 16) = (.bool false) := hE 6 (by kernel_rfl) 16 rfl
                have h17 : a.eval (.tmp 17) = (.int .i64 k) := hE 7 (by kernel_rfl) 17 rfl
                refine yes_is (j := 6) (d := 16) (b := false) rfl rfl h16 ?_
                exact do_bin (v := .bool true) rfl h17 rfl (by simp [go_sem, h0p]) rfl
              refine Steps.cons_ (step_mk (Is (.bool true)) rfl fun a W hx hE hO => ?_) ?_
              · have h16 : a.eval (.tmp 16) = (.bool false) := hE 6 (by kernel_rfl) 16 rfl
                have h18 : a.eval (.tmp 18) = (.bool true) := hE 8 (by kernel_rfl) 18 rfl
                exact yes_is (j := 6) (d := 16) (b := false) rfl rfl h16 (do_move rfl h18)
              refine Steps.cons_ (step_mk (Is (.slice (some ad) l.length c)) rfl fun a W hx hE hO => ?_) ?_
              · have h19 : a.eval (.tmp 19) = (.bool true) := hE 9 (by kernel_rfl) 19 rfl
                have h0 : a.eval (.tmp 0) = .slice (some ad) l.length c := hO 0 (by kernel_rfl)
                exact yes_is (j := 9) (d := 19) (b := true) rfl rfl h19 (do_move rfl h0)
              refine Steps.cons_ (step_mk (Is (.int .i64 k)) rfl fun a W hx hE hO => ?_) ?_
              · have h19 : a.eval (.tmp 19) = (.bool true) := hE 9 (by kernel_rfl) 19 rfl
                have h3 : a.eval (.tmp 3) = .int .i64 k := hO 3 (by kernel_rfl)
                exact yes_is (j := 9) (d := 19) (b := true) rfl rfl h19 (do_move rfl h3)
              refine Steps.cons_ (step_mk (Is (.pointer (some (ad.add (k * 2))))) rfl fun a W hx hE hO => ?_) ?_
              · have h19 : a.eval (.tmp 19) = (.bool true) := hE 9 (by kernel_rfl) 19 rfl
                have h20 : a.eval (.tmp 20) = (.slice (some ad) l.length c) := hE 10 (by kernel_rfl) 20 rfl
                have h21 : a.eval (.tmp 21) = (.int .i64 k) := hE 11 (by kernel_rfl) 21 rfl
                refine yes_is (j := 9) (d := 19) (b := true) rfl rfl h19 (do_run (by simp only [execOp, h20, h21] <;> simp [go_sem, hlt]) rfl)
              refine Steps.cons_ (step_mk (Is (.pointer (some (ad.add (k * 2))))) rfl fun a W hx hE hO => ?_) ?_
              · have h19 : a.eval (.tmp 19) = (.bool true) := hE 9 (by kernel_rfl) 19 rfl
                have h22 : a.eval (.tmp 22) = (.pointer (some (ad.add (k * 2)))) := hE 12 (by kernel_rfl) 22 rfl
                refine yes_is (j := 9) (d := 19) (b := true) rfl rfl h19 (do_run (by simp only [execOp, h22] <;> simp [go_sem]) rfl)
              refine Steps.cons_ (step_mk (Is (.int .i64 d)) rfl fun a W hx hE hO => ?_) ?_
              · have h19 : a.eval (.tmp 19) = (.bool true) := hE 9 (by kernel_rfl) 19 rfl
                have h23 : a.eval (.tmp 23) = (.pointer (some (ad.add (k * 2)))) := hE 13 (by kernel_rfl) 23 rfl
                refine yes_is (j := 9) (d := 19) (b := true) rfl rfl h19 ?_
                have q0 := Ext.keeps (Ext.trans (Ext.drew wr) hx) hc0; exact do_run (by simp only [execOp, h23] <;> simp [go_sem, q0]) rfl
              refine Steps.cons_ (step_mk (Is (.slice (some ad) l.length c)) rfl fun a W hx hE hO => ?_) ?_
              · have h19 : a.eval (.tmp 19) = (.bool true) := hE 9 (by kernel_rfl) 19 rfl
                have h0 : a.eval (.tmp 0) = .slice (some ad) l.length c := hO 0 (by kernel_rfl)
                exact yes_is (j := 9) (d := 19) (b := true) rfl rfl h19 (do_move rfl h0)
              refine Steps.cons_ (step_mk (Is (.int .i64 k)) rfl fun a W hx hE hO => ?_) ?_
              · have h19 : a.eval (.tmp 19) = (.bool true) := hE 9 (by kernel_rfl) 19 rfl
                have h3 : a.eval (.tmp 3) = .int .i64 k := hO 3 (by kernel_rfl)
                exact yes_is (j := 9) (d := 19) (b := true) rfl rfl h19 (do_move rfl h3)
              refine Steps.cons_ (step_mk (Is (.int .i64 j)) rfl fun a W hx hE hO => ?_) ?_
              · have h19 : a.eval (.tmp 19) = (.bool true) := hE 9 (by kernel_rfl) 19 rfl
                have h26 : a.eval (.tmp 26) = (.int .i64 k) := hE 16 (by kernel_rfl) 26 rfl
                refine yes_is (j := 9) (d := 19) (b := true) rfl rfl h19 ?_
                exact do_bin (v := .int .i64 j) rfl h26 rfl (by simp [go_sem, hwr]) rfl
              refine Steps.cons_ (step_mk (Is (.pointer (some (ad.add (j * 2))))) rfl fun a W hx hE hO => ?_) ?_
              · have h19 : a.eval (.tmp 19) = (.bool true) := hE 9 (by kernel_rfl) 19 rfl
                have h25 : a.eval (.tmp 25) = (.slice (some ad) l.length c) := hE 15 (by kernel_rfl) 25 rfl
                have h27 : a.eval (.tmp 27) = (.int .i64 j) := hE 17 (by kernel_rfl) 27 rfl
                refine yes_is (j := 9) (d := 19) (b := true) rfl rfl h19 (do_run (by simp only [execOp, h25, h27] <;> simp [go_sem, hjl]) rfl)
              refine Steps.cons_ (step_mk (Is (.pointer (some (ad.add (j * 2))))) rfl fun a W hx hE hO => ?_) ?_
              · have h19 : a.eval (.tmp 19) = (.bool true) := hE 9 (by kernel_rfl) 19 rfl
                have h28 : a.eval (.tmp 28) = (.pointer (some (ad.add (j * 2)))) := hE 18 (by kernel_rfl) 28 rfl
                refine yes_is (j := 9) (d := 19) (b := true) rfl rfl h19 (do_run (by simp only [execOp, h28] <;> simp [go_sem]) rfl)
              refine Steps.cons_ (step_mk (Is (.int .i64 M)) rfl fun a W hx hE hO => ?_) ?_
              · have h19 : a.eval (.tmp 19) = (.bool true) := hE 9 (by kernel_rfl) 19 rfl
                have h29 : a.eval (.tmp 29) = (.pointer (some (ad.add (j * 2)))) := hE 19 (by kernel_rfl) 29 rfl
                refine yes_is (j := 9) (d := 19) (b := true) rfl rfl h19 ?_
                have q0 := Ext.keeps (Ext.trans (Ext.drew wr) hx) hcj; exact do_run (by simp only [execOp, h29] <;> simp [go_sem, q0]) rfl
              refine Steps.cons_ (step_mk (Is (.bool true)) rfl fun a W hx hE hO => ?_) ?_
              · have h19 : a.eval (.tmp 19) = (.bool true) := hE 9 (by kernel_rfl) 19 rfl
                have h24 : a.eval (.tmp 24) = (.int .i64 d) := hE 14 (by kernel_rfl) 24 rfl
                have h30 : a.eval (.tmp 30) = (.int .i64 M) := hE 20 (by kernel_rfl) 30 rfl
                refine yes_is (j := 9) (d := 19) (b := true) rfl rfl h19 ?_
                exact do_bin (v := .bool true) rfl h24 h30 (by simp [go_sem, hd2]) rfl
              refine Steps.cons_ (step_mk (Is (.bool true)) rfl fun a W hx hE hO => ?_) ?_
              · have h16 : a.eval (.tmp 16) = (.bool false) := hE 6 (by kernel_rfl) 16 rfl
                have h19 : a.eval (.tmp 19) = (.bool true) := hE 9 (by kernel_rfl) 19 rfl
                have h31 : a.eval (.tmp 31) = (.bool true) := hE 21 (by kernel_rfl) 31 rfl
                exact yes_is (j := 6) (d := 16) (b := false) rfl rfl h16 (do_pick rfl h19 h31)
              refine Steps.cons_ (step_mk (Is (.bool true)) rfl fun a W hx hE hO => ?_) ?_
              · have h16 : a.eval (.tmp 16) = (.bool false) := hE 6 (by kernel_rfl) 16 rfl
                have h32 : a.eval (.tmp 32) = (.bool true) := hE 22 (by kernel_rfl) 32 rfl
                exact yes_none rfl (do_pick_no rfl h16 h32)
              exact Steps.nil_
            · intro a W hx hd hsz hE hO
              have h33 : a.eval (.tmp 33) = (.bool true) := hE 23 (of_decide_eq_true (by kernel_rfl)) 33 rfl
              have hmix := act_mix [false, false, false, false, false, false, false, false, false, false, true, true, true, true, true, true, true, true, true, true, true, true, true, true, true, true, true, true, true, true, true, true, true, true] (by kernel_rfl) hsz hd hO
              simp only [mixA, Nat.reduceAdd, Nat.zero_add] at hmix
              rw [hmix]
              rw [h33]
              generalize a.eval (.tmp 10) = u10
              generalize a.eval (.tmp 11) = u11
              generalize a.eval (.tmp 12) = u12
              generalize a.eval (.tmp 13) = u13
              generalize a.eval (.tmp 14) = u14
              generalize a.eval (.tmp 15) = u15
              generalize a.eval (.tmp 16) = u16
              generalize a.eval (.tmp 17) = u17
              generalize a.eval (.tmp 18) = u18
              generalize a.eval (.tmp 19) = u19
              generalize a.eval (.tmp 20) = u20
              generalize a.eval (.tmp 21) = u21
              generalize a.eval (.tmp 22) = u22
              generalize a.eval (.tmp 23) = u23
              generalize a.eval (.tmp 24) = u24
              generalize a.eval (.tmp 25) = u25
              generalize a.eval (.tmp 26) = u26
              generalize a.eval (.tmp 27) = u27
              generalize a.eval (.tmp 28) = u28
              generalize a.eval (.tmp 29) = u29
              generalize a.eval (.tmp 30) = u30
              generalize a.eval (.tmp 31) = u31
              generalize a.eval (.tmp 32) = u32
              clear hmix hd hsz hE hO
              go_wp2
              go_ret
              exact ⟨by rw [Hr.out]; rfl, Ext.trans Hx.out hx⟩
      · rw [Bool.not_eq_true] at h1
        rw [h1, Bool.false_and] at hr
        have Hr := Lib.hid hr
        have H1 := Lib.hid h1
        clear hr h1 hl
        go_wp2_with fail
        refine wp_region_list2 [Is (.slice (some ad) l.length c), Is (.int .i64 k), Is (.pointer (some (ad.add (k * 2)))), Is (.agg #[.int .i64 d, .slice Au ps.length cu]), Is (.bool false), Is (.bool true), Is (.bool true), Is undef, Is undef, Is undef, Is undef, Is undef, Is undef, Is undef, Is undef, Is undef, Is undef, Is undef, Is undef, Is undef, Is undef, Is undef, Is undef, Is (.bool true)] (by kernel_rfl) (by kernel_rfl) (by kernel_rfl) ?_ (Steps.all ?_) ?_
        · intro p hp
          simp only [List.mem_cons, List.not_mem_nil, or_false] at hp
          rcases hp with rfl | rfl | rfl | rfl | rfl | rfl | rfl | rfl | rfl | rfl | rfl | rfl | rfl | rfl | rfl | rfl | rfl | rfl | rfl | rfl | rfl | rfl | rfl | rfl
          all_goals first | exact mono_is _
        · refine Steps.cons_ (step_mk (Is (.slice (some ad) l.length c)) rfl fun a W hx hE hO => ?_) ?_
          · have h0 : a.eval (.tmp 0) = .slice (some ad) l.length c := hO 0 (by kernel_rfl)
            exact yes_none rfl (do_move rfl h0)
          refine Steps.cons_ (step_mk (Is (.int .i64 k)) rfl fun a W hx hE hO => ?_) ?_
          · have h3 : a.eval (.tmp 3) = .int .i64 k := hO 3 (by kernel_rfl)
            exact yes_none rfl (do_move rfl h3)
          refine Steps.cons_ (step_mk (Is (.pointer (some (ad.add (k * 2))))) rfl fun a W hx hE hO => ?_) ?_
          · have h10 : a.eval (.tmp 10) = (.slice (some ad) l.length c) := hE 0 (by kernel_rfl) 10 rfl
            have h11 : a.eval (.tmp 11) = (.int .i64 k) := hE 1 (by kernel_rfl) 11 rfl
            refine yes_none rfl (do_run (by simp only [execOp, h10, h11] <;> simp [go_sem, hlt]) rfl)
          refine Steps.cons_ (step_mk (Is (.agg #[.int .i64 d, .slice Au ps.length cu])) rfl fun a W hx hE hO => ?_) ?_
          · have h12 : a.eval (.tmp 12) = (.pointer (some (ad.add (k * 2)))) := hE 2 (by kernel_rfl) 12 rfl
            refine yes_none rfl ?_
            have q0 := Ext.keeps (Ext.trans (Ext.drew wr) hx) hc0; have q1 := Ext.keeps (Ext.trans (Ext.drew wr) hx) hc1; exact do_run (by simp only [execOp, h12] <;> simp [go_sem, q0, q1]) rfl
          refine Steps.cons_ (step_mk (Is (.bool false)) rfl fun a W hx hE hO => ?_) ?_
          · have h13 : a.eval (.tmp 13) = (.agg #[.int .i64 d, .slice Au ps.length cu]) := hE 3 (by kernel_rfl) 13 rfl
            refine yes_none rfl (do_call rfl Try.func51 (by kernel_rfl) (by kernel_rfl) (args := #[(.agg #[.int .i64 d, .slice Au ps.length cu])]) (by simp only [List.map_toArray, List.map_cons, List.map_nil, h13]) ?_)
            exact (one_any W d _ ps h6 (Hu.out.up (Ext.trans (Ext.drew wr) hx))).mono fun e w' ⟨he, hx⟩ => ⟨_, he, hx, by rw [H1.out]; rfl⟩
          refine Steps.cons_ (step_mk (Is (.bool true)) rfl fun a W hx hE hO => ?_) ?_
          · have h14 : a.eval (.tmp 14) = (.bool false) := hE 4 (by kernel_rfl) 14 rfl
            refine yes_none rfl (do_run (by simp only [execOp, h14] <;> simp [go_sem]) rfl)
          refine Steps.cons_ (step_mk (Is (.bool true)) rfl fun a W hx hE hO => ?_) ?_
          · have h15 : a.eval (.tmp 15) = (.bool true) := hE 5 (by kernel_rfl) 15 rfl
            exact yes_none rfl (do_move rfl h15)
          refine Steps.cons_ (step_mk (Is undef) rfl fun a W hx hE hO => ?_) ?_
          · have h16 : a.eval (.tmp 16) = (.bool true) := hE 6 (by kernel_rfl) 16 rfl
            have h3 : a.eval (.tmp 3) = .int .i64 k := hO 3 (by kernel_rfl)
            exact no_is (j := 6) (d := 16) (b := false) rfl rfl h16 rfl
          refine Steps.cons_ (step_mk (Is undef) rfl fun a W hx hE hO => ?_) ?_
          · have h16 : a.eval (.tmp 16) = (.bool true) := hE 6 (by kernel_rfl) 16 rfl
            have h17 : a.eval (.tmp 17) = undef := hE 7 (by kernel_rfl) 17 rfl
            exact no_is (j := 6) (d := 16) (b := false) rfl rfl h16 rfl
          refine Steps.cons_ (step_mk (Is undef) rfl fun a W hx hE hO => ?_) ?_
          · have h16 : a.eval (.tmp 16) = (.bool true) := hE 6 (by kernel_rfl) 16 rfl
            have h18 : a.eval (.tmp 18) = undef := hE 8 (by kernel_rfl) 18 rfl
            exact no_is (j := 6) (d := 16) (b := false) rfl rfl h16 rfl
          refine Steps.cons_ (step_mk (Is undef) rfl fun a W hx hE hO => ?_) ?_
          · have h19 : a.eval (.tmp 19) = undef := hE 9 (by kernel_rfl) 19 rfl
            have h0 : a.eval (.tmp 0) = .slice (some ad) l.length c := hO 0 (by kernel_rfl)
            exact no_undef (j := 9) (d := 19) (b := true) rfl rfl h19 rfl
          refine Steps.cons_ (step_mk (Is undef) rfl fun a W hx hE hO => ?_) ?_
          · have h19 : a.eval (.tmp 19) = undef := hE 9 (by kernel_rfl) 19 rfl
            have h3 : a.eval (.tmp 3) = .int .i64 k := hO 3 (by kernel_rfl)
            exact no_undef (j := 9) (d := 19) (b := true) rfl rfl h19 rfl
          refine Steps.cons_ (step_mk (Is undef) rfl fun a W hx hE hO => ?_) ?_
          · have h19 : a.eval (.tmp 19) = undef := hE 9 (by kernel_rfl) 19 rfl
            have h20 : a.eval (.tmp 20) = undef := hE 10 (by kernel_rfl) 20 rfl
            have h21 : a.eval (.tmp 21) = undef := hE 11 (by kernel_rfl) 21 rfl
            exact no_undef (j := 9) (d := 19) (b := true) rfl rfl h19 rfl
          refine Steps.cons_ (step_mk (Is undef) rfl fun a W hx hE hO => ?_) ?_
          · have h19 : a.eval (.tmp 19) = undef := hE 9 (by kernel_rfl) 19 rfl
            have h22 : a.eval (.tmp 22) = undef := hE 12 (by kernel_rfl) 22 rfl
            exact no_undef (j := 9) (d := 19) (b := true) rfl rfl h19 rfl
          refine Steps.cons_ (step_mk (Is undef) rfl fun a W hx hE hO => ?_) ?_
          · have h19 : a.eval (.tmp 19) = undef := hE 9 (by kernel_rfl) 19 rfl
            have h23 : a.eval (.tmp 23) = undef := hE 13 (by kernel_rfl) 23 rfl
            exact no_undef (j := 9) (d := 19) (b := true) rfl rfl h19 rfl
          refine Steps.cons_ (step_mk (Is undef) rfl fun a W hx hE hO => ?_) ?_
          · have h19 : a.eval (.tmp 19) = undef := hE 9 (by kernel_rfl) 19 rfl
            have h0 : a.eval (.tmp 0) = .slice (some ad) l.length c := hO 0 (by kernel_rfl)
            exact no_undef (j := 9) (d := 19) (b := true) rfl rfl h19 rfl
          refine Steps.cons_ (step_mk (Is undef) rfl fun a W hx hE hO => ?_) ?_
          · have h19 : a.eval (.tmp 19) = undef := hE 9 (by kernel_rfl) 19 rfl
            have h3 : a.eval (.tmp 3) = .int .i64 k := hO 3 (by kernel_rfl)
            exact no_undef (j := 9) (d := 19) (b := true) rfl rfl h19 rfl
          refine Steps.cons_ (step_mk (Is undef) rfl fun a W hx hE hO => ?_) ?_
          · have h19 : a.eval (.tmp 19) = undef := hE 9 (by kernel_rfl) 19 rfl
            have h26 : a.eval (.tmp 26) = undef := hE 16 (by kernel_rfl) 26 rfl
            exact no_undef (j := 9) (d := 19) (b := true) rfl rfl h19 rfl
          refine Steps.cons_ (step_mk (Is undef) rfl fun a W hx hE hO => ?_) ?_
          · have h19 : a.eval (.tmp 19) = undef := hE 9 (by kernel_rfl) 19 rfl
            have h25 : a.eval (.tmp 25) = undef := hE 15 (by kernel_rfl) 25 rfl
            have h27 : a.eval (.tmp 27) = undef := hE 17 (by kernel_rfl) 27 rfl
            exact no_undef (j := 9) (d := 19) (b := true) rfl rfl h19 rfl
          refine Steps.cons_ (step_mk (Is undef) rfl fun a W hx hE hO => ?_) ?_
          · have h19 : a.eval (.tmp 19) = undef := hE 9 (by kernel_rfl) 19 rfl
            have h28 : a.eval (.tmp 28) = undef := hE 18 (by kernel_rfl) 28 rfl
            exact no_undef (j := 9) (d := 19) (b := true) rfl rfl h19 rfl
          refine Steps.cons_ (step_mk (Is undef) rfl fun a W hx hE hO => ?_) ?_
          · have h19 : a.eval (.tmp 19) = undef := hE 9 (by kernel_rfl) 19 rfl
            have h29 : a.eval (.tmp 29) = undef := hE 19 (by kernel_rfl) 29 rfl
            exact no_undef (j := 9) (d := 19) (b := true) rfl rfl h19 rfl
          refine Steps.cons_ (step_mk (Is undef) rfl fun a W hx hE hO => ?_) ?_
          · have h19 : a.eval (.tmp 19) = undef := hE 9 (by kernel_rfl) 19 rfl
            have h24 : a.eval (.tmp 24) = undef := hE 14 (by kernel_rfl) 24 rfl
            have h30 : a.eval (.tmp 30) = undef := hE 20 (by kernel_rfl) 30 rfl
            exact no_undef (j := 9) (d := 19) (b := true) rfl rfl h19 rfl
          refine Steps.cons_ (step_mk (Is undef) rfl fun a W hx hE hO => ?_) ?_
          · have h16 : a.eval (.tmp 16) = (.bool true) := hE 6 (by kernel_rfl) 16 rfl
            have h19 : a.eval (.tmp 19) = undef := hE 9 (by kernel_rfl) 19 rfl
            have h31 : a.eval (.tmp 31) = undef := hE 21 (by kernel_rfl) 31 rfl
            exact no_is (j := 6) (d := 16) (b := false) rfl rfl h16 rfl
          refine Steps.cons_ (step_mk (Is (.bool true)) rfl fun a W hx hE hO => ?_) ?_
          · have h16 : a.eval (.tmp 16) = (.bool true) := hE 6 (by kernel_rfl) 16 rfl
            have h32 : a.eval (.tmp 32) = undef := hE 22 (by kernel_rfl) 32 rfl
            exact yes_none rfl (do_pick rfl h16 rfl)
          exact Steps.nil_
        · intro a W hx hd hsz hE hO
          have h33 : a.eval (.tmp 33) = (.bool true) := hE 23 (of_decide_eq_true (by kernel_rfl)) 33 rfl
          have hmix := act_mix [false, false, false, false, false, false, false, false, false, false, true, true, true, true, true, true, true, true, true, true, true, true, true, true, true, true, true, true, true, true, true, true, true, true] (by kernel_rfl) hsz hd hO
          simp only [mixA, Nat.reduceAdd, Nat.zero_add] at hmix
          rw [hmix]
          rw [h33]
          generalize a.eval (.tmp 10) = u10
          generalize a.eval (.tmp 11) = u11
          generalize a.eval (.tmp 12) = u12
          generalize a.eval (.tmp 13) = u13
          generalize a.eval (.tmp 14) = u14
          generalize a.eval (.tmp 15) = u15
          generalize a.eval (.tmp 16) = u16
          generalize a.eval (.tmp 17) = u17
          generalize a.eval (.tmp 18) = u18
          generalize a.eval (.tmp 19) = u19
          generalize a.eval (.tmp 20) = u20
          generalize a.eval (.tmp 21) = u21
          generalize a.eval (.tmp 22) = u22
          generalize a.eval (.tmp 23) = u23
          generalize a.eval (.tmp 24) = u24
          generalize a.eval (.tmp 25) = u25
          generalize a.eval (.tmp 26) = u26
          generalize a.eval (.tmp 27) = u27
          generalize a.eval (.tmp 28) = u28
          generalize a.eval (.tmp 29) = u29
          generalize a.eval (.tmp 30) = u30
          generalize a.eval (.tmp 31) = u31
          generalize a.eval (.tmp 32) = u32
          clear hmix hd hsz hE hO
          go_wp2
          go_ret
          exact ⟨by rw [Hr.out]; rfl, Ext.trans Hx.out hx⟩
    · have hlt' : ¬(k : Int) < l.length := by omega
      rw [List.drop_of_length_le (by omega)] at hr
      have Hr := Lib.hid hr
      clear hr hx
      go_wp2
      go_ret
      exact ⟨by rw [Hr.out]; rfl, Hx.out⟩

end Go.Proofs.Ytccmhjlniljhcaa
