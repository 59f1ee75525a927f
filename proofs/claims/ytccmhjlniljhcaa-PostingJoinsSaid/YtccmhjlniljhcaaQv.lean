/-
  Contract of the reference's Same.
  Conditions: those of each statement.
-/
import Derived.Test.YtccmhjlniljhcaaEq
import Derived.Test.YtccmhjlniljhcaaQh
namespace Go.Proofs.Ytccmhjlniljhcaa
open Go.RowKit

set_option maxHeartbeats 3200000 in
set_option maxRecDepth 100000 in
theorem rsame_any (w : World) (u v : Value) (l m : List Post) (hu : SL w (Bw w) u l) (hv : SL w (Bw w) v m) :
    Calls Try.prog 15 #[u, v] w fun e w' => e = .returned (.bool (decide (l = m))) ∧ Ext w w' := by
  obtain ⟨A, c, rfl, hc, hm⟩ := hu.form
  obtain ⟨A', c', rfl, hc', hm'⟩ := hv.form
  have hml : (l.length : Int) ≤ 9223372036854775807 := by unfold maxLen at hm; omega
  have Hu := Lib.hid hu
  have Hv := Lib.hid hv
  clear hu hv hm hm'
  go_enter Try.func15, Try.ntmps15
  by_cases hl : l.length = m.length
  · have tl : ((l.length : Int) != (m.length : Int)) = false := by simp [hl]
    have Hl := Lib.hid hl
    clear hl
    go_wp2_with fail
    go_loopw [5] (fun i wr => ∃ k : Nat, i = .int .i64 k ∧ k ≤ l.length ∧ l.take k = m.take k ∧ Ext w wr) (fun i _ => l.length - (intOf i).toNat)
    case atStart => exact ⟨0, rfl, Nat.zero_le _, rfl, Below.refl _ _⟩
    case round =>
      obtain ⟨k, rfl, hk, ht, hx⟩ := hrel
      have Hx := Lib.hid hx
      have Ht := Lib.hid ht
      by_cases hlt : k < l.length
      · have hlt2 : k < m.length := by have := Hl.out; omega
        obtain ⟨ad, u, rfl, _, hc0, hc1, hu, h6⟩ := (Hu.out.up hx).post_at hlt
        obtain ⟨ad2, u2, rfl, _, hd0, hd1, hv, _⟩ := (Hv.out.up hx).post_at hlt2
        have hklt : (k : Int) < l.length := by omega
        have htl := take_next l hlt
        have htm := take_next m hlt2
        have hll : decide (l = m) = true → l[k] = m[k] := fun h => by have := of_decide_eq_true h; subst this; rfl
        generalize l[k] = N at hc0 hc1 hu h6 htl hll
        generalize m[k] = N2 at hd0 hd1 hv htm hll
        obtain ⟨d, ps⟩ := N
        obtain ⟨d2, ps2⟩ := N2
        dsimp only at hc0 hc1 hu h6 hd0 hd1 hv
        obtain ⟨Au, cu, rfl, _, _⟩ := hu.form
        obtain ⟨Av, cv, rfl, _, _⟩ := hv.form
        have HU := Lib.hid hu
        have HV := Lib.hid hv
        have Htl := Lib.hid htl
        have Htm := Lib.hid htm
        have Hll := Lib.hid hll
        clear hu hv hx ht htl htm hll h6
        by_cases hd : d = d2
        · have hne : (d != d2) = false := by simp [hd]
          have Hd := Lib.hid hd
          clear hd
          by_cases hp : ps = ps2
          · have Hp := Lib.hid hp
            have hpd : decide (ps = ps2) = true := decide_eq_true hp
            clear hp
            go_wp2_with fail
            refine wp_region_list2 [Is (.slice (some ad) l.length c), Is (.int .i64 k), Is (.pointer (some (ad.add (k * 2)))), Is (.pointer (some (ad.add (k * 2)))), Is (.int .i64 d), Is (.slice (some ad2) m.length c'), Is (.int .i64 k), Is (.pointer (some (ad2.add (k * 2)))), Is (.pointer (some (ad2.add (k * 2)))), Is (.int .i64 d2), Is (.bool false), Is (.bool false), Is (.slice (some ad) l.length c), Is (.int .i64 k), Is (.pointer (some (ad.add (k * 2)))), Is (.pointer (some ⟨(ad.add (k * 2)).block, (ad.add (k * 2)).off + 1, none⟩)), Is (.slice Au ps.length cu), Is (.slice (some ad2) m.length c'), Is (.int .i64 k), Is (.pointer (some (ad2.add (k * 2)))), Is (.pointer (some ⟨(ad2.add (k * 2)).block, (ad2.add (k * 2)).off + 1, none⟩)), Is (.slice Av ps2.length cv), Is (.bool true), Is (.bool false), Is (.bool false)] (by kernel_rfl) (by kernel_rfl) (by kernel_rfl) ?_ (Steps.all ?_) ?_
            · intro p hp
              simp only [List.mem_cons, List.not_mem_nil, or_false] at hp
              rcases hp with rfl | rfl | rfl | rfl | rfl | rfl | rfl | rfl | rfl | rfl | rfl | rfl | rfl | rfl | rfl | rfl | rfl | rfl | rfl | rfl | rfl | rfl | rfl | rfl | rfl
              all_goals first | exact mono_is _
            · refine Steps.cons_ (step_mk (Is (.slice (some ad) l.length c)) rfl fun a W hx hE hO => ?_) ?_
              · have h0 : a.eval (.tmp 0) = .slice (some ad) l.length c := hO 0 (by kernel_rfl)
                exact yes_none rfl (do_move rfl h0)
              refine Steps.cons_ (step_mk (Is (.int .i64 k)) rfl fun a W hx hE hO => ?_) ?_
              · have h5 : a.eval (.tmp 5) = .int .i64 k := hO 5 (by kernel_rfl)
                exact yes_none rfl (do_move rfl h5)
              refine Steps.cons_ (step_mk (Is (.pointer (some (ad.add (k * 2))))) rfl fun a W hx hE hO => ?_) ?_
              · have h17 : a.eval (.tmp 17) = (.slice (some ad) l.length c) := hE 0 (by kernel_rfl) 17 rfl
                have h18 : a.eval (.tmp 18) = (.int .i64 k) := hE 1 (by kernel_rfl) 18 rfl
                refine yes_none rfl (do_run (by simp only [execOp, h17, h18] <;> simp [go_sem, hlt]) rfl)
              refine Steps.cons_ (step_mk (Is (.pointer (some (ad.add (k * 2))))) rfl fun a W hx hE hO => ?_) ?_
              · have h19 : a.eval (.tmp 19) = (.pointer (some (ad.add (k * 2)))) := hE 2 (by kernel_rfl) 19 rfl
                refine yes_none rfl (do_run (by simp only [execOp, h19] <;> simp [go_sem]) rfl)
              refine Steps.cons_ (step_mk (Is (.int .i64 d)) rfl fun a W hx hE hO => ?_) ?_
              · have h20 : a.eval (.tmp 20) = (.pointer (some (ad.add (k * 2)))) := hE 3 (by kernel_rfl) 20 rfl
                refine yes_none rfl ?_
                have q0 := Ext.keeps (Ext.trans (Ext.drew wr) hx) hc0; exact do_run (by simp only [execOp, h20] <;> simp [go_sem, q0]) rfl
              refine Steps.cons_ (step_mk (Is (.slice (some ad2) m.length c')) rfl fun a W hx hE hO => ?_) ?_
              · have h1 : a.eval (.tmp 1) = .slice (some ad2) m.length c' := hO 1 (by kernel_rfl)
                exact yes_none rfl (do_move rfl h1)
              refine Steps.cons_ (step_mk (Is (.int .i64 k)) rfl fun a W hx hE hO => ?_) ?_
              · have h5 : a.eval (.tmp 5) = .int .i64 k := hO 5 (by kernel_rfl)
                exact yes_none rfl (do_move rfl h5)
              refine Steps.cons_ (step_mk (Is (.pointer (some (ad2.add (k * 2))))) rfl fun a W hx hE hO => ?_) ?_
              · have h22 : a.eval (.tmp 22) = (.slice (some ad2) m.length c') := hE 5 (by kernel_rfl) 22 rfl
                have h23 : a.eval (.tmp 23) = (.int .i64 k) := hE 6 (by kernel_rfl) 23 rfl
                refine yes_none rfl (do_run (by simp only [execOp, h22, h23] <;> simp [go_sem, hlt2]) rfl)
              refine Steps.cons_ (step_mk (Is (.pointer (some (ad2.add (k * 2))))) rfl fun a W hx hE hO => ?_) ?_
              · have h24 : a.eval (.tmp 24) = (.pointer (some (ad2.add (k * 2)))) := hE 7 (by kernel_rfl) 24 rfl
                refine yes_none rfl (do_run (by simp only [execOp, h24] <;> simp [go_sem]) rfl)
              refine Steps.cons_ (step_mk (Is (.int .i64 d2)) rfl fun a W hx hE hO => ?_) ?_
              · have h25 : a.eval (.tmp 25) = (.pointer (some (ad2.add (k * 2)))) := hE 8 (by kernel_rfl) 25 rfl
                refine yes_none rfl ?_
                have q0 := Ext.keeps (Ext.trans (Ext.drew wr) hx) hd0; exact do_run (by simp only [execOp, h25] <;> simp [go_sem, q0]) rfl
              refine Steps.cons_ (step_mk (Is (.bool false)) rfl fun a W hx hE hO => ?_) ?_
              · have h21 : a.eval (.tmp 21) = (.int .i64 d) := hE 4 (by kernel_rfl) 21 rfl
                have h26 : a.eval (.tmp 26) = (.int .i64 d2) := hE 9 (by kernel_rfl) 26 rfl
                refine yes_none rfl ?_
                exact do_bin (v := .bool false) rfl h21 h26 (by simp [go_sem, hne]) rfl
              refine Steps.cons_ (step_mk (Is (.bool false)) rfl fun a W hx hE hO => ?_) ?_
              · have h27 : a.eval (.tmp 27) = (.bool false) := hE 10 (by kernel_rfl) 27 rfl
                exact yes_none rfl (do_move rfl h27)
              refine Steps.cons_ (step_mk (Is (.slice (some ad) l.length c)) rfl fun a W hx hE hO => ?_) ?_
              · have h28 : a.eval (.tmp 28) = (.bool false) := hE 11 (by kernel_rfl) 28 rfl
                have h0 : a.eval (.tmp 0) = .slice (some ad) l.length c := hO 0 (by kernel_rfl)
                exact yes_is (j := 11) (d := 28) (b := false) rfl rfl h28 (do_move rfl h0)
              refine Steps.cons_ (step_mk (Is (.int .i64 k)) rfl fun a W hx hE hO => ?_) ?_
              · have h28 : a.eval (.tmp 28) = (.bool false) := hE 11 (by kernel_rfl) 28 rfl
                have h5 : a.eval (.tmp 5) = .int .i64 k := hO 5 (by kernel_rfl)
                exact yes_is (j := 11) (d := 28) (b := false) rfl rfl h28 (do_move rfl h5)
              refine Steps.cons_ (step_mk (Is (.pointer (some (ad.add (k * 2))))) rfl fun a W hx hE hO => ?_) ?_
              · have h28 : a.eval (.tmp 28) = (.bool false) := hE 11 (by kernel_rfl) 28 rfl
                have h29 : a.eval (.tmp 29) = (.slice (some ad) l.length c) := hE 12 (by kernel_rfl) 29 rfl
                have h30 : a.eval (.tmp 30) = (.int .i64 k) := hE 13 (by kernel_rfl) 30 rfl
                refine yes_is (j := 11) (d := 28) (b := false) rfl rfl h28 (do_run (by simp only [execOp, h29, h30] <;> simp [go_sem, hlt]) rfl)
              refine Steps.cons_ (step_mk (Is (.pointer (some ⟨(ad.add (k * 2)).block, (ad.add (k * 2)).off + 1, none⟩))) rfl fun a W hx hE hO => ?_) ?_
              · have h28 : a.eval (.tmp 28) = (.bool false) := hE 11 (by kernel_rfl) 28 rfl
                have h31 : a.eval (.tmp 31) = (.pointer (some (ad.add (k * 2)))) := hE 14 (by kernel_rfl) 31 rfl
                refine yes_is (j := 11) (d := 28) (b := false) rfl rfl h28 (do_run (by simp only [execOp, h31] <;> simp [go_sem]) rfl)
              refine Steps.cons_ (step_mk (Is (.slice Au ps.length cu)) rfl fun a W hx hE hO => ?_) ?_
              · have h28 : a.eval (.tmp 28) = (.bool false) := hE 11 (by kernel_rfl) 28 rfl
                have h32 : a.eval (.tmp 32) = (.pointer (some ⟨(ad.add (k * 2)).block, (ad.add (k * 2)).off + 1, none⟩)) := hE 15 (by kernel_rfl) 32 rfl
                refine yes_is (j := 11) (d := 28) (b := false) rfl rfl h28 ?_
                have q0 := Ext.keeps (Ext.trans (Ext.drew wr) hx) hc1; exact do_run (by simp only [execOp, h32] <;> simp [go_sem, q0]) rfl
              refine Steps.cons_ (step_mk (Is (.slice (some ad2) m.length c')) rfl fun a W hx hE hO => ?_) ?_
              · have h28 : a.eval (.tmp 28) = (.bool false) := hE 11 (by kernel_rfl) 28 rfl
                have h1 : a.eval (.tmp 1) = .slice (some ad2) m.length c' := hO 1 (by kernel_rfl)
                exact yes_is (j := 11) (d := 28) (b := false) rfl rfl h28 (do_move rfl h1)
              refine Steps.cons_ (step_mk (Is (.int .i64 k)) rfl fun a W hx hE hO => ?_) ?_
              · have h28 : a.eval (.tmp 28) = (.bool false) := hE 11 (by kernel_rfl) 28 rfl
                have h5 : a.eval (.tmp 5) = .int .i64 k := hO 5 (by kernel_rfl)
                exact yes_is (j := 11) (d := 28) (b := false) rfl rfl h28 (do_move rfl h5)
              refine Steps.cons_ (step_mk (Is (.pointer (some (ad2.add (k * 2))))) rfl fun a W hx hE hO => ?_) ?_
              · have h28 : a.eval (.tmp 28) = (.bool false) := hE 11 (by kernel_rfl) 28 rfl
                have h34 : a.eval (.tmp 34) = (.slice (some ad2) m.length c') := hE 17 (by kernel_rfl) 34 rfl
                have h35 : a.eval (.tmp 35) = (.int .i64 k) := hE 18 (by kernel_rfl) 35 rfl
                refine yes_is (j := 11) (d := 28) (b := false) rfl rfl h28 (do_run (by simp only [execOp, h34, h35] <;> simp [go_sem, hlt2]) rfl)
              refine Steps.cons_ (step_mk (Is (.pointer (some ⟨(ad2.add (k * 2)).block, (ad2.add (k * 2)).off + 1, none⟩))) rfl fun a W hx hE hO => ?_) ?_
              · have h28 : a.eval (.tmp 28) = (.bool false) := hE 11 (by kernel_rfl) 28 rfl
                have h36 : a.eval (.tmp 36) = (.pointer (some (ad2.add (k * 2)))) := hE 19 (by kernel_rfl) 36 rfl
                refine yes_is (j := 11) (d := 28) (b := false) rfl rfl h28 (do_run (by simp only [execOp, h36] <;> simp [go_sem]) rfl)
              refine Steps.cons_ (step_mk (Is (.slice Av ps2.length cv)) rfl fun a W hx hE hO => ?_) ?_
              · have h28 : a.eval (.tmp 28) = (.bool false) := hE 11 (by kernel_rfl) 28 rfl
                have h37 : a.eval (.tmp 37) = (.pointer (some ⟨(ad2.add (k * 2)).block, (ad2.add (k * 2)).off + 1, none⟩)) := hE 20 (by kernel_rfl) 37 rfl
                refine yes_is (j := 11) (d := 28) (b := false) rfl rfl h28 ?_
                have q0 := Ext.keeps (Ext.trans (Ext.drew wr) hx) hd1; exact do_run (by simp only [execOp, h37] <;> simp [go_sem, q0]) rfl
              refine Steps.cons_ (step_mk (Is (.bool true)) rfl fun a W hx hE hO => ?_) ?_
              · have h28 : a.eval (.tmp 28) = (.bool false) := hE 11 (by kernel_rfl) 28 rfl
                have h33 : a.eval (.tmp 33) = (.slice Au ps.length cu) := hE 16 (by kernel_rfl) 33 rfl
                have h38 : a.eval (.tmp 38) = (.slice Av ps2.length cv) := hE 21 (by kernel_rfl) 38 rfl
                refine yes_is (j := 11) (d := 28) (b := false) rfl rfl h28 (do_call rfl Try.func20 (by kernel_rfl) (by kernel_rfl) (args := #[(.slice Au ps.length cu), (.slice Av ps2.length cv)]) (by simp only [List.map_toArray, List.map_cons, List.map_nil, h33, h38]) ?_)
                exact (samei_any W _ _ ps ps2 (HU.out.up (Ext.trans (Ext.drew wr) hx)) (HV.out.up (Ext.trans (Ext.drew wr) hx))).mono fun e w' ⟨he, hx⟩ => ⟨_, he, hx, by rw [hpd]; rfl⟩
              refine Steps.cons_ (step_mk (Is (.bool false)) rfl fun a W hx hE hO => ?_) ?_
              · have h28 : a.eval (.tmp 28) = (.bool false) := hE 11 (by kernel_rfl) 28 rfl
                have h39 : a.eval (.tmp 39) = (.bool true) := hE 22 (by kernel_rfl) 39 rfl
                refine yes_is (j := 11) (d := 28) (b := false) rfl rfl h28 (do_run (by simp only [execOp, h39] <;> simp [go_sem]) rfl)
              refine Steps.cons_ (step_mk (Is (.bool false)) rfl fun a W hx hE hO => ?_) ?_
              · have h28 : a.eval (.tmp 28) = (.bool false) := hE 11 (by kernel_rfl) 28 rfl
                have h40 : a.eval (.tmp 40) = (.bool false) := hE 23 (by kernel_rfl) 40 rfl
                exact yes_none rfl (do_pick_no rfl h28 h40)
              exact Steps.nil_
            · intro a W hx hd hsz hE hO
              have h41 : a.eval (.tmp 41) = (.bool false) := hE 24 (of_decide_eq_true (by kernel_rfl)) 41 rfl
              have hmix := act_mix [false, false, false, false, false, false, false, false, false, false, false, false, false, false, false, false, false, true, true, true, true, true, true, true, true, true, true, true, true, true, true, true, true, true, true, true, true, true, true, true, true, true] (by kernel_rfl) hsz hd hO
              simp only [mixA, Nat.reduceAdd, Nat.zero_add] at hmix
              rw [hmix]
              rw [h41]
              generalize a.eval (.tmp 17) = u17
              generalize a.eval (.tmp 18) = u18
              generalize a.eval (.tmp 19) = u19
              generalize a.eval (.tmp 20) = u20
              generalize a.eval (.tmp 21) = u21
              generalize a.eval (.tmp 22) = u22
              generalize a.eval (.tmp 23) = u23
              generalize a.eval (.tmp 24) = u24
              generalize a.eval (.tmp 25) = u25
              generalize a.eval (.tmp 26) = u26
              generalize a.eval (.tmp 27) = u27
              generalize a.eval (.tmp 28) = u28
              generalize a.eval (.tmp 29) = u29
              generalize a.eval (.tmp 30) = u30
              generalize a.eval (.tmp 31) = u31
              generalize a.eval (.tmp 32) = u32
              generalize a.eval (.tmp 33) = u33
              generalize a.eval (.tmp 34) = u34
              generalize a.eval (.tmp 35) = u35
              generalize a.eval (.tmp 36) = u36
              generalize a.eval (.tmp 37) = u37
              generalize a.eval (.tmp 38) = u38
              generalize a.eval (.tmp 39) = u39
              generalize a.eval (.tmp 40) = u40
              clear hmix hd hsz hE hO
              go_wp2
              exact ⟨⟨k + 1, rfl, by omega, by rw [Htl.out, Htm.out, Ht.out, Hd.out, Hp.out], Ext.trans Hx.out hx⟩, by simp only [intOf]; omega⟩
          · have hpd : decide (ps = ps2) = false := decide_eq_false hp
            have hlm : decide (l = m) = false := by
              cases h : decide (l = m) with
              | false => rfl
              | true =>
                have := Hll.out h
                injection this with _ h2
                exact absurd h2 hp
            have Hlm := Lib.hid hlm
            clear hp hlm
            go_wp2_with fail
            refine wp_region_list2 [Is (.slice (some ad) l.length c), Is (.int .i64 k), Is (.pointer (some (ad.add (k * 2)))), Is (.pointer (some (ad.add (k * 2)))), Is (.int .i64 d), Is (.slice (some ad2) m.length c'), Is (.int .i64 k), Is (.pointer (some (ad2.add (k * 2)))), Is (.pointer (some (ad2.add (k * 2)))), Is (.int .i64 d2), Is (.bool false), Is (.bool false), Is (.slice (some ad) l.length c), Is (.int .i64 k), Is (.pointer (some (ad.add (k * 2)))), Is (.pointer (some ⟨(ad.add (k * 2)).block, (ad.add (k * 2)).off + 1, none⟩)), Is (.slice Au ps.length cu), Is (.slice (some ad2) m.length c'), Is (.int .i64 k), Is (.pointer (some (ad2.add (k * 2)))), Is (.pointer (some ⟨(ad2.add (k * 2)).block, (ad2.add (k * 2)).off + 1, none⟩)), Is (.slice Av ps2.length cv), Is (.bool false), Is (.bool true), Is (.bool true)] (by kernel_rfl) (by kernel_rfl) (by kernel_rfl) ?_ (Steps.all ?_) ?_
            · intro p hp
              simp only [List.mem_cons, List.not_mem_nil, or_false] at hp
              rcases hp with rfl | rfl | rfl | rfl | rfl | rfl | rfl | rfl | rfl | rfl | rfl | rfl | rfl | rfl | rfl | rfl | rfl | rfl | rfl | rfl | rfl | rfl | rfl | rfl | rfl
              all_goals first | exact mono_is _
            · refine Steps.cons_ (step_mk (Is (.slice (some ad) l.length c)) rfl fun a W hx hE hO => ?_) ?_
              · have h0 : a.eval (.tmp 0) = .slice (some ad) l.length c := hO 0 (by kernel_rfl)
                exact yes_none rfl (do_move rfl h0)
              refine Steps.cons_ (step_mk (Is (.int .i64 k)) rfl fun a W hx hE hO => ?_) ?_
              · have h5 : a.eval (.tmp 5) = .int .i64 k := hO 5 (by kernel_rfl)
                exact yes_none rfl (do_move rfl h5)
              refine Steps.cons_ (step_mk (Is (.pointer (some (ad.add (k * 2))))) rfl fun a W hx hE hO => ?_) ?_
              · have h17 : a.eval (.tmp 17) = (.slice (some ad) l.length c) := hE 0 (by kernel_rfl) 17 rfl
                have h18 : a.eval (.tmp 18) = (.int .i64 k) := hE 1 (by kernel_rfl) 18 rfl
                refine yes_none rfl (do_run (by simp only [execOp, h17, h18] <;> simp [go_sem, hlt]) rfl)
              refine Steps.cons_ (step_mk (Is (.pointer (some (ad.add (k * 2))))) rfl fun a W hx hE hO => ?_) ?_
              · have h19 : a.eval (.tmp 19) = (.pointer (some (ad.add (k * 2)))) := hE 2 (by kernel_rfl) 19 rfl
                refine yes_none rfl (do_run (by simp only [execOp, h19] <;> simp [go_sem]) rfl)
              refine Steps.cons_ (step_mk (Is (.int .i64 d)) rfl fun a W hx hE hO => ?_) ?_
              · have h20 : a.eval (.tmp 20) = (.pointer (some (ad.add (k * 2)))) := hE 3 (by kernel_rfl) 20 rfl
                refine yes_none rfl ?_
                have q0 := Ext.keeps (Ext.trans (Ext.drew wr) hx) hc0; exact do_run (by simp only [execOp, h20] <;> simp [go_sem, q0]) rfl
              refine Steps.cons_ (step_mk (Is (.slice (some ad2) m.length c')) rfl fun a W hx hE hO => ?_) ?_
              · have h1 : a.eval (.tmp 1) = .slice (some ad2) m.length c' := hO 1 (by kernel_rfl)
                exact yes_none rfl (do_move rfl h1)
              refine Steps.cons_ (step_mk (Is (.int .i64 k)) rfl fun a W hx hE hO => ?_) ?_
              · have h5 : a.eval (.tmp 5) = .int .i64 k := hO 5 (by kernel_rfl)
                exact yes_none rfl (do_move rfl h5)
              refine Steps.cons_ (step_mk (Is (.pointer (some (ad2.add (k * 2))))) rfl fun a W hx hE hO => ?_) ?_
              · have h22 : a.eval (.tmp 22) = (.slice (some ad2) m.length c') := hE 5 (by kernel_rfl) 22 rfl
                have h23 : a.eval (.tmp 23) = (.int .i64 k) := hE 6 (by kernel_rfl) 23 rfl
                refine yes_none rfl (do_run (by simp only [execOp, h22, h23] <;> simp [go_sem, hlt2]) rfl)
              refine Steps.cons_ (step_mk (Is (.pointer (some (ad2.add (k * 2))))) rfl fun a W hx hE hO => ?_) ?_
              · have h24 : a.eval (.tmp 24) = (.pointer (some (ad2.add (k * 2)))) := hE 7 (by kernel_rfl) 24 rfl
                refine yes_none rfl (do_run (by simp only [execOp, h24] <;> simp [go_sem]) rfl)
              refine Steps.cons_ (step_mk (Is (.int .i64 d2)) rfl fun a W hx hE hO => ?_) ?_
              · have h25 : a.eval (.tmp 25) = (.pointer (some (ad2.add (k * 2)))) := hE 8 (by kernel_rfl) 25 rfl
                refine yes_none rfl ?_
                have q0 := Ext.keeps (Ext.trans (Ext.drew wr) hx) hd0; exact do_run (by simp only [execOp, h25] <;> simp [go_sem, q0]) rfl
              refine Steps.cons_ (step_mk (Is (.bool false)) rfl fun a W hx hE hO => ?_) ?_
              · have h21 : a.eval (.tmp 21) = (.int .i64 d) := hE 4 (by kernel_rfl) 21 rfl
                have h26 : a.eval (.tmp 26) = (.int .i64 d2) := hE 9 (by kernel_rfl) 26 rfl
                refine yes_none rfl ?_
                exact do_bin (v := .bool false) rfl h21 h26 (by simp [go_sem, hne]) rfl
              refine Steps.cons_ (step_mk (Is (.bool false)) rfl fun a W hx hE hO => ?_) ?_
              · have h27 : a.eval (.tmp 27) = (.bool false) := hE 10 (by kernel_rfl) 27 rfl
                exact yes_none rfl (do_move rfl h27)
              refine Steps.cons_ (step_mk (Is (.slice (some ad) l.length c)) rfl fun a W hx hE hO => ?_) ?_
              · have h28 : a.eval (.tmp 28) = (.bool false) := hE 11 (by kernel_rfl) 28 rfl
                have h0 : a.eval (.tmp 0) = .slice (some ad) l.length c := hO 0 (by kernel_rfl)
                exact yes_is (j := 11) (d := 28) (b := false) rfl rfl h28 (do_move rfl h0)
              refine Steps.cons_ (step_mk (Is (.int .i64 k)) rfl fun a W hx hE hO => ?_) ?_
              · have h28 : a.eval (.tmp 28) = (.bool false) := hE 11 (by kernel_rfl) 28 rfl
                have h5 : a.eval (.tmp 5) = .int .i64 k := hO 5 (by kernel_rfl)
                exact yes_is (j := 11) (d := 28) (b := false) rfl rfl h28 (do_move rfl h5)
              refine Steps.cons_ (step_mk (Is (.pointer (some (ad.add (k * 2))))) rfl fun a W hx hE hO => ?_) ?_
              · have h28 : a.eval (.tmp 28) = (.bool false) := hE 11 (by kernel_rfl) 28 rfl
                have h29 : a.eval (.tmp 29) = (.slice (some ad) l.length c) := hE 12 (by kernel_rfl) 29 rfl
                have h30 : a.eval (.tmp 30) = (.int .i64 k) := hE 13 (by kernel_rfl) 30 rfl
                refine yes_is (j := 11) (d := 28) (b := false) rfl rfl h28 (do_run (by simp only [execOp, h29, h30] <;> simp [go_sem, hlt]) rfl)
              refine Steps.cons_ (step_mk (Is (.pointer (some ⟨(ad.add (k * 2)).block, (ad.add (k * 2)).off + 1, none⟩))) rfl fun a W hx hE hO => ?_) ?_
              · have h28 : a.eval (.tmp 28) = (.bool false) := hE 11 (by kernel_rfl) 28 rfl
                have h31 : a.eval (.tmp 31) = (.pointer (some (ad.add (k * 2)))) := hE 14 (by kernel_rfl) 31 rfl
                refine yes_is (j := 11) (d := 28) (b := false) rfl rfl h28 (do_run (by simp only [execOp, h31] <;> simp [go_sem]) rfl)
              refine Steps.cons_ (step_mk (Is (.slice Au ps.length cu)) rfl fun a W hx hE hO => ?_) ?_
              · have h28 : a.eval (.tmp 28) = (.bool false) := hE 11 (by kernel_rfl) 28 rfl
                have h32 : a.eval (.tmp 32) = (.pointer (some ⟨(ad.add (k * 2)).block, (ad.add (k * 2)).off + 1, none⟩)) := hE 15 (by kernel_rfl) 32 rfl
                refine yes_is (j := 11) (d := 28) (b := false) rfl rfl h28 ?_
                have q0 := Ext.keeps (Ext.trans (Ext.drew wr) hx) hc1; exact do_run (by simp only [execOp, h32] <;> simp [go_sem, q0]) rfl
              refine Steps.cons_ (step_mk (Is (.slice (some ad2) m.length c')) rfl fun a W hx hE hO => ?_) ?_
              · have h28 : a.eval (.tmp 28) = (.bool false) := hE 11 (by kernel_rfl) 28 rfl
                have h1 : a.eval (.tmp 1) = .slice (some ad2) m.length c' := hO 1 (by kernel_rfl)
                exact yes_is (j := 11) (d := 28) (b := false) rfl rfl h28 (do_move rfl h1)
              refine Steps.cons_ (step_mk (Is (.int .i64 k)) rfl fun a W hx hE hO => ?_) ?_
              · have h28 : a.eval (.tmp 28) = (.bool false) := hE 11 (by kernel_rfl) 28 rfl
                have h5 : a.eval (.tmp 5) = .int .i64 k := hO 5 (by kernel_rfl)
                exact yes_is (j := 11) (d := 28) (b := false) rfl rfl h28 (do_move rfl h5)
              refine Steps.cons_ (step_mk (Is (.pointer (some (ad2.add (k * 2))))) rfl fun a W hx hE hO => ?_) ?_
              · have h28 : a.eval (.tmp 28) = (.bool false) := hE 11 (by kernel_rfl) 28 rfl
                have h34 : a.eval (.tmp 34) = (.slice (some ad2) m.length c') := hE 17 (by kernel_rfl) 34 rfl
                have h35 : a.eval (.tmp 35) = (.int .i64 k) := hE 18 (by kernel_rfl) 35 rfl
                refine yes_is (j := 11) (d := 28) (b := false) rfl rfl h28 (do_run (by simp only [execOp, h34, h35] <;> simp [go_sem, hlt2]) rfl)
              refine Steps.cons_ (step_mk (Is (.pointer (some ⟨(ad2.add (k * 2)).block, (ad2.add (k * 2)).off + 1, none⟩))) rfl fun a W hx hE hO => ?_) ?_
              · have h28 : a.eval (.tmp 28) = (.bool false) := hE 11 (by kernel_rfl) 28 rfl
                have h36 : a.eval (.tmp 36) = (.pointer (some (ad2.add (k * 2)))) := hE 19 (by kernel_rfl) 36 rfl
                refine yes_is (j := 11) (d := 28) (b := false) rfl rfl h28 (do_run (by simp only [execOp, h36] <;> simp [go_sem]) rfl)
              refine Steps.cons_ (step_mk (Is (.slice Av ps2.length cv)) rfl fun a W hx hE hO => ?_) ?_
              · have h28 : a.eval (.tmp 28) = (.bool false) := hE 11 (by kernel_rfl) 28 rfl
                have h37 : a.eval (.tmp 37) = (.pointer (some ⟨(ad2.add (k * 2)).block, (ad2.add (k * 2)).off + 1, none⟩)) := hE 20 (by kernel_rfl) 37 rfl
                refine yes_is (j := 11) (d := 28) (b := false) rfl rfl h28 ?_
                have q0 := Ext.keeps (Ext.trans (Ext.drew wr) hx) hd1; exact do_run (by simp only [execOp, h37] <;> simp [go_sem, q0]) rfl
              refine Steps.cons_ (step_mk (Is (.bool false)) rfl fun a W hx hE hO => ?_) ?_
              · have h28 : a.eval (.tmp 28) = (.bool false) := hE 11 (by kernel_rfl) 28 rfl
                have h33 : a.eval (.tmp 33) = (.slice Au ps.length cu) := hE 16 (by kernel_rfl) 33 rfl
                have h38 : a.eval (.tmp 38) = (.slice Av ps2.length cv) := hE 21 (by kernel_rfl) 38 rfl
                refine yes_is (j := 11) (d := 28) (b := false) rfl rfl h28 (do_call rfl Try.func20 (by kernel_rfl) (by kernel_rfl) (args := #[(.slice Au ps.length cu), (.slice Av ps2.length cv)]) (by simp only [List.map_toArray, List.map_cons, List.map_nil, h33, h38]) ?_)
                exact (samei_any W _ _ ps ps2 (HU.out.up (Ext.trans (Ext.drew wr) hx)) (HV.out.up (Ext.trans (Ext.drew wr) hx))).mono fun e w' ⟨he, hx⟩ => ⟨_, he, hx, by rw [hpd]; rfl⟩
              refine Steps.cons_ (step_mk (Is (.bool true)) rfl fun a W hx hE hO => ?_) ?_
              · have h28 : a.eval (.tmp 28) = (.bool false) := hE 11 (by kernel_rfl) 28 rfl
                have h39 : a.eval (.tmp 39) = (.bool false) := hE 22 (by kernel_rfl) 39 rfl
                refine yes_is (j := 11) (d := 28) (b := false) rfl rfl h28 (do_run (by simp only [execOp, h39] <;> simp [go_sem]) rfl)
              refine Steps.cons_ (step_mk (Is (.bool true)) rfl fun a W hx hE hO => ?_) ?_
              · have h28 : a.eval (.tmp 28) = (.bool false) := hE 11 (by kernel_rfl) 28 rfl
                have h40 : a.eval (.tmp 40) = (.bool true) := hE 23 (by kernel_rfl) 40 rfl
                exact yes_none rfl (do_pick_no rfl h28 h40)
              exact Steps.nil_
            · intro a W hx hd hsz hE hO
              have h41 : a.eval (.tmp 41) = (.bool true) := hE 24 (of_decide_eq_true (by kernel_rfl)) 41 rfl
              have hmix := act_mix [false, false, false, false, false, false, false, false, false, false, false, false, false, false, false, false, false, true, true, true, true, true, true, true, true, true, true, true, true, true, true, true, true, true, true, true, true, true, true, true, true, true] (by kernel_rfl) hsz hd hO
              simp only [mixA, Nat.reduceAdd, Nat.zero_add] at hmix
              rw [hmix]
              rw [h41]
              generalize a.eval (.tmp 17) = u17
              generalize a.eval (.tmp 18) = u18
              generalize a.eval (.tmp 19) = u19
              generalize a.eval (.tmp 20) = u20
              generalize a.eval (.tmp 21) = u21
              generalize a.eval (.tmp 22) = u22
              generalize a.eval (.tmp 23) = u23
              generalize a.eval (.tmp 24) = u24
              generalize a.eval (.tmp 25) = u25
              generalize a.eval (.tmp 26) = u26
              generalize a.eval (.tmp 27) = u27
              generalize a.eval (.tmp 28) = u28
              generalize a.eval (.tmp 29) = u29
              generalize a.eval (.tmp 30) = u30
              generalize a.eval (.tmp 31) = u31
              generalize a.eval (.tmp 32) = u32
              generalize a.eval (.tmp 33) = u33
              generalize a.eval (.tmp 34) = u34
              generalize a.eval (.tmp 35) = u35
              generalize a.eval (.tmp 36) = u36
              generalize a.eval (.tmp 37) = u37
              generalize a.eval (.tmp 38) = u38
              generalize a.eval (.tmp 39) = u39
              generalize a.eval (.tmp 40) = u40
              clear hmix hd hsz hE hO
              go_wp2
              go_ret
              exact ⟨by rw [Hlm.out]; rfl, Ext.trans Hx.out hx⟩
        · have hne : (d != d2) = true := by simp [hd]
          have hlm : decide (l = m) = false := by
            cases h : decide (l = m) with
            | false => rfl
            | true =>
              have := Hll.out h
              injection this with h2 _
              exact absurd h2 hd
          have Hlm := Lib.hid hlm
          clear hd hlm
          go_wp2_with fail
          refine wp_region_list2 [Is (.slice (some ad) l.length c), Is (.int .i64 k), Is (.pointer (some (ad.add (k * 2)))), Is (.pointer (some (ad.add (k * 2)))), Is (.int .i64 d), Is (.slice (some ad2) m.length c'), Is (.int .i64 k), Is (.pointer (some (ad2.add (k * 2)))), Is (.pointer (some (ad2.add (k * 2)))), Is (.int .i64 d2), Is (.bool true), Is (.bool true), Is undef, Is undef, Is undef, Is undef, Is undef, Is undef, Is undef, Is undef, Is undef, Is undef, Is undef, Is undef, Is (.bool true)] (by kernel_rfl) (by kernel_rfl) (by kernel_rfl) ?_ (Steps.all ?_) ?_
          · intro p hp
            simp only [List.mem_cons, List.not_mem_nil, or_false] at hp
            rcases hp with rfl | rfl | rfl | rfl | rfl | rfl | rfl | rfl | rfl | rfl | rfl | rfl | rfl | rfl | rfl | rfl | rfl | rfl | rfl | rfl | rfl | rfl | rfl | rfl | rfl
            all_goals first | exact mono_is _
          · refine Steps.cons_ (step_mk (Is (.slice (some ad) l.length c)) rfl fun a W hx hE hO => ?_) ?_
            · have h0 : a.eval (.tmp 0) = .slice (some ad) l.length c := hO 0 (by kernel_rfl)
              exact yes_none rfl (do_move rfl h0)
            refine Steps.cons_ (step_mk (Is (.int .i64 k)) rfl fun a W hx hE hO => ?_) ?_
            · have h5 : a.eval (.tmp 5) = .int .i64 k := hO 5 (by kernel_rfl)
              exact yes_none rfl (do_move rfl h5)
            refine Steps.cons_ (step_mk (Is (.pointer (some (ad.add (k * 2))))) rfl fun a W hx hE hO => ?_) ?_
            · have h17 : a.eval (.tmp 17) = (.slice (some ad) l.length c) := hE 0 (by kernel_rfl) 17 rfl
              have h18 : a.eval (.tmp 18) = (.int .i64 k) := hE 1 (by kernel_rfl) 18 rfl
              refine yes_none rfl (do_run (by simp only [execOp, h17, h18] <;> simp [go_sem, hlt]) rfl)
            refine Steps.cons_ (step_mk (Is (.pointer (some (ad.add (k * 2))))) rfl fun a W hx hE hO => ?_) ?_
            · have h19 : a.eval (.tmp 19) = (.pointer (some (ad.add (k * 2)))) := hE 2 (by kernel_rfl) 19 rfl
              refine yes_none rfl (do_run (by simp only [execOp, h19] <;> simp [go_sem]) rfl)
            refine Steps.cons_ (step_mk (Is (.int .i64 d)) rfl fun a W hx hE hO => ?_) ?_
            · have h20 : a.eval (.tmp 20) = (.pointer (some (ad.add (k * 2)))) := hE 3 (by kernel_rfl) 20 rfl
              refine yes_none rfl ?_
              have q0 := Ext.keeps (Ext.trans (Ext.drew wr) hx) hc0; exact do_run (by simp only [execOp, h20] <;> simp [go_sem, q0]) rfl
            refine Steps.cons_ (step_mk (Is (.slice (some ad2) m.length c')) rfl fun a W hx hE hO => ?_) ?_
            · have h1 : a.eval (.tmp 1) = .slice (some ad2) m.length c' := hO 1 (by kernel_rfl)
              exact yes_none rfl (do_move rfl h1)
            refine Steps.cons_ (step_mk (Is (.int .i64 k)) rfl fun a W hx hE hO => ?_) ?_
            · have h5 : a.eval (.tmp 5) = .int .i64 k := hO 5 (by kernel_rfl)
              exact yes_none rfl (do_move rfl h5)
            refine Steps.cons_ (step_mk (Is (.pointer (some (ad2.add (k * 2))))) rfl fun a W hx hE hO => ?_) ?_
            · have h22 : a.eval (.tmp 22) = (.slice (some ad2) m.length c') := hE 5 (by kernel_rfl) 22 rfl
              have h23 : a.eval (.tmp 23) = (.int .i64 k) := hE 6 (by kernel_rfl) 23 rfl
              refine yes_none rfl (do_run (by simp only [execOp, h22, h23] <;> simp [go_sem, hlt2]) rfl)
            refine Steps.cons_ (step_mk (Is (.pointer (some (ad2.add (k * 2))))) rfl fun a W hx hE hO => ?_) ?_
            · have h24 : a.eval (.tmp 24) = (.pointer (some (ad2.add (k * 2)))) := hE 7 (by kernel_rfl) 24 rfl
              refine yes_none rfl (do_run (by simp only [execOp, h24] <;> simp [go_sem]) rfl)
            refine Steps.cons_ (step_mk (Is (.int .i64 d2)) rfl fun a W hx hE hO => ?_) ?_
            · have h25 : a.eval (.tmp 25) = (.pointer (some (ad2.add (k * 2)))) := hE 8 (by kernel_rfl) 25 rfl
              refine yes_none rfl ?_
              have q0 := Ext.keeps (Ext.trans (Ext.drew wr) hx) hd0; exact do_run (by simp only [execOp, h25] <;> simp [go_sem, q0]) rfl
            refine Steps.cons_ (step_mk (Is (.bool true)) rfl fun a W hx hE hO => ?_) ?_
            · have h21 : a.eval (.tmp 21) = (.int .i64 d) := hE 4 (by kernel_rfl) 21 rfl
              have h26 : a.eval (.tmp 26) = (.int .i64 d2) := hE 9 (by kernel_rfl) 26 rfl
              refine yes_none rfl ?_
              exact do_bin (v := .bool true) rfl h21 h26 (by simp [go_sem, hne]) rfl
            refine Steps.cons_ (step_mk (Is (.bool true)) rfl fun a W hx hE hO => ?_) ?_
            · have h27 : a.eval (.tmp 27) = (.bool true) := hE 10 (by kernel_rfl) 27 rfl
              exact yes_none rfl (do_move rfl h27)
            refine Steps.cons_ (step_mk (Is undef) rfl fun a W hx hE hO => ?_) ?_
            · have h28 : a.eval (.tmp 28) = (.bool true) := hE 11 (by kernel_rfl) 28 rfl
              have h0 : a.eval (.tmp 0) = .slice (some ad) l.length c := hO 0 (by kernel_rfl)
              exact no_is (j := 11) (d := 28) (b := false) rfl rfl h28 rfl
            refine Steps.cons_ (step_mk (Is undef) rfl fun a W hx hE hO => ?_) ?_
            · have h28 : a.eval (.tmp 28) = (.bool true) := hE 11 (by kernel_rfl) 28 rfl
              have h5 : a.eval (.tmp 5) = .int .i64 k := hO 5 (by kernel_rfl)
              exact no_is (j := 11) (d := 28) (b := false) rfl rfl h28 rfl
            refine Steps.cons_ (step_mk (Is undef) rfl fun a W hx hE hO => ?_) ?_
            · have h28 : a.eval (.tmp 28) = (.bool true) := hE 11 (by kernel_rfl) 28 rfl
              have h29 : a.eval (.tmp 29) = undef := hE 12 (by kernel_rfl) 29 rfl
              have h30 : a.eval (.tmp 30) = undef := hE 13 (by kernel_rfl) 30 rfl
              exact no_is (j := 11) (d := 28) (b := false) rfl rfl h28 rfl
            refine Steps.cons_ (step_mk (Is undef) rfl fun a W hx hE hO => ?_) ?_
            · have h28 : a.eval (.tmp 28) = (.bool true) := hE 11 (by kernel_rfl) 28 rfl
              have h31 : a.eval (.tmp 31) = undef := hE 14 (by kernel_rfl) 31 rfl
              exact no_is (j := 11) (d := 28) (b := false) rfl rfl h28 rfl
            refine Steps.cons_ (step_mk (Is undef) rfl fun a W hx hE hO => ?_) ?_
            · have h28 : a.eval (.tmp 28) = (.bool true) := hE 11 (by kernel_rfl) 28 rfl
              have h32 : a.eval (.tmp 32) = undef := hE 15 (by kernel_rfl) 32 rfl
              exact no_is (j := 11) (d := 28) (b := false) rfl rfl h28 rfl
            refine Steps.cons_ (step_mk (Is undef) rfl fun a W hx hE hO => ?_) ?_
            · have h28 : a.eval (.tmp 28) = (.bool true) := hE 11 (by kernel_rfl) 28 rfl
              have h1 : a.eval (.tmp 1) = .slice (some ad2) m.length c' := hO 1 (by kernel_rfl)
              exact no_is (j := 11) (d := 28) (b := false) rfl rfl h28 rfl
            refine Steps.cons_ (step_mk (Is undef) rfl fun a W hx hE hO => ?_) ?_
            · have h28 : a.eval (.tmp 28) = (.bool true) := hE 11 (by kernel_rfl) 28 rfl
              have h5 : a.eval (.tmp 5) = .int .i64 k := hO 5 (by kernel_rfl)
              exact no_is (j := 11) (d := 28) (b := false) rfl rfl h28 rfl
            refine Steps.cons_ (step_mk (Is undef) rfl fun a W hx hE hO => ?_) ?_
            · have h28 : a.eval (.tmp 28) = (.bool true) := hE 11 (by kernel_rfl) 28 rfl
              have h34 : a.eval (.tmp 34) = undef := hE 17 (by kernel_rfl) 34 rfl
              have h35 : a.eval (.tmp 35) = undef := hE 18 (by kernel_rfl) 35 rfl
              exact no_is (j := 11) (d := 28) (b := false) rfl rfl h28 rfl
            refine Steps.cons_ (step_mk (Is undef) rfl fun a W hx hE hO => ?_) ?_
            · have h28 : a.eval (.tmp 28) = (.bool true) := hE 11 (by kernel_rfl) 28 rfl
              have h36 : a.eval (.tmp 36) = undef := hE 19 (by kernel_rfl) 36 rfl
              exact no_is (j := 11) (d := 28) (b := false) rfl rfl h28 rfl
            refine Steps.cons_ (step_mk (Is undef) rfl fun a W hx hE hO => ?_) ?_
            · have h28 : a.eval (.tmp 28) = (.bool true) := hE 11 (by kernel_rfl) 28 rfl
              have h37 : a.eval (.tmp 37) = undef := hE 20 (by kernel_rfl) 37 rfl
              exact no_is (j := 11) (d := 28) (b := false) rfl rfl h28 rfl
            refine Steps.cons_ (step_mk (Is undef) rfl fun a W hx hE hO => ?_) ?_
            · have h28 : a.eval (.tmp 28) = (.bool true) := hE 11 (by kernel_rfl) 28 rfl
              have h33 : a.eval (.tmp 33) = undef := hE 16 (by kernel_rfl) 33 rfl
              have h38 : a.eval (.tmp 38) = undef := hE 21 (by kernel_rfl) 38 rfl
              exact no_is (j := 11) (d := 28) (b := false) rfl rfl h28 rfl
            refine Steps.cons_ (step_mk (Is undef) rfl fun a W hx hE hO => ?_) ?_
            · have h28 : a.eval (.tmp 28) = (.bool true) := hE 11 (by kernel_rfl) 28 rfl
              have h39 : a.eval (.tmp 39) = undef := hE 22 (by kernel_rfl) 39 rfl
              exact no_is (j := 11) (d := 28) (b := false) rfl rfl h28 rfl
            refine Steps.cons_ (step_mk (Is (.bool true)) rfl fun a W hx hE hO => ?_) ?_
            · have h28 : a.eval (.tmp 28) = (.bool true) := hE 11 (by kernel_rfl) 28 rfl
              have h40 : a.eval (.tmp 40) = undef := hE 23 (by kernel_rfl) 40 rfl
              exact yes_none rfl (do_pick rfl h28 rfl)
            exact Steps.nil_
          · intro a W hx hd hsz hE hO
            have h41 : a.eval (.tmp 41) = (.bool true) := hE 24 (of_decide_eq_true (by kernel_rfl)) 41 rfl
            have hmix := act_mix [false, false, false, false, false, false, false, false, false, false, false, false, false, false, false, false, false, true, true, true, true, true, true, true, true, true, true, true, true, true, true, true, true, true, true, true, true, true, true, true, true, true] (by kernel_rfl) hsz hd hO
            simp only [mixA, Nat.reduceAdd, Nat.zero_add] at hmix
            rw [hmix]
            rw [h41]
            generalize a.eval (.tmp 17) = u17
            generalize a.eval (.tmp 18) = u18
            generalize a.eval (.tmp 19) = u19
            generalize a.eval (.tmp 20) = u20
            generalize a.eval (.tmp 21) = u21
            generalize a.eval (.tmp 22) = u22
            generalize a.eval (.tmp 23) = u23
            generalize a.eval (.tmp 24) = u24
            generalize a.eval (.tmp 25) = u25
            generalize a.eval (.tmp 26) = u26
            generalize a.eval (.tmp 27) = u27
            generalize a.eval (.tmp 28) = u28
            generalize a.eval (.tmp 29) = u29
            generalize a.eval (.tmp 30) = u30
            generalize a.eval (.tmp 31) = u31
            generalize a.eval (.tmp 32) = u32
            generalize a.eval (.tmp 33) = u33
            generalize a.eval (.tmp 34) = u34
            generalize a.eval (.tmp 35) = u35
            generalize a.eval (.tmp 36) = u36
            generalize a.eval (.tmp 37) = u37
            generalize a.eval (.tmp 38) = u38
            generalize a.eval (.tmp 39) = u39
            generalize a.eval (.tmp 40) = u40
            clear hmix hd hsz hE hO
            go_wp2
            go_ret
            exact ⟨by rw [Hlm.out]; rfl, Ext.trans Hx.out hx⟩
      · have hklt : ¬(k : Int) < l.length := by omega
        have hd : decide (l = m) = true := decide_eq_true (by
          have := Hl.out
          have h2 := Ht.out
          rw [List.take_of_length_le (by omega), List.take_of_length_le (by omega)] at h2
          exact h2)
        have Hd := Lib.hid hd
        clear hd hx ht
        go_wp2
        go_ret
        exact ⟨by rw [Hd.out]; rfl, Hx.out⟩
  · have tl : ((l.length : Int) != (m.length : Int)) = true := by rw [bne_iff_ne]; omega
    have hd : decide (l = m) = false := decide_eq_false (fun h => hl (by rw [h]))
    have Hd := Lib.hid hd
    clear hd hl
    go_wp2
    go_ret
    exact ⟨by rw [Hd.out]; rfl, Below.refl _ _⟩

end Go.Proofs.Ytccmhjlniljhcaa
