/-
  VarintTexts: the law's contract: whatever bytes, text and bound come in, it answers true and leaves all old memory alone.
  Conditions: none.
-/
import Derived.Test.YtkjbbnlmoekilaaVg
import Derived.Test.YtkjbbnlmoekilaaVh
namespace Go.Proofs.Ytkjbbnlmoekilaa
open Go.RowKit

set_option maxHeartbeats 8000000 in
set_option maxRecDepth 100000 in
theorem texts_any (w : World) (v : Value) (bs0 : List UInt8) (s : ByteArray) (most : Int) (hv : BS w w.heap.size v bs0) (hm : I64 most) :
    Calls Try.prog 5 #[v, .string s, .int .i64 most] w fun e w' => e = .returned (.bool true) ∧ Ext w w' := by
  by_cases hs : 300 < s.size
  all_goals go_enter Try.func5, Try.ntmps5
  all_goals go_wp2_with fail
  all_goals refine (cut_any w _ v bs0 hv).mono ?_
  all_goals rintro e w' ⟨v0, rfl, hb, rfl⟩
  all_goals have hl : (bs0.take 60).length ≤ 1000000 := by rw [List.length_take]; omega
  all_goals generalize bs0.take 60 = bs at hb hl
  all_goals go_wp2_with fail
  · obtain ⟨t, ht, hts⟩ : ∃ t, t = s.extract 0 300 ∧ t.size ≤ 300 := ⟨_, rfl, by rw [ByteArray.size_extract]; omega⟩
    rw [← ht]
    clear ht hs
    generalize hq : (.int .i64 (s.size : Int) : Value) = q1
    clear hq
    refine (gettext_any w _ v0 bs most hb (Nat.le_refl _) hl hm).mono ?_
    rintro e w1 ⟨r1, rfl, hr1, hx1⟩
    go_wp2_with fail
    refine (rgettext_any w1 _ v0 bs most (hb.ext (Nat.le_refl _) hx1) hx1.size hl hm).mono ?_
    rintro e w2 ⟨r2, rfl, hr2, hx2⟩
    have Hb : BytesP bs v0 w2 := BytesP.of_bs (hb.ext (Nat.le_refl _) (hx1.trans hx2)) (hx1.trans hx2).size
    have Hr1 : BytesP (vtRest bs most) r1 w2 := BytesP.of_bs (hr1.ext hx1.size hx2) (hx1.trans hx2).size
    have Hr2 : BytesP (vtRest bs most) r2 w2 := BytesP.of_bs hr2 (hx1.trans hx2).size
    go_wp2_with fail
    refine wp_region_list [BytesP bs, Is (.string t), BytesP (bs ++ (enc t.size ++ sl t)), Is (.string ⟨((bs ++ (enc t.size ++ sl t))).toArray⟩), BytesP bs, Is (.string ⟨(bs).toArray⟩), Is (.string t), BytesP (enc t.size ++ sl t), Is (.string ⟨((enc t.size ++ sl t)).toArray⟩), Is (.string ⟨(bs ++ (enc t.size ++ sl t)).toArray⟩), Is (.bool true), Is (.bool true), Is (.string ⟨(vtS bs most).toArray⟩), Is (.string ⟨(vtS bs most).toArray⟩), Is (.bool true), Is (.bool true), Is (.bool true), BytesP (vtRest bs most), Is (.string ⟨((vtRest bs most)).toArray⟩), BytesP (vtRest bs most), Is (.string ⟨((vtRest bs most)).toArray⟩), Is (.bool true), Is (.bool true), Is (.bool true), Is (.int .i64 (vtE bs most)), Is (.int .i64 (vtE bs most)), Is (.bool true), Is (.bool true), Is (.bool true), Is (.bool true), Is (.bool true), Is (.bool true)] (by kernel_rfl) (by kernel_rfl) (by kernel_rfl) ?_ (Steps.all ?_) ?_
    · intro p hp
      simp only [List.mem_cons, List.not_mem_nil, or_false] at hp
      rcases hp with rfl | rfl | rfl | rfl | rfl | rfl | rfl | rfl | rfl | rfl | rfl | rfl | rfl | rfl | rfl | rfl | rfl | rfl | rfl | rfl | rfl | rfl | rfl | rfl | rfl | rfl | rfl | rfl | rfl | rfl | rfl | rfl
      all_goals first | exact mono_bytes _ | exact mono_is _
    · refine Steps.cons_ (step_mk (BytesP bs) rfl fun a W hx hE hO => ?_) ?_
      · have h0 : (BytesP bs) (a.eval (.tmp 0)) W := old_is (v := v0) (hO 0 (by kernel_rfl)) (mono_at (mono_bytes _) Hb ((Ext.drew _).trans hx))
        exact yes_none rfl (do_move rfl h0)
      refine Steps.cons_ (step_mk (Is (.string t)) rfl fun a W hx hE hO => ?_) ?_
      · have h1 : a.eval (.tmp 1) = .string t := hO 1 (by kernel_rfl)
        exact yes_none rfl (do_move rfl h1)
      refine Steps.cons_ (step_mk (BytesP (bs ++ (enc t.size ++ sl t))) rfl fun a W hx hE hO => ?_) ?_
      · have h34 : (BytesP bs) (a.eval (.tmp 34)) W := hE 0 (by kernel_rfl) 34 rfl
        have h35 : a.eval (.tmp 35) = (.string t) := hE 1 (by kernel_rfl) 35 rfl
        refine yes_none rfl (do_call rfl Try.func21 (by kernel_rfl) (by kernel_rfl) (args := #[a.eval (.tmp 34), (.string t)]) (by simp only [List.map_toArray, List.map_cons, List.map_nil, h35]) ?_)
        exact (puttext_any W _ _ bs t h34 (Nat.le_refl _) hl (by omega)).mono fun e w' ⟨v', he, ho, hx⟩ => ⟨v', he, hx, by rw [← List.append_assoc]; exact ho.bs⟩
      refine Steps.cons_ (step_mk (Is (.string ⟨((bs ++ (enc t.size ++ sl t))).toArray⟩)) rfl fun a W hx hE hO => ?_) ?_
      · have h36 : (BytesP (bs ++ (enc t.size ++ sl t))) (a.eval (.tmp 36)) W := hE 2 (by kernel_rfl) 36 rfl
        refine yes_none rfl ?_
        exact do_string rfl Try.underlying22 Try.underlying5 Try.underlying9 h36 rfl
      refine Steps.cons_ (step_mk (BytesP bs) rfl fun a W hx hE hO => ?_) ?_
      · have h0 : (BytesP bs) (a.eval (.tmp 0)) W := old_is (v := v0) (hO 0 (by kernel_rfl)) (mono_at (mono_bytes _) Hb ((Ext.drew _).trans hx))
        exact yes_none rfl (do_move rfl h0)
      refine Steps.cons_ (step_mk (Is (.string ⟨(bs).toArray⟩)) rfl fun a W hx hE hO => ?_) ?_
      · have h38 : (BytesP bs) (a.eval (.tmp 38)) W := hE 4 (by kernel_rfl) 38 rfl
        refine yes_none rfl ?_
        exact do_string rfl Try.underlying22 Try.underlying5 Try.underlying9 h38 rfl
      refine Steps.cons_ (step_mk (Is (.string t)) rfl fun a W hx hE hO => ?_) ?_
      · have h1 : a.eval (.tmp 1) = .string t := hO 1 (by kernel_rfl)
        exact yes_none rfl (do_move rfl h1)
      refine Steps.cons_ (step_mk (BytesP (enc t.size ++ sl t)) rfl fun a W hx hE hO => ?_) ?_
      · have h40 : a.eval (.tmp 40) = (.string t) := hE 6 (by kernel_rfl) 40 rfl
        refine yes_none rfl (do_call rfl Try.func22 (by kernel_rfl) (by kernel_rfl) (args := #[(.string t)]) (by simp only [List.map_toArray, List.map_cons, List.map_nil, h40]) ?_)
        exact (rtext_any W t (by omega)).mono fun e w' ⟨v', he, ho, hx⟩ => ⟨v', he, hx, ho.bs⟩
      refine Steps.cons_ (step_mk (Is (.string ⟨((enc t.size ++ sl t)).toArray⟩)) rfl fun a W hx hE hO => ?_) ?_
      · have h41 : (BytesP (enc t.size ++ sl t)) (a.eval (.tmp 41)) W := hE 7 (by kernel_rfl) 41 rfl
        refine yes_none rfl ?_
        exact do_string rfl Try.underlying22 Try.underlying5 Try.underlying9 h41 rfl
      refine Steps.cons_ (step_mk (Is (.string ⟨(bs ++ (enc t.size ++ sl t)).toArray⟩)) rfl fun a W hx hE hO => ?_) ?_
      · have h39 : a.eval (.tmp 39) = (.string ⟨(bs).toArray⟩) := hE 5 (by kernel_rfl) 39 rfl
        have h42 : a.eval (.tmp 42) = (.string ⟨((enc t.size ++ sl t)).toArray⟩) := hE 8 (by kernel_rfl) 42 rfl
        refine yes_none rfl ?_
        exact do_concat rfl h39 h42 (by have := enc_len10 (U64.mk (show t.size < _ by omega)); simp only [List.length_append, sl_len]; omega) rfl
      refine Steps.cons_ (step_mk (Is (.bool true)) rfl fun a W hx hE hO => ?_) ?_
      · have h37 : a.eval (.tmp 37) = (.string ⟨((bs ++ (enc t.size ++ sl t))).toArray⟩) := hE 3 (by kernel_rfl) 37 rfl
        have h43 : a.eval (.tmp 43) = (.string ⟨(bs ++ (enc t.size ++ sl t)).toArray⟩) := hE 9 (by kernel_rfl) 43 rfl
        exact yes_none rfl (do_bin (v := (.bool true)) rfl h37 h43 (by simp [go_sem]) rfl)
      refine Steps.cons_ (step_mk (Is (.bool true)) rfl fun a W hx hE hO => ?_) ?_
      · have h44 : a.eval (.tmp 44) = (.bool true) := hE 10 (by kernel_rfl) 44 rfl
        exact yes_none rfl (do_move rfl h44)
      refine Steps.cons_ (step_mk (Is (.string ⟨(vtS bs most).toArray⟩)) rfl fun a W hx hE hO => ?_) ?_
      · have h45 : a.eval (.tmp 45) = (.bool true) := hE 11 (by kernel_rfl) 45 rfl
        have h7 : a.eval (.tmp 7) = .string ⟨(vtS bs most).toArray⟩ := hO 7 (by kernel_rfl)
        exact yes_is (j := 11) (d := 45) (b := true) rfl rfl h45 (do_move rfl h7)
      refine Steps.cons_ (step_mk (Is (.string ⟨(vtS bs most).toArray⟩)) rfl fun a W hx hE hO => ?_) ?_
      · have h45 : a.eval (.tmp 45) = (.bool true) := hE 11 (by kernel_rfl) 45 rfl
        have h10 : a.eval (.tmp 10) = .string ⟨(vtS bs most).toArray⟩ := hO 10 (by kernel_rfl)
        exact yes_is (j := 11) (d := 45) (b := true) rfl rfl h45 (do_move rfl h10)
      refine Steps.cons_ (step_mk (Is (.bool true)) rfl fun a W hx hE hO => ?_) ?_
      · have h45 : a.eval (.tmp 45) = (.bool true) := hE 11 (by kernel_rfl) 45 rfl
        have h46 : a.eval (.tmp 46) = (.string ⟨(vtS bs most).toArray⟩) := hE 12 (by kernel_rfl) 46 rfl
        have h47 : a.eval (.tmp 47) = (.string ⟨(vtS bs most).toArray⟩) := hE 13 (by kernel_rfl) 47 rfl
        exact yes_is (j := 11) (d := 45) (b := true) rfl rfl h45 (do_bin (v := (.bool true)) rfl h46 h47 (by simp [go_sem]) rfl)
      refine Steps.cons_ (step_mk (Is (.bool true)) rfl fun a W hx hE hO => ?_) ?_
      · have h45 : a.eval (.tmp 45) = (.bool true) := hE 11 (by kernel_rfl) 45 rfl
        have h48 : a.eval (.tmp 48) = (.bool true) := hE 14 (by kernel_rfl) 48 rfl
        exact yes_none rfl (do_pick rfl h45 h48)
      refine Steps.cons_ (step_mk (Is (.bool true)) rfl fun a W hx hE hO => ?_) ?_
      · have h49 : a.eval (.tmp 49) = (.bool true) := hE 15 (by kernel_rfl) 49 rfl
        exact yes_none rfl (do_move rfl h49)
      refine Steps.cons_ (step_mk (BytesP (vtRest bs most)) rfl fun a W hx hE hO => ?_) ?_
      · have h50 : a.eval (.tmp 50) = (.bool true) := hE 16 (by kernel_rfl) 50 rfl
        have h8 : (BytesP (vtRest bs most)) (a.eval (.tmp 8)) W := old_is (v := r1) (hO 8 (by kernel_rfl)) (mono_at (mono_bytes _) Hr1 ((Ext.drew _).trans hx))
        exact yes_is (j := 16) (d := 50) (b := true) rfl rfl h50 (do_move rfl h8)
      refine Steps.cons_ (step_mk (Is (.string ⟨((vtRest bs most)).toArray⟩)) rfl fun a W hx hE hO => ?_) ?_
      · have h50 : a.eval (.tmp 50) = (.bool true) := hE 16 (by kernel_rfl) 50 rfl
        have h51 : (BytesP (vtRest bs most)) (a.eval (.tmp 51)) W := hE 17 (by kernel_rfl) 51 rfl
        refine yes_is (j := 16) (d := 50) (b := true) rfl rfl h50 ?_
        exact do_string rfl Try.underlying22 Try.underlying5 Try.underlying9 h51 rfl
      refine Steps.cons_ (step_mk (BytesP (vtRest bs most)) rfl fun a W hx hE hO => ?_) ?_
      · have h50 : a.eval (.tmp 50) = (.bool true) := hE 16 (by kernel_rfl) 50 rfl
        have h11 : (BytesP (vtRest bs most)) (a.eval (.tmp 11)) W := old_is (v := r2) (hO 11 (by kernel_rfl)) (mono_at (mono_bytes _) Hr2 ((Ext.drew _).trans hx))
        exact yes_is (j := 16) (d := 50) (b := true) rfl rfl h50 (do_move rfl h11)
      refine Steps.cons_ (step_mk (Is (.string ⟨((vtRest bs most)).toArray⟩)) rfl fun a W hx hE hO => ?_) ?_
      · have h50 : a.eval (.tmp 50) = (.bool true) := hE 16 (by kernel_rfl) 50 rfl
        have h53 : (BytesP (vtRest bs most)) (a.eval (.tmp 53)) W := hE 19 (by kernel_rfl) 53 rfl
        refine yes_is (j := 16) (d := 50) (b := true) rfl rfl h50 ?_
        exact do_string rfl Try.underlying22 Try.underlying5 Try.underlying9 h53 rfl
      refine Steps.cons_ (step_mk (Is (.bool true)) rfl fun a W hx hE hO => ?_) ?_
      · have h50 : a.eval (.tmp 50) = (.bool true) := hE 16 (by kernel_rfl) 50 rfl
        have h52 : a.eval (.tmp 52) = (.string ⟨((vtRest bs most)).toArray⟩) := hE 18 (by kernel_rfl) 52 rfl
        have h54 : a.eval (.tmp 54) = (.string ⟨((vtRest bs most)).toArray⟩) := hE 20 (by kernel_rfl) 54 rfl
        exact yes_is (j := 16) (d := 50) (b := true) rfl rfl h50 (do_bin (v := (.bool true)) rfl h52 h54 (by simp [go_sem]) rfl)
      refine Steps.cons_ (step_mk (Is (.bool true)) rfl fun a W hx hE hO => ?_) ?_
      · have h50 : a.eval (.tmp 50) = (.bool true) := hE 16 (by kernel_rfl) 50 rfl
        have h55 : a.eval (.tmp 55) = (.bool true) := hE 21 (by kernel_rfl) 55 rfl
        exact yes_none rfl (do_pick rfl h50 h55)
      refine Steps.cons_ (step_mk (Is (.bool true)) rfl fun a W hx hE hO => ?_) ?_
      · have h56 : a.eval (.tmp 56) = (.bool true) := hE 22 (by kernel_rfl) 56 rfl
        exact yes_none rfl (do_move rfl h56)
      refine Steps.cons_ (step_mk (Is (.int .i64 (vtE bs most))) rfl fun a W hx hE hO => ?_) ?_
      · have h57 : a.eval (.tmp 57) = (.bool true) := hE 23 (by kernel_rfl) 57 rfl
        have h9 : a.eval (.tmp 9) = .int .i64 (vtE bs most) := hO 9 (by kernel_rfl)
        exact yes_is (j := 23) (d := 57) (b := true) rfl rfl h57 (do_move rfl h9)
      refine Steps.cons_ (step_mk (Is (.int .i64 (vtE bs most))) rfl fun a W hx hE hO => ?_) ?_
      · have h57 : a.eval (.tmp 57) = (.bool true) := hE 23 (by kernel_rfl) 57 rfl
        have h12 : a.eval (.tmp 12) = .int .i64 (vtE bs most) := hO 12 (by kernel_rfl)
        exact yes_is (j := 23) (d := 57) (b := true) rfl rfl h57 (do_move rfl h12)
      refine Steps.cons_ (step_mk (Is (.bool true)) rfl fun a W hx hE hO => ?_) ?_
      · have h57 : a.eval (.tmp 57) = (.bool true) := hE 23 (by kernel_rfl) 57 rfl
        have h58 : a.eval (.tmp 58) = (.int .i64 (vtE bs most)) := hE 24 (by kernel_rfl) 58 rfl
        have h59 : a.eval (.tmp 59) = (.int .i64 (vtE bs most)) := hE 25 (by kernel_rfl) 59 rfl
        exact yes_is (j := 23) (d := 57) (b := true) rfl rfl h57 (do_bin (v := (.bool true)) rfl h58 h59 (by simp [go_sem]) rfl)
      refine Steps.cons_ (step_mk (Is (.bool true)) rfl fun a W hx hE hO => ?_) ?_
      · have h57 : a.eval (.tmp 57) = (.bool true) := hE 23 (by kernel_rfl) 57 rfl
        have h60 : a.eval (.tmp 60) = (.bool true) := hE 26 (by kernel_rfl) 60 rfl
        exact yes_none rfl (do_pick rfl h57 h60)
      refine Steps.cons_ (step_mk (Is (.bool true)) rfl fun a W hx hE hO => ?_) ?_
      · have h61 : a.eval (.tmp 61) = (.bool true) := hE 27 (by kernel_rfl) 61 rfl
        exact yes_none rfl (do_move rfl h61)
      refine Steps.cons_ (step_mk (Is (.bool true)) rfl fun a W hx hE hO => ?_) ?_
      · have h62 : a.eval (.tmp 62) = (.bool true) := hE 28 (by kernel_rfl) 62 rfl
        refine yes_is (j := 28) (d := 62) (b := true) rfl rfl h62 (do_call rfl Try.func14 (by kernel_rfl) (by kernel_rfl) (args := #[]) (by simp) ?_)
        exact (awake_any W).mono fun e w' ⟨he, hx⟩ => ⟨_, he, hx, rfl⟩
      refine Steps.cons_ (step_mk (Is (.bool true)) rfl fun a W hx hE hO => ?_) ?_
      · have h62 : a.eval (.tmp 62) = (.bool true) := hE 28 (by kernel_rfl) 62 rfl
        have h63 : a.eval (.tmp 63) = (.bool true) := hE 29 (by kernel_rfl) 63 rfl
        exact yes_none rfl (do_pick rfl h62 h63)
      refine Steps.cons_ (step_mk (Is (.bool true)) rfl fun a W hx hE hO => ?_) ?_
      · have h64 : a.eval (.tmp 64) = (.bool true) := hE 30 (by kernel_rfl) 64 rfl
        exact yes_none rfl (do_assign rfl h64)
      exact Steps.nil_
    · intro a W hx hd hE hO
      have h6 : a.eval (.tmp 6) = (.bool true) := hE 31 (of_decide_eq_true (by kernel_rfl)) 6 rfl
      go_wp2
      exact bodyPost_ret (results_tmp rfl _ _ _) hd ⟨congrArg Ending.returned h6, (hx1.trans hx2).trans hx⟩
  · obtain ⟨t, rfl⟩ : ∃ t, t = s := ⟨s, rfl⟩
    have hts : t.size ≤ 300 := by omega
    refine (gettext_any w _ v0 bs most hb (Nat.le_refl _) hl hm).mono ?_
    rintro e w1 ⟨r1, rfl, hr1, hx1⟩
    go_wp2_with fail
    refine (rgettext_any w1 _ v0 bs most (hb.ext (Nat.le_refl _) hx1) hx1.size hl hm).mono ?_
    rintro e w2 ⟨r2, rfl, hr2, hx2⟩
    have Hb : BytesP bs v0 w2 := BytesP.of_bs (hb.ext (Nat.le_refl _) (hx1.trans hx2)) (hx1.trans hx2).size
    have Hr1 : BytesP (vtRest bs most) r1 w2 := BytesP.of_bs (hr1.ext hx1.size hx2) (hx1.trans hx2).size
    have Hr2 : BytesP (vtRest bs most) r2 w2 := BytesP.of_bs hr2 (hx1.trans hx2).size
    go_wp2_with fail
    refine wp_region_list [BytesP bs, Is (.string t), BytesP (bs ++ (enc t.size ++ sl t)), Is (.string ⟨((bs ++ (enc t.size ++ sl t))).toArray⟩), BytesP bs, Is (.string ⟨(bs).toArray⟩), Is (.string t), BytesP (enc t.size ++ sl t), Is (.string ⟨((enc t.size ++ sl t)).toArray⟩), Is (.string ⟨(bs ++ (enc t.size ++ sl t)).toArray⟩), Is (.bool true), Is (.bool true), Is (.string ⟨(vtS bs most).toArray⟩), Is (.string ⟨(vtS bs most).toArray⟩), Is (.bool true), Is (.bool true), Is (.bool true), BytesP (vtRest bs most), Is (.string ⟨((vtRest bs most)).toArray⟩), BytesP (vtRest bs most), Is (.string ⟨((vtRest bs most)).toArray⟩), Is (.bool true), Is (.bool true), Is (.bool true), Is (.int .i64 (vtE bs most)), Is (.int .i64 (vtE bs most)), Is (.bool true), Is (.bool true), Is (.bool true), Is (.bool true), Is (.bool true), Is (.bool true)] (by kernel_rfl) (by kernel_rfl) (by kernel_rfl) ?_ (Steps.all ?_) ?_
    · intro p hp
      simp only [List.mem_cons, List.not_mem_nil, or_false] at hp
      rcases hp with rfl | rfl | rfl | rfl | rfl | rfl | rfl | rfl | rfl | rfl | rfl | rfl | rfl | rfl | rfl | rfl | rfl | rfl | rfl | rfl | rfl | rfl | rfl | rfl | rfl | rfl | rfl | rfl | rfl | rfl | rfl | rfl
      all_goals first | exact mono_bytes _ | exact mono_is _
    · refine Steps.cons_ (step_mk (BytesP bs) rfl fun a W hx hE hO => ?_) ?_
      · have h0 : (BytesP bs) (a.eval (.tmp 0)) W := old_is (v := v0) (hO 0 (by kernel_rfl)) (mono_at (mono_bytes _) Hb ((Ext.drew _).trans hx))
        exact yes_none rfl (do_move rfl h0)
      refine Steps.cons_ (step_mk (Is (.string t)) rfl fun a W hx hE hO => ?_) ?_
      · have h1 : a.eval (.tmp 1) = .string t := hO 1 (by kernel_rfl)
        exact yes_none rfl (do_move rfl h1)
      refine Steps.cons_ (step_mk (BytesP (bs ++ (enc t.size ++ sl t))) rfl fun a W hx hE hO => ?_) ?_
      · have h34 : (BytesP bs) (a.eval (.tmp 34)) W := hE 0 (by kernel_rfl) 34 rfl
        have h35 : a.eval (.tmp 35) = (.string t) := hE 1 (by kernel_rfl) 35 rfl
        refine yes_none rfl (do_call rfl Try.func21 (by kernel_rfl) (by kernel_rfl) (args := #[a.eval (.tmp 34), (.string t)]) (by simp only [List.map_toArray, List.map_cons, List.map_nil, h35]) ?_)
        exact (puttext_any W _ _ bs t h34 (Nat.le_refl _) hl (by omega)).mono fun e w' ⟨v', he, ho, hx⟩ => ⟨v', he, hx, by rw [← List.append_assoc]; exact ho.bs⟩
      refine Steps.cons_ (step_mk (Is (.string ⟨((bs ++ (enc t.size ++ sl t))).toArray⟩)) rfl fun a W hx hE hO => ?_) ?_
      · have h36 : (BytesP (bs ++ (enc t.size ++ sl t))) (a.eval (.tmp 36)) W := hE 2 (by kernel_rfl) 36 rfl
        refine yes_none rfl ?_
        exact do_string rfl Try.underlying22 Try.underlying5 Try.underlying9 h36 rfl
      refine Steps.cons_ (step_mk (BytesP bs) rfl fun a W hx hE hO => ?_) ?_
      · have h0 : (BytesP bs) (a.eval (.tmp 0)) W := old_is (v := v0) (hO 0 (by kernel_rfl)) (mono_at (mono_bytes _) Hb ((Ext.drew _).trans hx))
        exact yes_none rfl (do_move rfl h0)
      refine Steps.cons_ (step_mk (Is (.string ⟨(bs).toArray⟩)) rfl fun a W hx hE hO => ?_) ?_
      · have h38 : (BytesP bs) (a.eval (.tmp 38)) W := hE 4 (by kernel_rfl) 38 rfl
        refine yes_none rfl ?_
        exact do_string rfl Try.underlying22 Try.underlying5 Try.underlying9 h38 rfl
      refine Steps.cons_ (step_mk (Is (.string t)) rfl fun a W hx hE hO => ?_) ?_
      · have h1 : a.eval (.tmp 1) = .string t := hO 1 (by kernel_rfl)
        exact yes_none rfl (do_move rfl h1)
      refine Steps.cons_ (step_mk (BytesP (enc t.size ++ sl t)) rfl fun a W hx hE hO => ?_) ?_
      · have h40 : a.eval (.tmp 40) = (.string t) := hE 6 (by kernel_rfl) 40 rfl
        refine yes_none rfl (do_call rfl Try.func22 (by kernel_rfl) (by kernel_rfl) (args := #[(.string t)]) (by simp only [List.map_toArray, List.map_cons, List.map_nil, h40]) ?_)
        exact (rtext_any W t (by omega)).mono fun e w' ⟨v', he, ho, hx⟩ => ⟨v', he, hx, ho.bs⟩
      refine Steps.cons_ (step_mk (Is (.string ⟨((enc t.size ++ sl t)).toArray⟩)) rfl fun a W hx hE hO => ?_) ?_
      · have h41 : (BytesP (enc t.size ++ sl t)) (a.eval (.tmp 41)) W := hE 7 (by kernel_rfl) 41 rfl
        refine yes_none rfl ?_
        exact do_string rfl Try.underlying22 Try.underlying5 Try.underlying9 h41 rfl
      refine Steps.cons_ (step_mk (Is (.string ⟨(bs ++ (enc t.size ++ sl t)).toArray⟩)) rfl fun a W hx hE hO => ?_) ?_
      · have h39 : a.eval (.tmp 39) = (.string ⟨(bs).toArray⟩) := hE 5 (by kernel_rfl) 39 rfl
        have h42 : a.eval (.tmp 42) = (.string ⟨((enc t.size ++ sl t)).toArray⟩) := hE 8 (by kernel_rfl) 42 rfl
        refine yes_none rfl ?_
        exact do_concat rfl h39 h42 (by have := enc_len10 (U64.mk (show t.size < _ by omega)); simp only [List.length_append, sl_len]; omega) rfl
      refine Steps.cons_ (step_mk (Is (.bool true)) rfl fun a W hx hE hO => ?_) ?_
      · have h37 : a.eval (.tmp 37) = (.string ⟨((bs ++ (enc t.size ++ sl t))).toArray⟩) := hE 3 (by kernel_rfl) 37 rfl
        have h43 : a.eval (.tmp 43) = (.string ⟨(bs ++ (enc t.size ++ sl t)).toArray⟩) := hE 9 (by kernel_rfl) 43 rfl
        exact yes_none rfl (do_bin (v := (.bool true)) rfl h37 h43 (by simp [go_sem]) rfl)
      refine Steps.cons_ (step_mk (Is (.bool true)) rfl fun a W hx hE hO => ?_) ?_
      · have h44 : a.eval (.tmp 44) = (.bool true) := hE 10 (by kernel_rfl) 44 rfl
        exact yes_none rfl (do_move rfl h44)
      refine Steps.cons_ (step_mk (Is (.string ⟨(vtS bs most).toArray⟩)) rfl fun a W hx hE hO => ?_) ?_
      · have h45 : a.eval (.tmp 45) = (.bool true) := hE 11 (by kernel_rfl) 45 rfl
        have h7 : a.eval (.tmp 7) = .string ⟨(vtS bs most).toArray⟩ := hO 7 (by kernel_rfl)
        exact yes_is (j := 11) (d := 45) (b := true) rfl rfl h45 (do_move rfl h7)
      refine Steps.cons_ (step_mk (Is (.string ⟨(vtS bs most).toArray⟩)) rfl fun a W hx hE hO => ?_) ?_
      · have h45 : a.eval (.tmp 45) = (.bool true) := hE 11 (by kernel_rfl) 45 rfl
        have h10 : a.eval (.tmp 10) = .string ⟨(vtS bs most).toArray⟩ := hO 10 (by kernel_rfl)
        exact yes_is (j := 11) (d := 45) (b := true) rfl rfl h45 (do_move rfl h10)
      refine Steps.cons_ (step_mk (Is (.bool true)) rfl fun a W hx hE hO => ?_) ?_
      · have h45 : a.eval (.tmp 45) = (.bool true) := hE 11 (by kernel_rfl) 45 rfl
        have h46 : a.eval (.tmp 46) = (.string ⟨(vtS bs most).toArray⟩) := hE 12 (by kernel_rfl) 46 rfl
        have h47 : a.eval (.tmp 47) = (.string ⟨(vtS bs most).toArray⟩) := hE 13 (by kernel_rfl) 47 rfl
        exact yes_is (j := 11) (d := 45) (b := true) rfl rfl h45 (do_bin (v := (.bool true)) rfl h46 h47 (by simp [go_sem]) rfl)
      refine Steps.cons_ (step_mk (Is (.bool true)) rfl fun a W hx hE hO => ?_) ?_
      · have h45 : a.eval (.tmp 45) = (.bool true) := hE 11 (by kernel_rfl) 45 rfl
        have h48 : a.eval (.tmp 48) = (.bool true) := hE 14 (by kernel_rfl) 48 rfl
        exact yes_none rfl (do_pick rfl h45 h48)
      refine Steps.cons_ (step_mk (Is (.bool true)) rfl fun a W hx hE hO => ?_) ?_
      · have h49 : a.eval (.tmp 49) = (.bool true) := hE 15 (by kernel_rfl) 49 rfl
        exact yes_none rfl (do_move rfl h49)
      refine Steps.cons_ (step_mk (BytesP (vtRest bs most)) rfl fun a W hx hE hO => ?_) ?_
      · have h50 : a.eval (.tmp 50) = (.bool true) := hE 16 (by kernel_rfl) 50 rfl
        have h8 : (BytesP (vtRest bs most)) (a.eval (.tmp 8)) W := old_is (v := r1) (hO 8 (by kernel_rfl)) (mono_at (mono_bytes _) Hr1 ((Ext.drew _).trans hx))
        exact yes_is (j := 16) (d := 50) (b := true) rfl rfl h50 (do_move rfl h8)
      refine Steps.cons_ (step_mk (Is (.string ⟨((vtRest bs most)).toArray⟩)) rfl fun a W hx hE hO => ?_) ?_
      · have h50 : a.eval (.tmp 50) = (.bool true) := hE 16 (by kernel_rfl) 50 rfl
        have h51 : (BytesP (vtRest bs most)) (a.eval (.tmp 51)) W := hE 17 (by kernel_rfl) 51 rfl
        refine yes_is (j := 16) (d := 50) (b := true) rfl rfl h50 ?_
        exact do_string rfl Try.underlying22 Try.underlying5 Try.underlying9 h51 rfl
      refine Steps.cons_ (step_mk (BytesP (vtRest bs most)) rfl fun a W hx hE hO => ?_) ?_
      · have h50 : a.eval (.tmp 50) = (.bool true) := hE 16 (by kernel_rfl) 50 rfl
        have h11 : (BytesP (vtRest bs most)) (a.eval (.tmp 11)) W := old_is (v := r2) (hO 11 (by kernel_rfl)) (mono_at (mono_bytes _) Hr2 ((Ext.drew _).trans hx))
        exact yes_is (j := 16) (d := 50) (b := true) rfl rfl h50 (do_move rfl h11)
      refine Steps.cons_ (step_mk (Is (.string ⟨((vtRest bs most)).toArray⟩)) rfl fun a W hx hE hO => ?_) ?_
      · have h50 : a.eval (.tmp 50) = (.bool true) := hE 16 (by kernel_rfl) 50 rfl
        have h53 : (BytesP (vtRest bs most)) (a.eval (.tmp 53)) W := hE 19 (by kernel_rfl) 53 rfl
        refine yes_is (j := 16) (d := 50) (b := true) rfl rfl h50 ?_
        exact do_string rfl Try.underlying22 Try.underlying5 Try.underlying9 h53 rfl
      refine Steps.cons_ (step_mk (Is (.bool true)) rfl fun a W hx hE hO => ?_) ?_
      · have h50 : a.eval (.tmp 50) = (.bool true) := hE 16 (by kernel_rfl) 50 rfl
        have h52 : a.eval (.tmp 52) = (.string ⟨((vtRest bs most)).toArray⟩) := hE 18 (by kernel_rfl) 52 rfl
        have h54 : a.eval (.tmp 54) = (.string ⟨((vtRest bs most)).toArray⟩) := hE 20 (by kernel_rfl) 54 rfl
        exact yes_is (j := 16) (d := 50) (b := true) rfl rfl h50 (do_bin (v := (.bool true)) rfl h52 h54 (by simp [go_sem]) rfl)
      refine Steps.cons_ (step_mk (Is (.bool true)) rfl fun a W hx hE hO => ?_) ?_
      · have h50 : a.eval (.tmp 50) = (.bool true) := hE 16 (by kernel_rfl) 50 rfl
        have h55 : a.eval (.tmp 55) = (.bool true) := hE 21 (by kernel_rfl) 55 rfl
        exact yes_none rfl (do_pick rfl h50 h55)
      refine Steps.cons_ (step_mk (Is (.bool true)) rfl fun a W hx hE hO => ?_) ?_
      · have h56 : a.eval (.tmp 56) = (.bool true) := hE 22 (by kernel_rfl) 56 rfl
        exact yes_none rfl (do_move rfl h56)
      refine Steps.cons_ (step_mk (Is (.int .i64 (vtE bs most))) rfl fun a W hx hE hO => ?_) ?_
      · have h57 : a.eval (.tmp 57) = (.bool true) := hE 23 (by kernel_rfl) 57 rfl
        have h9 : a.eval (.tmp 9) = .int .i64 (vtE bs most) := hO 9 (by kernel_rfl)
        exact yes_is (j := 23) (d := 57) (b := true) rfl rfl h57 (do_move rfl h9)
      refine Steps.cons_ (step_mk (Is (.int .i64 (vtE bs most))) rfl fun a W hx hE hO => ?_) ?_
      · have h57 : a.eval (.tmp 57) = (.bool true) := hE 23 (by kernel_rfl) 57 rfl
        have h12 : a.eval (.tmp 12) = .int .i64 (vtE bs most) := hO 12 (by kernel_rfl)
        exact yes_is (j := 23) (d := 57) (b := true) rfl rfl h57 (do_move rfl h12)
      refine Steps.cons_ (step_mk (Is (.bool true)) rfl fun a W hx hE hO => ?_) ?_
      · have h57 : a.eval (.tmp 57) = (.bool true) := hE 23 (by kernel_rfl) 57 rfl
        have h58 : a.eval (.tmp 58) = (.int .i64 (vtE bs most)) := hE 24 (by kernel_rfl) 58 rfl
        have h59 : a.eval (.tmp 59) = (.int .i64 (vtE bs most)) := hE 25 (by kernel_rfl) 59 rfl
        exact yes_is (j := 23) (d := 57) (b := true) rfl rfl h57 (do_bin (v := (.bool true)) rfl h58 h59 (by simp [go_sem]) rfl)
      refine Steps.cons_ (step_mk (Is (.bool true)) rfl fun a W hx hE hO => ?_) ?_
      · have h57 : a.eval (.tmp 57) = (.bool true) := hE 23 (by kernel_rfl) 57 rfl
        have h60 : a.eval (.tmp 60) = (.bool true) := hE 26 (by kernel_rfl) 60 rfl
        exact yes_none rfl (do_pick rfl h57 h60)
      refine Steps.cons_ (step_mk (Is (.bool true)) rfl fun a W hx hE hO => ?_) ?_
      · have h61 : a.eval (.tmp 61) = (.bool true) := hE 27 (by kernel_rfl) 61 rfl
        exact yes_none rfl (do_move rfl h61)
      refine Steps.cons_ (step_mk (Is (.bool true)) rfl fun a W hx hE hO => ?_) ?_
      · have h62 : a.eval (.tmp 62) = (.bool true) := hE 28 (by kernel_rfl) 62 rfl
        refine yes_is (j := 28) (d := 62) (b := true) rfl rfl h62 (do_call rfl Try.func14 (by kernel_rfl) (by kernel_rfl) (args := #[]) (by simp) ?_)
        exact (awake_any W).mono fun e w' ⟨he, hx⟩ => ⟨_, he, hx, rfl⟩
      refine Steps.cons_ (step_mk (Is (.bool true)) rfl fun a W hx hE hO => ?_) ?_
      · have h62 : a.eval (.tmp 62) = (.bool true) := hE 28 (by kernel_rfl) 62 rfl
        have h63 : a.eval (.tmp 63) = (.bool true) := hE 29 (by kernel_rfl) 63 rfl
        exact yes_none rfl (do_pick rfl h62 h63)
      refine Steps.cons_ (step_mk (Is (.bool true)) rfl fun a W hx hE hO => ?_) ?_
      · have h64 : a.eval (.tmp 64) = (.bool true) := hE 30 (by kernel_rfl) 64 rfl
        exact yes_none rfl (do_assign rfl h64)
      exact Steps.nil_
    · intro a W hx hd hE hO
      have h6 : a.eval (.tmp 6) = (.bool true) := hE 31 (of_decide_eq_true (by kernel_rfl)) 6 rfl
      go_wp2
      exact bodyPost_ret (results_tmp rfl _ _ _) hd ⟨congrArg Ending.returned h6, (hx1.trans hx2).trans hx⟩

end Go.Proofs.Ytkjbbnlmoekilaa
