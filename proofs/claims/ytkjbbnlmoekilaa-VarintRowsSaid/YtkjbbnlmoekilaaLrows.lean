/-
  VarintRows: the law's contract: it answers true and leaves all old memory alone.
  Conditions: none.
-/
import Derived.Test.YtkjbbnlmoekilaaVg
import Derived.Test.YtkjbbnlmoekilaaVi
namespace Go.Proofs.Ytkjbbnlmoekilaa
open Go.RowKit

def IntsP (zs : List Int) : Value → World → Prop := fun v w => IS w w.heap.size v zs
theorem mono_IntsP (zs : List Int) : Mono (IntsP zs) := fun _ _ _ h hx => (IS.ext h (Nat.le_refl _) hx).more hx.size

set_option maxHeartbeats 8000000 in
set_option maxRecDepth 100000 in
theorem rows_any (w : World) (v u : Value) (bs0 : List UInt8) (zs0 : List Int) (n : Int) (hv : BS w w.heap.size v bs0) (hu : IS w w.heap.size u zs0) (hz0 : ∀ z ∈ zs0, I64 z) (hn : I64 n) :
    Calls Try.prog 7 #[v, u, .int .i64 n] w fun e w' => e = .returned (.bool true) ∧ Ext w w' := by
  have Hu := Lib.hid hu
  obtain ⟨A, c, rfl, hc, hm, _⟩ := hu
  unfold maxLen at hm
  have Hz0 := Lib.hid hz0
  clear hz0
  by_cases hs : 20 < zs0.length
  all_goals go_enter Try.func7, Try.ntmps7
  all_goals go_wp2_with fail
  all_goals refine (cut_any w _ v bs0 hv).mono ?_
  all_goals rintro e w' ⟨v0, rfl, hb, rfl⟩
  all_goals have hl : (bs0.take 60).length ≤ 60 := by rw [List.length_take]; omega
  all_goals generalize bs0.take 60 = bs at hb hl
  all_goals go_wp2_with fail
  · obtain ⟨zs, hzs, hts, hzz⟩ : ∃ zs, IS w w.heap.size (.slice A 20 c) zs ∧ zs.length ≤ 20 ∧ (∀ z ∈ zs, I64 z) := ⟨zs0.take 20, Hu.out.take_ (by omega), by rw [List.length_take]; omega, fun z h => Hz0.out z (List.mem_of_mem_take h)⟩
    have Hzz := Lib.hid hzz
    generalize (Value.slice A 20 c) = u0 at hzs
    clear hzz
    refine (getall_any w v0 bs n hb (by omega) hn).mono ?_
    rintro e w1 ⟨l1, r1, rfl, hl1, hr1, hx1⟩
    go_wp2_with fail
    refine (rgetall_any w1 v0 bs n ((hb.ext (Nat.le_refl _) hx1).more hx1.size) (by omega) hn).mono ?_
    rintro e w2 ⟨l2, r2, rfl, hl2, hr2, hx2⟩
    have Hb : BytesP bs v0 w2 := BytesP.of_bs (hb.ext (Nat.le_refl _) (hx1.trans hx2)) (hx1.trans hx2).size
    have Hr1 : BytesP (vaAll n bs).2.1 r1 w2 := mono_bytes _ _ _ _ (BytesP.of_bs hr1 (Nat.le_refl _)) hx2
    have Hr2 : BytesP (vaAll n bs).2.1 r2 w2 := BytesP.of_bs hr2 (Nat.le_refl _)
    have Hl1 : IntsP (vaAll n bs).1 l1 w2 := mono_IntsP _ _ _ _ hl1 hx2
    have Hl2 : IntsP (vaAll n bs).1 l2 w2 := hl2
    have Hzs : IntsP zs u0 w2 := mono_IntsP _ _ _ _ hzs (hx1.trans hx2)
    go_wp2_with fail
    refine wp_region_list [BytesP bs, IntsP zs, BytesP (bs ++ encAll zs), Is (.string ⟨((bs ++ encAll zs)).toArray⟩), BytesP bs, Is (.string ⟨(bs).toArray⟩), IntsP zs, BytesP (encAll zs), Is (.string ⟨((encAll zs)).toArray⟩), Is (.string ⟨(bs ++ (encAll zs)).toArray⟩), Is (.bool true), Is (.bool true), IntsP (vaAll n bs).1, IntsP (vaAll n bs).1, Is (.bool true), Is (.bool true), Is (.bool true), BytesP (vaAll n bs).2.1, Is (.string ⟨((vaAll n bs).2.1).toArray⟩), BytesP (vaAll n bs).2.1, Is (.string ⟨((vaAll n bs).2.1).toArray⟩), Is (.bool true), Is (.bool true), Is (.bool true), Is (.int .i64 (vaAll n bs).2.2), Is (.int .i64 (vaAll n bs).2.2), Is (.bool true), Is (.bool true), Is (.bool true), Is (.bool true), Is (.bool true), Is (.bool true)] (by kernel_rfl) (by kernel_rfl) (by kernel_rfl) ?_ (Steps.all ?_) ?_
    · intro p hp
      simp only [List.mem_cons, List.not_mem_nil, or_false] at hp
      rcases hp with rfl | rfl | rfl | rfl | rfl | rfl | rfl | rfl | rfl | rfl | rfl | rfl | rfl | rfl | rfl | rfl | rfl | rfl | rfl | rfl | rfl | rfl | rfl | rfl | rfl | rfl | rfl | rfl | rfl | rfl | rfl | rfl
      all_goals first | exact mono_bytes _ | exact mono_IntsP _ | exact mono_is _
    · refine Steps.cons_ (step_mk (BytesP bs) rfl fun a W hx hE hO => ?_) ?_
      · have h0 : (BytesP bs) (a.eval (.tmp 0)) W := old_is (v := v0) (hO 0 (by kernel_rfl)) (mono_at (mono_bytes _) Hb ((Ext.drew _).trans hx))
        exact yes_none rfl (do_move rfl h0)
      refine Steps.cons_ (step_mk (IntsP zs) rfl fun a W hx hE hO => ?_) ?_
      · have h1 : (IntsP zs) (a.eval (.tmp 1)) W := old_is (v := u0) (hO 1 (by kernel_rfl)) (mono_at (mono_IntsP _) Hzs ((Ext.drew _).trans hx))
        exact yes_none rfl (do_move rfl h1)
      refine Steps.cons_ (step_mk (BytesP (bs ++ encAll zs)) rfl fun a W hx hE hO => ?_) ?_
      · have h34 : (BytesP bs) (a.eval (.tmp 34)) W := hE 0 (by kernel_rfl) 34 rfl
        have h35 : (IntsP zs) (a.eval (.tmp 35)) W := hE 1 (by kernel_rfl) 35 rfl
        refine yes_none rfl (do_call rfl Try.func26 (by kernel_rfl) (by kernel_rfl) (args := #[a.eval (.tmp 34), a.eval (.tmp 35)]) (by simp only [List.map_toArray, List.map_cons, List.map_nil]) ?_)
        exact (putall_any W W.heap.size _ _ bs zs h34 h35 (Nat.le_refl _) (by omega) Hzz.out (by omega)).mono fun e w' ⟨v', he, ho, hx⟩ => ⟨v', he, hx, ho.bs⟩
      refine Steps.cons_ (step_mk (Is (.string ⟨((bs ++ encAll zs)).toArray⟩)) rfl fun a W hx hE hO => ?_) ?_
      · have h36 : (BytesP (bs ++ encAll zs)) (a.eval (.tmp 36)) W := hE 2 (by kernel_rfl) 36 rfl
        refine yes_none rfl ?_
        exact do_string rfl Try.underlying22 Try.underlying5 Try.underlying9 h36 rfl
      refine Steps.cons_ (step_mk (BytesP bs) rfl fun a W hx hE hO => ?_) ?_
      · have h0 : (BytesP bs) (a.eval (.tmp 0)) W := old_is (v := v0) (hO 0 (by kernel_rfl)) (mono_at (mono_bytes _) Hb ((Ext.drew _).trans hx))
        exact yes_none rfl (do_move rfl h0)
      refine Steps.cons_ (step_mk (Is (.string ⟨(bs).toArray⟩)) rfl fun a W hx hE hO => ?_) ?_
      · have h38 : (BytesP bs) (a.eval (.tmp 38)) W := hE 4 (by kernel_rfl) 38 rfl
        refine yes_none rfl ?_
        exact do_string rfl Try.underlying22 Try.underlying5 Try.underlying9 h38 rfl
      refine Steps.cons_ (step_mk (IntsP zs) rfl fun a W hx hE hO => ?_) ?_
      · have h1 : (IntsP zs) (a.eval (.tmp 1)) W := old_is (v := u0) (hO 1 (by kernel_rfl)) (mono_at (mono_IntsP _) Hzs ((Ext.drew _).trans hx))
        exact yes_none rfl (do_move rfl h1)
      refine Steps.cons_ (step_mk (BytesP (encAll zs)) rfl fun a W hx hE hO => ?_) ?_
      · have h40 : (IntsP zs) (a.eval (.tmp 40)) W := hE 6 (by kernel_rfl) 40 rfl
        refine yes_none rfl (do_call rfl Try.func27 (by kernel_rfl) (by kernel_rfl) (args := #[a.eval (.tmp 40)]) (by simp only [List.map_toArray, List.map_cons, List.map_nil]) ?_)
        exact (rall_any W _ zs h40 Hzz.out (by omega)).mono fun e w' ⟨v', he, ho, hx⟩ => ⟨v', he, hx, ho.bs⟩
      refine Steps.cons_ (step_mk (Is (.string ⟨((encAll zs)).toArray⟩)) rfl fun a W hx hE hO => ?_) ?_
      · have h41 : (BytesP (encAll zs)) (a.eval (.tmp 41)) W := hE 7 (by kernel_rfl) 41 rfl
        refine yes_none rfl ?_
        exact do_string rfl Try.underlying22 Try.underlying5 Try.underlying9 h41 rfl
      refine Steps.cons_ (step_mk (Is (.string ⟨(bs ++ (encAll zs)).toArray⟩)) rfl fun a W hx hE hO => ?_) ?_
      · have h39 : a.eval (.tmp 39) = (.string ⟨(bs).toArray⟩) := hE 5 (by kernel_rfl) 39 rfl
        have h42 : a.eval (.tmp 42) = (.string ⟨((encAll zs)).toArray⟩) := hE 8 (by kernel_rfl) 42 rfl
        refine yes_none rfl ?_
        exact do_concat rfl h39 h42 (by have := encAll_len zs Hzz.out; omega) rfl
      refine Steps.cons_ (step_mk (Is (.bool true)) rfl fun a W hx hE hO => ?_) ?_
      · have h37 : a.eval (.tmp 37) = (.string ⟨((bs ++ encAll zs)).toArray⟩) := hE 3 (by kernel_rfl) 37 rfl
        have h43 : a.eval (.tmp 43) = (.string ⟨(bs ++ (encAll zs)).toArray⟩) := hE 9 (by kernel_rfl) 43 rfl
        exact yes_none rfl (do_bin (v := (.bool true)) rfl h37 h43 (by simp [go_sem]) rfl)
      refine Steps.cons_ (step_mk (Is (.bool true)) rfl fun a W hx hE hO => ?_) ?_
      · have h44 : a.eval (.tmp 44) = (.bool true) := hE 10 (by kernel_rfl) 44 rfl
        exact yes_none rfl (do_move rfl h44)
      refine Steps.cons_ (step_mk (IntsP (vaAll n bs).1) rfl fun a W hx hE hO => ?_) ?_
      · have h45 : a.eval (.tmp 45) = (.bool true) := hE 11 (by kernel_rfl) 45 rfl
        have h7 : (IntsP (vaAll n bs).1) (a.eval (.tmp 7)) W := old_is (v := l1) (hO 7 (by kernel_rfl)) (mono_at (mono_IntsP _) Hl1 ((Ext.drew _).trans hx))
        exact yes_is (j := 11) (d := 45) (b := true) rfl rfl h45 (do_move rfl h7)
      refine Steps.cons_ (step_mk (IntsP (vaAll n bs).1) rfl fun a W hx hE hO => ?_) ?_
      · have h45 : a.eval (.tmp 45) = (.bool true) := hE 11 (by kernel_rfl) 45 rfl
        have h10 : (IntsP (vaAll n bs).1) (a.eval (.tmp 10)) W := old_is (v := l2) (hO 10 (by kernel_rfl)) (mono_at (mono_IntsP _) Hl2 ((Ext.drew _).trans hx))
        exact yes_is (j := 11) (d := 45) (b := true) rfl rfl h45 (do_move rfl h10)
      refine Steps.cons_ (step_mk (Is (.bool true)) rfl fun a W hx hE hO => ?_) ?_
      · have h45 : a.eval (.tmp 45) = (.bool true) := hE 11 (by kernel_rfl) 45 rfl
        have h46 : (IntsP (vaAll n bs).1) (a.eval (.tmp 46)) W := hE 12 (by kernel_rfl) 46 rfl
        have h47 : (IntsP (vaAll n bs).1) (a.eval (.tmp 47)) W := hE 13 (by kernel_rfl) 47 rfl
        refine yes_is (j := 11) (d := 45) (b := true) rfl rfl h45 (do_call rfl Try.func28 (by kernel_rfl) (by kernel_rfl) (args := #[a.eval (.tmp 46), a.eval (.tmp 47)]) (by simp only [List.map_toArray, List.map_cons, List.map_nil]) ?_)
        exact (sameints_any W W.heap.size _ _ _ _ h46 h47).mono fun e w' ⟨he, hx⟩ => ⟨_, he, hx, by simp [Is]⟩
      refine Steps.cons_ (step_mk (Is (.bool true)) rfl fun a W hx hE hO => ?_) ?_
      · have h45 : a.eval (.tmp 45) = (.bool true) := hE 11 (by kernel_rfl) 45 rfl
        have h48 : a.eval (.tmp 48) = (.bool true) := hE 14 (by kernel_rfl) 48 rfl
        exact yes_none rfl (do_pick rfl h45 h48)
      refine Steps.cons_ (step_mk (Is (.bool true)) rfl fun a W hx hE hO => ?_) ?_
      · have h49 : a.eval (.tmp 49) = (.bool true) := hE 15 (by kernel_rfl) 49 rfl
        exact yes_none rfl (do_move rfl h49)
      refine Steps.cons_ (step_mk (BytesP (vaAll n bs).2.1) rfl fun a W hx hE hO => ?_) ?_
      · have h50 : a.eval (.tmp 50) = (.bool true) := hE 16 (by kernel_rfl) 50 rfl
        have h8 : (BytesP (vaAll n bs).2.1) (a.eval (.tmp 8)) W := old_is (v := r1) (hO 8 (by kernel_rfl)) (mono_at (mono_bytes _) Hr1 ((Ext.drew _).trans hx))
        exact yes_is (j := 16) (d := 50) (b := true) rfl rfl h50 (do_move rfl h8)
      refine Steps.cons_ (step_mk (Is (.string ⟨((vaAll n bs).2.1).toArray⟩)) rfl fun a W hx hE hO => ?_) ?_
      · have h50 : a.eval (.tmp 50) = (.bool true) := hE 16 (by kernel_rfl) 50 rfl
        have h51 : (BytesP (vaAll n bs).2.1) (a.eval (.tmp 51)) W := hE 17 (by kernel_rfl) 51 rfl
        refine yes_is (j := 16) (d := 50) (b := true) rfl rfl h50 ?_
        exact do_string rfl Try.underlying22 Try.underlying5 Try.underlying9 h51 rfl
      refine Steps.cons_ (step_mk (BytesP (vaAll n bs).2.1) rfl fun a W hx hE hO => ?_) ?_
      · have h50 : a.eval (.tmp 50) = (.bool true) := hE 16 (by kernel_rfl) 50 rfl
        have h11 : (BytesP (vaAll n bs).2.1) (a.eval (.tmp 11)) W := old_is (v := r2) (hO 11 (by kernel_rfl)) (mono_at (mono_bytes _) Hr2 ((Ext.drew _).trans hx))
        exact yes_is (j := 16) (d := 50) (b := true) rfl rfl h50 (do_move rfl h11)
      refine Steps.cons_ (step_mk (Is (.string ⟨((vaAll n bs).2.1).toArray⟩)) rfl fun a W hx hE hO => ?_) ?_
      · have h50 : a.eval (.tmp 50) = (.bool true) := hE 16 (by kernel_rfl) 50 rfl
        have h53 : (BytesP (vaAll n bs).2.1) (a.eval (.tmp 53)) W := hE 19 (by kernel_rfl) 53 rfl
        refine yes_is (j := 16) (d := 50) (b := true) rfl rfl h50 ?_
        exact do_string rfl Try.underlying22 Try.underlying5 Try.underlying9 h53 rfl
      refine Steps.cons_ (step_mk (Is (.bool true)) rfl fun a W hx hE hO => ?_) ?_
      · have h50 : a.eval (.tmp 50) = (.bool true) := hE 16 (by kernel_rfl) 50 rfl
        have h52 : a.eval (.tmp 52) = (.string ⟨((vaAll n bs).2.1).toArray⟩) := hE 18 (by kernel_rfl) 52 rfl
        have h54 : a.eval (.tmp 54) = (.string ⟨((vaAll n bs).2.1).toArray⟩) := hE 20 (by kernel_rfl) 54 rfl
        exact yes_is (j := 16) (d := 50) (b := true) rfl rfl h50 (do_bin (v := (.bool true)) rfl h52 h54 (by simp [go_sem]) rfl)
      refine Steps.cons_ (step_mk (Is (.bool true)) rfl fun a W hx hE hO => ?_) ?_
      · have h50 : a.eval (.tmp 50) = (.bool true) := hE 16 (by kernel_rfl) 50 rfl
        have h55 : a.eval (.tmp 55) = (.bool true) := hE 21 (by kernel_rfl) 55 rfl
        exact yes_none rfl (do_pick rfl h50 h55)
      refine Steps.cons_ (step_mk (Is (.bool true)) rfl fun a W hx hE hO => ?_) ?_
      · have h56 : a.eval (.tmp 56) = (.bool true) := hE 22 (by kernel_rfl) 56 rfl
        exact yes_none rfl (do_move rfl h56)
      refine Steps.cons_ (step_mk (Is (.int .i64 (vaAll n bs).2.2)) rfl fun a W hx hE hO => ?_) ?_
      · have h57 : a.eval (.tmp 57) = (.bool true) := hE 23 (by kernel_rfl) 57 rfl
        have h9 : a.eval (.tmp 9) = .int .i64 (vaAll n bs).2.2 := hO 9 (by kernel_rfl)
        exact yes_is (j := 23) (d := 57) (b := true) rfl rfl h57 (do_move rfl h9)
      refine Steps.cons_ (step_mk (Is (.int .i64 (vaAll n bs).2.2)) rfl fun a W hx hE hO => ?_) ?_
      · have h57 : a.eval (.tmp 57) = (.bool true) := hE 23 (by kernel_rfl) 57 rfl
        have h12 : a.eval (.tmp 12) = .int .i64 (vaAll n bs).2.2 := hO 12 (by kernel_rfl)
        exact yes_is (j := 23) (d := 57) (b := true) rfl rfl h57 (do_move rfl h12)
      refine Steps.cons_ (step_mk (Is (.bool true)) rfl fun a W hx hE hO => ?_) ?_
      · have h57 : a.eval (.tmp 57) = (.bool true) := hE 23 (by kernel_rfl) 57 rfl
        have h58 : a.eval (.tmp 58) = (.int .i64 (vaAll n bs).2.2) := hE 24 (by kernel_rfl) 58 rfl
        have h59 : a.eval (.tmp 59) = (.int .i64 (vaAll n bs).2.2) := hE 25 (by kernel_rfl) 59 rfl
        exact yes_is (j := 23) (d := 57) (b := true) rfl rfl h57 (do_bin (v := (.bool true)) rfl h58 h59 (by simp [go_sem]) rfl)
      refine Steps.cons_ (step_mk (Is (.bool true)) rfl fun a W hx hE hO => ?_) ?_
      · have h57 : a.eval (.tmp 57) = (.bool true) := hE 23 (by kernel_rfl) 57 rfl
        have h60 : a.eval (.tmp 60) = (.bool true) := hE 26 (by kernel_rfl) 60 rfl
        exact yes_none rfl (do_pick rfl h57 h60)
      refine Steps.cons_ (step_mk (Is (.bool true)) rfl fun a W hx hE hO => ?_) ?_
      · have h61 : a.eval (.tmp 61) = (.bool true) := hE 27 (by kernel_rfl) 61 rfl
        exact yes_none rfl (do_move rfl h61)
      refine Steps.cons_ (step_mk (Is (.bool true)) rfl fun a W hx hE hO => ?_) ?_
      · have h62 : a.eval (.tmp 62) = (.bool true) := hE 28 (by kernel_rfl) 62 rfl
        refine yes_is (j := 28) (d := 62) (b := true) rfl rfl h62 (do_call rfl Try.func14 (by kernel_rfl) (by kernel_rfl) (args := #[]) (by simp) ?_)
        exact (awake_any W).mono fun e w' ⟨he, hx⟩ => ⟨_, he, hx, rfl⟩
      refine Steps.cons_ (step_mk (Is (.bool true)) rfl fun a W hx hE hO => ?_) ?_
      · have h62 : a.eval (.tmp 62) = (.bool true) := hE 28 (by kernel_rfl) 62 rfl
        have h63 : a.eval (.tmp 63) = (.bool true) := hE 29 (by kernel_rfl) 63 rfl
        exact yes_none rfl (do_pick rfl h62 h63)
      refine Steps.cons_ (step_mk (Is (.bool true)) rfl fun a W hx hE hO => ?_) ?_
      · have h64 : a.eval (.tmp 64) = (.bool true) := hE 30 (by kernel_rfl) 64 rfl
        exact yes_none rfl (do_assign rfl h64)
      exact Steps.nil_
    · intro a W hx hd hE hO
      have h6 : a.eval (.tmp 6) = (.bool true) := hE 31 (of_decide_eq_true (by kernel_rfl)) 6 rfl
      go_wp2
      exact bodyPost_ret (results_tmp rfl _ _ _) hd ⟨congrArg Ending.returned h6, (hx1.trans hx2).trans hx⟩
  · obtain ⟨zs, hzs, hts, hzz⟩ : ∃ zs, IS w w.heap.size (.slice A zs0.length c) zs ∧ zs.length ≤ 20 ∧ (∀ z ∈ zs, I64 z) := ⟨zs0, Hu.out, by omega, fun z h => Hz0.out z h⟩
    have Hzz := Lib.hid hzz
    generalize (Value.slice A zs0.length c) = u0 at hzs
    clear hzz
    refine (getall_any w v0 bs n hb (by omega) hn).mono ?_
    rintro e w1 ⟨l1, r1, rfl, hl1, hr1, hx1⟩
    go_wp2_with fail
    refine (rgetall_any w1 v0 bs n ((hb.ext (Nat.le_refl _) hx1).more hx1.size) (by omega) hn).mono ?_
    rintro e w2 ⟨l2, r2, rfl, hl2, hr2, hx2⟩
    have Hb : BytesP bs v0 w2 := BytesP.of_bs (hb.ext (Nat.le_refl _) (hx1.trans hx2)) (hx1.trans hx2).size
    have Hr1 : BytesP (vaAll n bs).2.1 r1 w2 := mono_bytes _ _ _ _ (BytesP.of_bs hr1 (Nat.le_refl _)) hx2
    have Hr2 : BytesP (vaAll n bs).2.1 r2 w2 := BytesP.of_bs hr2 (Nat.le_refl _)
    have Hl1 : IntsP (vaAll n bs).1 l1 w2 := mono_IntsP _ _ _ _ hl1 hx2
    have Hl2 : IntsP (vaAll n bs).1 l2 w2 := hl2
    have Hzs : IntsP zs u0 w2 := mono_IntsP _ _ _ _ hzs (hx1.trans hx2)
    go_wp2_with fail
    refine wp_region_list [BytesP bs, IntsP zs, BytesP (bs ++ encAll zs), Is (.string ⟨((bs ++ encAll zs)).toArray⟩), BytesP bs, Is (.string ⟨(bs).toArray⟩), IntsP zs, BytesP (encAll zs), Is (.string ⟨((encAll zs)).toArray⟩), Is (.string ⟨(bs ++ (encAll zs)).toArray⟩), Is (.bool true), Is (.bool true), IntsP (vaAll n bs).1, IntsP (vaAll n bs).1, Is (.bool true), Is (.bool true), Is (.bool true), BytesP (vaAll n bs).2.1, Is (.string ⟨((vaAll n bs).2.1).toArray⟩), BytesP (vaAll n bs).2.1, Is (.string ⟨((vaAll n bs).2.1).toArray⟩), Is (.bool true), Is (.bool true), Is (.bool true), Is (.int .i64 (vaAll n bs).2.2), Is (.int .i64 (vaAll n bs).2.2), Is (.bool true), Is (.bool true), Is (.bool true), Is (.bool true), Is (.bool true), Is (.bool true)] (by kernel_rfl) (by kernel_rfl) (by kernel_rfl) ?_ (Steps.all ?_) ?_
    · intro p hp
      simp only [List.mem_cons, List.not_mem_nil, or_false] at hp
      rcases hp with rfl | rfl | rfl | rfl | rfl | rfl | rfl | rfl | rfl | rfl | rfl | rfl | rfl | rfl | rfl | rfl | rfl | rfl | rfl | rfl | rfl | rfl | rfl | rfl | rfl | rfl | rfl | rfl | rfl | rfl | rfl | rfl
      all_goals first | exact mono_bytes _ | exact mono_IntsP _ | exact mono_is _
    · refine Steps.cons_ (step_mk (BytesP bs) rfl fun a W hx hE hO => ?_) ?_
      · have h0 : (BytesP bs) (a.eval (.tmp 0)) W := old_is (v := v0) (hO 0 (by kernel_rfl)) (mono_at (mono_bytes _) Hb ((Ext.drew _).trans hx))
        exact yes_none rfl (do_move rfl h0)
      refine Steps.cons_ (step_mk (IntsP zs) rfl fun a W hx hE hO => ?_) ?_
      · have h1 : (IntsP zs) (a.eval (.tmp 1)) W := old_is (v := u0) (hO 1 (by kernel_rfl)) (mono_at (mono_IntsP _) Hzs ((Ext.drew _).trans hx))
        exact yes_none rfl (do_move rfl h1)
      refine Steps.cons_ (step_mk (BytesP (bs ++ encAll zs)) rfl fun a W hx hE hO => ?_) ?_
      · have h34 : (BytesP bs) (a.eval (.tmp 34)) W := hE 0 (by kernel_rfl) 34 rfl
        have h35 : (IntsP zs) (a.eval (.tmp 35)) W := hE 1 (by kernel_rfl) 35 rfl
        refine yes_none rfl (do_call rfl Try.func26 (by kernel_rfl) (by kernel_rfl) (args := #[a.eval (.tmp 34), a.eval (.tmp 35)]) (by simp only [List.map_toArray, List.map_cons, List.map_nil]) ?_)
        exact (putall_any W W.heap.size _ _ bs zs h34 h35 (Nat.le_refl _) (by omega) Hzz.out (by omega)).mono fun e w' ⟨v', he, ho, hx⟩ => ⟨v', he, hx, ho.bs⟩
      refine Steps.cons_ (step_mk (Is (.string ⟨((bs ++ encAll zs)).toArray⟩)) rfl fun a W hx hE hO => ?_) ?_
      · have h36 : (BytesP (bs ++ encAll zs)) (a.eval (.tmp 36)) W := hE 2 (by kernel_rfl) 36 rfl
        refine yes_none rfl ?_
        exact do_string rfl Try.underlying22 Try.underlying5 Try.underlying9 h36 rfl
      refine Steps.cons_ (step_mk (BytesP bs) rfl fun a W hx hE hO => ?_) ?_
      · have h0 : (BytesP bs) (a.eval (.tmp 0)) W := old_is (v := v0) (hO 0 (by kernel_rfl)) (mono_at (mono_bytes _) Hb ((Ext.drew _).trans hx))
        exact yes_none rfl (do_move rfl h0)
      refine Steps.cons_ (step_mk (Is (.string ⟨(bs).toArray⟩)) rfl fun a W hx hE hO => ?_) ?_
      · have h38 : (BytesP bs) (a.eval (.tmp 38)) W := hE 4 (by kernel_rfl) 38 rfl
        refine yes_none rfl ?_
        exact do_string rfl Try.underlying22 Try.underlying5 Try.underlying9 h38 rfl
      refine Steps.cons_ (step_mk (IntsP zs) rfl fun a W hx hE hO => ?_) ?_
      · have h1 : (IntsP zs) (a.eval (.tmp 1)) W := old_is (v := u0) (hO 1 (by kernel_rfl)) (mono_at (mono_IntsP _) Hzs ((Ext.drew _).trans hx))
        exact yes_none rfl (do_move rfl h1)
      refine Steps.cons_ (step_mk (BytesP (encAll zs)) rfl fun a W hx hE hO => ?_) ?_
      · have h40 : (IntsP zs) (a.eval (.tmp 40)) W := hE 6 (by kernel_rfl) 40 rfl
        refine yes_none rfl (do_call rfl Try.func27 (by kernel_rfl) (by kernel_rfl) (args := #[a.eval (.tmp 40)]) (by simp only [List.map_toArray, List.map_cons, List.map_nil]) ?_)
        exact (rall_any W _ zs h40 Hzz.out (by omega)).mono fun e w' ⟨v', he, ho, hx⟩ => ⟨v', he, hx, ho.bs⟩
      refine Steps.cons_ (step_mk (Is (.string ⟨((encAll zs)).toArray⟩)) rfl fun a W hx hE hO => ?_) ?_
      · have h41 : (BytesP (encAll zs)) (a.eval (.tmp 41)) W := hE 7 (by kernel_rfl) 41 rfl
        refine yes_none rfl ?_
        exact do_string rfl Try.underlying22 Try.underlying5 Try.underlying9 h41 rfl
      refine Steps.cons_ (step_mk (Is (.string ⟨(bs ++ (encAll zs)).toArray⟩)) rfl fun a W hx hE hO => ?_) ?_
      · have h39 : a.eval (.tmp 39) = (.string ⟨(bs).toArray⟩) := hE 5 (by kernel_rfl) 39 rfl
        have h42 : a.eval (.tmp 42) = (.string ⟨((encAll zs)).toArray⟩) := hE 8 (by kernel_rfl) 42 rfl
        refine yes_none rfl ?_
        exact do_concat rfl h39 h42 (by have := encAll_len zs Hzz.out; omega) rfl
      refine Steps.cons_ (step_mk (Is (.bool true)) rfl fun a W hx hE hO => ?_) ?_
      · have h37 : a.eval (.tmp 37) = (.string ⟨((bs ++ encAll zs)).toArray⟩) := hE 3 (by kernel_rfl) 37 rfl
        have h43 : a.eval (.tmp 43) = (.string ⟨(bs ++ (encAll zs)).toArray⟩) := hE 9 (by kernel_rfl) 43 rfl
        exact yes_none rfl (do_bin (v := (.bool true)) rfl h37 h43 (by simp [go_sem]) rfl)
      refine Steps.cons_ (step_mk (Is (.bool true)) rfl fun a W hx hE hO => ?_) ?_
      · have h44 : a.eval (.tmp 44) = (.bool true) := hE 10 (by kernel_rfl) 44 rfl
        exact yes_none rfl (do_move rfl h44)
      refine Steps.cons_ (step_mk (IntsP (vaAll n bs).1) rfl fun a W hx hE hO => ?_) ?_
      · have h45 : a.eval (.tmp 45) = (.bool true) := hE 11 (by kernel_rfl) 45 rfl
        have h7 : (IntsP (vaAll n bs).1) (a.eval (.tmp 7)) W := old_is (v := l1) (hO 7 (by kernel_rfl)) (mono_at (mono_IntsP _) Hl1 ((Ext.drew _).trans hx))
        exact yes_is (j := 11) (d := 45) (b := true) rfl rfl h45 (do_move rfl h7)
      refine Steps.cons_ (step_mk (IntsP (vaAll n bs).1) rfl fun a W hx hE hO => ?_) ?_
      · have h45 : a.eval (.tmp 45) = (.bool true) := hE 11 (by kernel_rfl) 45 rfl
        have h10 : (IntsP (vaAll n bs).1) (a.eval (.tmp 10)) W := old_is (v := l2) (hO 10 (by kernel_rfl)) (mono_at (mono_IntsP _) Hl2 ((Ext.drew _).trans hx))
        exact yes_is (j := 11) (d := 45) (b := true) rfl rfl h45 (do_move rfl h10)
      refine Steps.cons_ (step_mk (Is (.bool true)) rfl fun a W hx hE hO => ?_) ?_
      · have h45 : a.eval (.tmp 45) = (.bool true) := hE 11 (by kernel_rfl) 45 rfl
        have h46 : (IntsP (vaAll n bs).1) (a.eval (.tmp 46)) W := hE 12 (by kernel_rfl) 46 rfl
        have h47 : (IntsP (vaAll n bs).1) (a.eval (.tmp 47)) W := hE 13 (by kernel_rfl) 47 rfl
        refine yes_is (j := 11) (d := 45) (b := true) rfl rfl h45 (do_call rfl Try.func28 (by kernel_rfl) (by kernel_rfl) (args := #[a.eval (.tmp 46), a.eval (.tmp 47)]) (by simp only [List.map_toArray, List.map_cons, List.map_nil]) ?_)
        exact (sameints_any W W.heap.size _ _ _ _ h46 h47).mono fun e w' ⟨he, hx⟩ => ⟨_, he, hx, by simp [Is]⟩
      refine Steps.cons_ (step_mk (Is (.bool true)) rfl fun a W hx hE hO => ?_) ?_
      · have h45 : a.eval (.tmp 45) = (.bool true) := hE 11 (by kernel_rfl) 45 rfl
        have h48 : a.eval (.tmp 48) = (.bool true) := hE 14 (by kernel_rfl) 48 rfl
        exact yes_none rfl (do_pick rfl h45 h48)
      refine Steps.cons_ (step_mk (Is (.bool true)) rfl fun a W hx hE hO => ?_) ?_
      · have h49 : a.eval (.tmp 49) = (.bool true) := hE 15 (by kernel_rfl) 49 rfl
        exact yes_none rfl (do_move rfl h49)
      refine Steps.cons_ (step_mk (BytesP (vaAll n bs).2.1) rfl fun a W hx hE hO => ?_) ?_
      · have h50 : a.eval (.tmp 50) = (.bool true) := hE 16 (by kernel_rfl) 50 rfl
        have h8 : (BytesP (vaAll n bs).2.1) (a.eval (.tmp 8)) W := old_is (v := r1) (hO 8 (by kernel_rfl)) (mono_at (mono_bytes _) Hr1 ((Ext.drew _).trans hx))
        exact yes_is (j := 16) (d := 50) (b := true) rfl rfl h50 (do_move rfl h8)
      refine Steps.cons_ (step_mk (Is (.string ⟨((vaAll n bs).2.1).toArray⟩)) rfl fun a W hx hE hO => ?_) ?_
      · have h50 : a.eval (.tmp 50) = (.bool true) := hE 16 (by kernel_rfl) 50 rfl
        have h51 : (BytesP (vaAll n bs).2.1) (a.eval (.tmp 51)) W := hE 17 (by kernel_rfl) 51 rfl
        refine yes_is (j := 16) (d := 50) (b := true) rfl rfl h50 ?_
        exact do_string rfl Try.underlying22 Try.underlying5 Try.underlying9 h51 rfl
      refine Steps.cons_ (step_mk (BytesP (vaAll n bs).2.1) rfl fun a W hx hE hO => ?_) ?_
      · have h50 : a.eval (.tmp 50) = (.bool true) := hE 16 (by kernel_rfl) 50 rfl
        have h11 : (BytesP (vaAll n bs).2.1) (a.eval (.tmp 11)) W := old_is (v := r2) (hO 11 (by kernel_rfl)) (mono_at (mono_bytes _) Hr2 ((Ext.drew _).trans hx))
        exact yes_is (j := 16) (d := 50) (b := true) rfl rfl h50 (do_move rfl h11)
      refine Steps.cons_ (step_mk (Is (.string ⟨((vaAll n bs).2.1).toArray⟩)) rfl fun a W hx hE hO => ?_) ?_
      · have h50 : a.eval (.tmp 50) = (.bool true) := hE 16 (by kernel_rfl) 50 rfl
        have h53 : (BytesP (vaAll n bs).2.1) (a.eval (.tmp 53)) W := hE 19 (by kernel_rfl) 53 rfl
        refine yes_is (j := 16) (d := 50) (b := true) rfl rfl h50 ?_
        exact do_string rfl Try.underlying22 Try.underlying5 Try.underlying9 h53 rfl
      refine Steps.cons_ (step_mk (Is (.bool true)) rfl fun a W hx hE hO => ?_) ?_
      · have h50 : a.eval (.tmp 50) = (.bool true) := hE 16 (by kernel_rfl) 50 rfl
        have h52 : a.eval (.tmp 52) = (.string ⟨((vaAll n bs).2.1).toArray⟩) := hE 18 (by kernel_rfl) 52 rfl
        have h54 : a.eval (.tmp 54) = (.string ⟨((vaAll n bs).2.1).toArray⟩) := hE 20 (by kernel_rfl) 54 rfl
        exact yes_is (j := 16) (d := 50) (b := true) rfl rfl h50 (do_bin (v := (.bool true)) rfl h52 h54 (by simp [go_sem]) rfl)
      refine Steps.cons_ (step_mk (Is (.bool true)) rfl fun a W hx hE hO => ?_) ?_
      · have h50 : a.eval (.tmp 50) = (.bool true) := hE 16 (by kernel_rfl) 50 rfl
        have h55 : a.eval (.tmp 55) = (.bool true) := hE 21 (by kernel_rfl) 55 rfl
        exact yes_none rfl (do_pick rfl h50 h55)
      refine Steps.cons_ (step_mk (Is (.bool true)) rfl fun a W hx hE hO => ?_) ?_
      · have h56 : a.eval (.tmp 56) = (.bool true) := hE 22 (by kernel_rfl) 56 rfl
        exact yes_none rfl (do_move rfl h56)
      refine Steps.cons_ (step_mk (Is (.int .i64 (vaAll n bs).2.2)) rfl fun a W hx hE hO => ?_) ?_
      · have h57 : a.eval (.tmp 57) = (.bool true) := hE 23 (by kernel_rfl) 57 rfl
        have h9 : a.eval (.tmp 9) = .int .i64 (vaAll n bs).2.2 := hO 9 (by kernel_rfl)
        exact yes_is (j := 23) (d := 57) (b := true) rfl rfl h57 (do_move rfl h9)
      refine Steps.cons_ (step_mk (Is (.int .i64 (vaAll n bs).2.2)) rfl fun a W hx hE hO => ?_) ?_
      · have h57 : a.eval (.tmp 57) = (.bool true) := hE 23 (by kernel_rfl) 57 rfl
        have h12 : a.eval (.tmp 12) = .int .i64 (vaAll n bs).2.2 := hO 12 (by kernel_rfl)
        exact yes_is (j := 23) (d := 57) (b := true) rfl rfl h57 (do_move rfl h12)
      refine Steps.cons_ (step_mk (Is (.bool true)) rfl fun a W hx hE hO => ?_) ?_
      · have h57 : a.eval (.tmp 57) = (.bool true) := hE 23 (by kernel_rfl) 57 rfl
        have h58 : a.eval (.tmp 58) = (.int .i64 (vaAll n bs).2.2) := hE 24 (by kernel_rfl) 58 rfl
        have h59 : a.eval (.tmp 59) = (.int .i64 (vaAll n bs).2.2) := hE 25 (by kernel_rfl) 59 rfl
        exact yes_is (j := 23) (d := 57) (b := true) rfl rfl h57 (do_bin (v := (.bool true)) rfl h58 h59 (by simp [go_sem]) rfl)
      refine Steps.cons_ (step_mk (Is (.bool true)) rfl fun a W hx hE hO => ?_) ?_
      · have h57 : a.eval (.tmp 57) = (.bool true) := hE 23 (by kernel_rfl) 57 rfl
        have h60 : a.eval (.tmp 60) = (.bool true) := hE 26 (by kernel_rfl) 60 rfl
        exact yes_none rfl (do_pick rfl h57 h60)
      refine Steps.cons_ (step_mk (Is (.bool true)) rfl fun a W hx hE hO => ?_) ?_
      · have h61 : a.eval (.tmp 61) = (.bool true) := hE 27 (by kernel_rfl) 61 rfl
        exact yes_none rfl (do_move rfl h61)
      refine Steps.cons_ (step_mk (Is (.bool true)) rfl fun a W hx hE hO => ?_) ?_
      · have h62 : a.eval (.tmp 62) = (.bool true) := hE 28 (by kernel_rfl) 62 rfl
        refine yes_is (j := 28) (d := 62) (b := true) rfl rfl h62 (do_call rfl Try.func14 (by kernel_rfl) (by kernel_rfl) (args := #[]) (by simp) ?_)
        exact (awake_any W).mono fun e w' ⟨he, hx⟩ => ⟨_, he, hx, rfl⟩
      refine Steps.cons_ (step_mk (Is (.bool true)) rfl fun a W hx hE hO => ?_) ?_
      · have h62 : a.eval (.tmp 62) = (.bool true) := hE 28 (by kernel_rfl) 62 rfl
        have h63 : a.eval (.tmp 63) = (.bool true) := hE 29 (by kernel_rfl) 63 rfl
        exact yes_none rfl (do_pick rfl h62 h63)
      refine Steps.cons_ (step_mk (Is (.bool true)) rfl fun a W hx hE hO => ?_) ?_
      · have h64 : a.eval (.tmp 64) = (.bool true) := hE 30 (by kernel_rfl) 64 rfl
        exact yes_none rfl (do_assign rfl h64)
      exact Steps.nil_
    · intro a W hx hd hE hO
      have h6 : a.eval (.tmp 6) = (.bool true) := hE 31 (of_decide_eq_true (by kernel_rfl)) 6 rfl
      go_wp2
      exact bodyPost_ret (results_tmp rfl _ _ _) hd ⟨congrArg Ending.returned h6, (hx1.trans hx2).trans hx⟩

end Go.Proofs.Ytkjbbnlmoekilaa
