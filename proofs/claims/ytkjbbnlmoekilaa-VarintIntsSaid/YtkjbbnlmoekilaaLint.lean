/-
  VarintInts: the law's contract: whatever bytes and whole number come in, it answers true and leaves all old memory alone.
  Conditions: none.
-/
import Derived.Test.YtkjbbnlmoekilaaVg
namespace Go.Proofs.Ytkjbbnlmoekilaa
open Go.RowKit

set_option maxHeartbeats 4000000 in
set_option maxRecDepth 100000 in
theorem ints_any (w : World) (v : Value) (bs0 : List UInt8) (n : Int) (hv : BS w w.heap.size v bs0) (hn : I64 n) :
    Calls Try.prog 4 #[v, .int .i64 n] w fun e w' => e = .returned (.bool true) ∧ Ext w w' := by
  go_enter Try.func4, Try.ntmps4
  go_wp2_with fail
  refine (cut_any w _ v bs0 hv).mono ?_
  rintro e w' ⟨v0, rfl, hb, rfl⟩
  have hl : (bs0.take 60).length ≤ 1000000 := by rw [List.length_take]; omega
  generalize bs0.take 60 = bs at hb hl
  go_wp2_with fail
  refine (getint_any w _ v0 bs hb (Nat.le_refl _) hl).mono ?_
  rintro e w1 ⟨r1, rfl, hr1, hx1⟩
  go_wp2_with fail
  refine (rgetint_any w1 _ v0 bs (hb.ext (Nat.le_refl _) hx1) hx1.size hl).mono ?_
  rintro e w2 ⟨r2, rfl, hr2, hx2⟩
  have Hb : BytesP bs v0 w2 := BytesP.of_bs (hb.ext (Nat.le_refl _) (hx1.trans hx2)) (hx1.trans hx2).size
  have Hr1 : BytesP (vgRest bs) r1 w2 := BytesP.of_bs (hr1.ext hx1.size hx2) (hx1.trans hx2).size
  have Hr2 : BytesP (vgRest bs) r2 w2 := BytesP.of_bs hr2 (hx1.trans hx2).size
  go_wp2_with fail
  refine wp_region_list [BytesP bs, Is (.int .i64 n), BytesP (bs ++ enc (zig n)), Is (.string ⟨((bs ++ enc (zig n))).toArray⟩), BytesP bs, Is (.string ⟨(bs).toArray⟩), Is (.int .i64 n), BytesP (enc (zig n)), Is (.string ⟨((enc (zig n))).toArray⟩), Is (.string ⟨(bs ++ (enc (zig n))).toArray⟩), Is (.bool true), Is (.bool true), Is (.int .i64 (viN bs)), Is (.int .i64 (viN bs)), Is (.bool true), Is (.bool true), Is (.bool true), BytesP (vgRest bs), Is (.string ⟨((vgRest bs)).toArray⟩), BytesP (vgRest bs), Is (.string ⟨((vgRest bs)).toArray⟩), Is (.bool true), Is (.bool true), Is (.bool true), Is (.int .i64 (vgE bs)), Is (.int .i64 (vgE bs)), Is (.bool true), Is (.bool true), Is (.bool true), Is (.bool true), Is (.bool true), Is (.bool true)] (by kernel_rfl) (by kernel_rfl) (by kernel_rfl) ?_ (Steps.all ?_) ?_
  · intro p hp
    simp only [List.mem_cons, List.not_mem_nil, or_false] at hp
    rcases hp with rfl | rfl | rfl | rfl | rfl | rfl | rfl | rfl | rfl | rfl | rfl | rfl | rfl | rfl | rfl | rfl | rfl | rfl | rfl | rfl | rfl | rfl | rfl | rfl | rfl | rfl | rfl | rfl | rfl | rfl | rfl | rfl
    all_goals first | exact mono_bytes _ | exact mono_is _
  · refine Steps.cons_ (step_mk (BytesP bs) rfl fun a W hx hE hO => ?_) ?_
    · have h0 : (BytesP bs) (a.eval (.tmp 0)) W := old_is (v := v0) (hO 0 (by kernel_rfl)) (mono_at (mono_bytes _) Hb ((Ext.drew _).trans hx))
      exact yes_none rfl (do_move rfl h0)
    refine Steps.cons_ (step_mk (Is (.int .i64 n)) rfl fun a W hx hE hO => ?_) ?_
    · have h1 : a.eval (.tmp 1) = .int .i64 n := hO 1 (by kernel_rfl)
      exact yes_none rfl (do_move rfl h1)
    refine Steps.cons_ (step_mk (BytesP (bs ++ enc (zig n))) rfl fun a W hx hE hO => ?_) ?_
    · have h25 : (BytesP bs) (a.eval (.tmp 25)) W := hE 0 (by kernel_rfl) 25 rfl
      have h26 : a.eval (.tmp 26) = (.int .i64 n) := hE 1 (by kernel_rfl) 26 rfl
      refine yes_none rfl (do_call rfl Try.func17 (by kernel_rfl) (by kernel_rfl) (args := #[a.eval (.tmp 25), (.int .i64 n)]) (by simp only [List.map_toArray, List.map_cons, List.map_nil, h26]) ?_)
      exact (putint_any W _ _ bs n h25 (Nat.le_refl _) hl hn).mono fun e w' ⟨v', he, ho, hx⟩ => ⟨v', he, hx, ho.bs⟩
    refine Steps.cons_ (step_mk (Is (.string ⟨((bs ++ enc (zig n))).toArray⟩)) rfl fun a W hx hE hO => ?_) ?_
    · have h27 : (BytesP (bs ++ enc (zig n))) (a.eval (.tmp 27)) W := hE 2 (by kernel_rfl) 27 rfl
      refine yes_none rfl ?_
      exact do_string rfl Try.underlying22 Try.underlying5 Try.underlying9 h27 rfl
    refine Steps.cons_ (step_mk (BytesP bs) rfl fun a W hx hE hO => ?_) ?_
    · have h0 : (BytesP bs) (a.eval (.tmp 0)) W := old_is (v := v0) (hO 0 (by kernel_rfl)) (mono_at (mono_bytes _) Hb ((Ext.drew _).trans hx))
      exact yes_none rfl (do_move rfl h0)
    refine Steps.cons_ (step_mk (Is (.string ⟨(bs).toArray⟩)) rfl fun a W hx hE hO => ?_) ?_
    · have h29 : (BytesP bs) (a.eval (.tmp 29)) W := hE 4 (by kernel_rfl) 29 rfl
      refine yes_none rfl ?_
      exact do_string rfl Try.underlying22 Try.underlying5 Try.underlying9 h29 rfl
    refine Steps.cons_ (step_mk (Is (.int .i64 n)) rfl fun a W hx hE hO => ?_) ?_
    · have h1 : a.eval (.tmp 1) = .int .i64 n := hO 1 (by kernel_rfl)
      exact yes_none rfl (do_move rfl h1)
    refine Steps.cons_ (step_mk (BytesP (enc (zig n))) rfl fun a W hx hE hO => ?_) ?_
    · have h31 : a.eval (.tmp 31) = (.int .i64 n) := hE 6 (by kernel_rfl) 31 rfl
      refine yes_none rfl (do_call rfl Try.func18 (by kernel_rfl) (by kernel_rfl) (args := #[(.int .i64 n)]) (by simp only [List.map_toArray, List.map_cons, List.map_nil, h31]) ?_)
      exact (rint_any W n hn).mono fun e w' ⟨v', he, ho, hx⟩ => ⟨v', he, hx, ho.bs⟩
    refine Steps.cons_ (step_mk (Is (.string ⟨((enc (zig n))).toArray⟩)) rfl fun a W hx hE hO => ?_) ?_
    · have h32 : (BytesP (enc (zig n))) (a.eval (.tmp 32)) W := hE 7 (by kernel_rfl) 32 rfl
      refine yes_none rfl ?_
      exact do_string rfl Try.underlying22 Try.underlying5 Try.underlying9 h32 rfl
    refine Steps.cons_ (step_mk (Is (.string ⟨(bs ++ (enc (zig n))).toArray⟩)) rfl fun a W hx hE hO => ?_) ?_
    · have h30 : a.eval (.tmp 30) = (.string ⟨(bs).toArray⟩) := hE 5 (by kernel_rfl) 30 rfl
      have h33 : a.eval (.tmp 33) = (.string ⟨((enc (zig n))).toArray⟩) := hE 8 (by kernel_rfl) 33 rfl
      refine yes_none rfl ?_
      exact do_concat rfl h30 h33 (by have := enc_len10 (zig_64 hn); omega) rfl
    refine Steps.cons_ (step_mk (Is (.bool true)) rfl fun a W hx hE hO => ?_) ?_
    · have h28 : a.eval (.tmp 28) = (.string ⟨((bs ++ enc (zig n))).toArray⟩) := hE 3 (by kernel_rfl) 28 rfl
      have h34 : a.eval (.tmp 34) = (.string ⟨(bs ++ (enc (zig n))).toArray⟩) := hE 9 (by kernel_rfl) 34 rfl
      exact yes_none rfl (do_bin (v := (.bool true)) rfl h28 h34 (by simp [go_sem]) rfl)
    refine Steps.cons_ (step_mk (Is (.bool true)) rfl fun a W hx hE hO => ?_) ?_
    · have h35 : a.eval (.tmp 35) = (.bool true) := hE 10 (by kernel_rfl) 35 rfl
      exact yes_none rfl (do_move rfl h35)
    refine Steps.cons_ (step_mk (Is (.int .i64 (viN bs))) rfl fun a W hx hE hO => ?_) ?_
    · have h36 : a.eval (.tmp 36) = (.bool true) := hE 11 (by kernel_rfl) 36 rfl
      have h5 : a.eval (.tmp 5) = .int .i64 (viN bs) := hO 5 (by kernel_rfl)
      exact yes_is (j := 11) (d := 36) (b := true) rfl rfl h36 (do_move rfl h5)
    refine Steps.cons_ (step_mk (Is (.int .i64 (viN bs))) rfl fun a W hx hE hO => ?_) ?_
    · have h36 : a.eval (.tmp 36) = (.bool true) := hE 11 (by kernel_rfl) 36 rfl
      have h8 : a.eval (.tmp 8) = .int .i64 (viN bs) := hO 8 (by kernel_rfl)
      exact yes_is (j := 11) (d := 36) (b := true) rfl rfl h36 (do_move rfl h8)
    refine Steps.cons_ (step_mk (Is (.bool true)) rfl fun a W hx hE hO => ?_) ?_
    · have h36 : a.eval (.tmp 36) = (.bool true) := hE 11 (by kernel_rfl) 36 rfl
      have h37 : a.eval (.tmp 37) = (.int .i64 (viN bs)) := hE 12 (by kernel_rfl) 37 rfl
      have h38 : a.eval (.tmp 38) = (.int .i64 (viN bs)) := hE 13 (by kernel_rfl) 38 rfl
      exact yes_is (j := 11) (d := 36) (b := true) rfl rfl h36 (do_bin (v := (.bool true)) rfl h37 h38 (by simp [go_sem]) rfl)
    refine Steps.cons_ (step_mk (Is (.bool true)) rfl fun a W hx hE hO => ?_) ?_
    · have h36 : a.eval (.tmp 36) = (.bool true) := hE 11 (by kernel_rfl) 36 rfl
      have h39 : a.eval (.tmp 39) = (.bool true) := hE 14 (by kernel_rfl) 39 rfl
      exact yes_none rfl (do_pick rfl h36 h39)
    refine Steps.cons_ (step_mk (Is (.bool true)) rfl fun a W hx hE hO => ?_) ?_
    · have h40 : a.eval (.tmp 40) = (.bool true) := hE 15 (by kernel_rfl) 40 rfl
      exact yes_none rfl (do_move rfl h40)
    refine Steps.cons_ (step_mk (BytesP (vgRest bs)) rfl fun a W hx hE hO => ?_) ?_
    · have h41 : a.eval (.tmp 41) = (.bool true) := hE 16 (by kernel_rfl) 41 rfl
      have h6 : (BytesP (vgRest bs)) (a.eval (.tmp 6)) W := old_is (v := r1) (hO 6 (by kernel_rfl)) (mono_at (mono_bytes _) Hr1 ((Ext.drew _).trans hx))
      exact yes_is (j := 16) (d := 41) (b := true) rfl rfl h41 (do_move rfl h6)
    refine Steps.cons_ (step_mk (Is (.string ⟨((vgRest bs)).toArray⟩)) rfl fun a W hx hE hO => ?_) ?_
    · have h41 : a.eval (.tmp 41) = (.bool true) := hE 16 (by kernel_rfl) 41 rfl
      have h42 : (BytesP (vgRest bs)) (a.eval (.tmp 42)) W := hE 17 (by kernel_rfl) 42 rfl
      refine yes_is (j := 16) (d := 41) (b := true) rfl rfl h41 ?_
      exact do_string rfl Try.underlying22 Try.underlying5 Try.underlying9 h42 rfl
    refine Steps.cons_ (step_mk (BytesP (vgRest bs)) rfl fun a W hx hE hO => ?_) ?_
    · have h41 : a.eval (.tmp 41) = (.bool true) := hE 16 (by kernel_rfl) 41 rfl
      have h9 : (BytesP (vgRest bs)) (a.eval (.tmp 9)) W := old_is (v := r2) (hO 9 (by kernel_rfl)) (mono_at (mono_bytes _) Hr2 ((Ext.drew _).trans hx))
      exact yes_is (j := 16) (d := 41) (b := true) rfl rfl h41 (do_move rfl h9)
    refine Steps.cons_ (step_mk (Is (.string ⟨((vgRest bs)).toArray⟩)) rfl fun a W hx hE hO => ?_) ?_
    · have h41 : a.eval (.tmp 41) = (.bool true) := hE 16 (by kernel_rfl) 41 rfl
      have h44 : (BytesP (vgRest bs)) (a.eval (.tmp 44)) W := hE 19 (by kernel_rfl) 44 rfl
      refine yes_is (j := 16) (d := 41) (b := true) rfl rfl h41 ?_
      exact do_string rfl Try.underlying22 Try.underlying5 Try.underlying9 h44 rfl
    refine Steps.cons_ (step_mk (Is (.bool true)) rfl fun a W hx hE hO => ?_) ?_
    · have h41 : a.eval (.tmp 41) = (.bool true) := hE 16 (by kernel_rfl) 41 rfl
      have h43 : a.eval (.tmp 43) = (.string ⟨((vgRest bs)).toArray⟩) := hE 18 (by kernel_rfl) 43 rfl
      have h45 : a.eval (.tmp 45) = (.string ⟨((vgRest bs)).toArray⟩) := hE 20 (by kernel_rfl) 45 rfl
      exact yes_is (j := 16) (d := 41) (b := true) rfl rfl h41 (do_bin (v := (.bool true)) rfl h43 h45 (by simp [go_sem]) rfl)
    refine Steps.cons_ (step_mk (Is (.bool true)) rfl fun a W hx hE hO => ?_) ?_
    · have h41 : a.eval (.tmp 41) = (.bool true) := hE 16 (by kernel_rfl) 41 rfl
      have h46 : a.eval (.tmp 46) = (.bool true) := hE 21 (by kernel_rfl) 46 rfl
      exact yes_none rfl (do_pick rfl h41 h46)
    refine Steps.cons_ (step_mk (Is (.bool true)) rfl fun a W hx hE hO => ?_) ?_
    · have h47 : a.eval (.tmp 47) = (.bool true) := hE 22 (by kernel_rfl) 47 rfl
      exact yes_none rfl (do_move rfl h47)
    refine Steps.cons_ (step_mk (Is (.int .i64 (vgE bs))) rfl fun a W hx hE hO => ?_) ?_
    · have h48 : a.eval (.tmp 48) = (.bool true) := hE 23 (by kernel_rfl) 48 rfl
      have h7 : a.eval (.tmp 7) = .int .i64 (vgE bs) := hO 7 (by kernel_rfl)
      exact yes_is (j := 23) (d := 48) (b := true) rfl rfl h48 (do_move rfl h7)
    refine Steps.cons_ (step_mk (Is (.int .i64 (vgE bs))) rfl fun a W hx hE hO => ?_) ?_
    · have h48 : a.eval (.tmp 48) = (.bool true) := hE 23 (by kernel_rfl) 48 rfl
      have h10 : a.eval (.tmp 10) = .int .i64 (vgE bs) := hO 10 (by kernel_rfl)
      exact yes_is (j := 23) (d := 48) (b := true) rfl rfl h48 (do_move rfl h10)
    refine Steps.cons_ (step_mk (Is (.bool true)) rfl fun a W hx hE hO => ?_) ?_
    · have h48 : a.eval (.tmp 48) = (.bool true) := hE 23 (by kernel_rfl) 48 rfl
      have h49 : a.eval (.tmp 49) = (.int .i64 (vgE bs)) := hE 24 (by kernel_rfl) 49 rfl
      have h50 : a.eval (.tmp 50) = (.int .i64 (vgE bs)) := hE 25 (by kernel_rfl) 50 rfl
      exact yes_is (j := 23) (d := 48) (b := true) rfl rfl h48 (do_bin (v := (.bool true)) rfl h49 h50 (by simp [go_sem]) rfl)
    refine Steps.cons_ (step_mk (Is (.bool true)) rfl fun a W hx hE hO => ?_) ?_
    · have h48 : a.eval (.tmp 48) = (.bool true) := hE 23 (by kernel_rfl) 48 rfl
      have h51 : a.eval (.tmp 51) = (.bool true) := hE 26 (by kernel_rfl) 51 rfl
      exact yes_none rfl (do_pick rfl h48 h51)
    refine Steps.cons_ (step_mk (Is (.bool true)) rfl fun a W hx hE hO => ?_) ?_
    · have h52 : a.eval (.tmp 52) = (.bool true) := hE 27 (by kernel_rfl) 52 rfl
      exact yes_none rfl (do_move rfl h52)
    refine Steps.cons_ (step_mk (Is (.bool true)) rfl fun a W hx hE hO => ?_) ?_
    · have h53 : a.eval (.tmp 53) = (.bool true) := hE 28 (by kernel_rfl) 53 rfl
      refine yes_is (j := 28) (d := 53) (b := true) rfl rfl h53 (do_call rfl Try.func14 (by kernel_rfl) (by kernel_rfl) (args := #[]) (by simp) ?_)
      exact (awake_any W).mono fun e w' ⟨he, hx⟩ => ⟨_, he, hx, rfl⟩
    refine Steps.cons_ (step_mk (Is (.bool true)) rfl fun a W hx hE hO => ?_) ?_
    · have h53 : a.eval (.tmp 53) = (.bool true) := hE 28 (by kernel_rfl) 53 rfl
      have h54 : a.eval (.tmp 54) = (.bool true) := hE 29 (by kernel_rfl) 54 rfl
      exact yes_none rfl (do_pick rfl h53 h54)
    refine Steps.cons_ (step_mk (Is (.bool true)) rfl fun a W hx hE hO => ?_) ?_
    · have h55 : a.eval (.tmp 55) = (.bool true) := hE 30 (by kernel_rfl) 55 rfl
      exact yes_none rfl (do_assign rfl h55)
    exact Steps.nil_
  · intro a W hx hd hE hO
    have h4 : a.eval (.tmp 4) = (.bool true) := hE 31 (of_decide_eq_true (by kernel_rfl)) 4 rfl
    go_wp2
    exact bodyPost_ret (results_tmp rfl _ _ _) hd ⟨congrArg Ending.returned h4, (hx1.trans hx2).trans hx⟩

end Go.Proofs.Ytkjbbnlmoekilaa
