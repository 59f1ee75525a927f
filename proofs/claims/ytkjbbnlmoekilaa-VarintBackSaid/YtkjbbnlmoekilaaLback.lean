/-
  VarintBack: the law's contract: it answers true and leaves all old memory alone.
  Conditions: none.
-/
import Derived.Test.YtkjbbnlmoekilaaVg
import Derived.Test.YtkjbbnlmoekilaaVh
import Derived.Test.YtkjbbnlmoekilaaVq
namespace Go.Proofs.Ytkjbbnlmoekilaa
open Go.RowKit

theorem vi_enc {m : Int} (hm : I64 m) (r : List UInt8) : viN (enc (zig m) ++ r) = m := by
  obtain ⟨h1, h2, _⟩ := vg_enc (zig_64 hm) r
  rw [viN_ok h2, h1, zag_zig]
theorem vt_enc {s : List UInt8} (hs : s.length ≤ 300) (r : List UInt8) : vtE (enc s.length ++ s ++ r) 300 = 0 ∧ vtS (enc s.length ++ s ++ r) 300 = s ∧ vtRest (enc s.length ++ s ++ r) 300 = r := by
  rw [List.append_assoc]
  obtain ⟨h1, h2, h3⟩ := vg_enc (n := s.length) (U64.mk (by omega)) (s ++ r)
  have hE : vtE (enc s.length ++ (s ++ r)) 300 = 0 := by
    unfold vtE
    rw [h1, h2, h3, if_neg (by simp), if_neg (by omega), if_neg (by simp)]
  refine ⟨hE, ?_, ?_⟩
  · unfold vtS
    rw [if_pos hE, h1, h3]
    simp
  · unfold vtRest
    rw [if_pos hE, h1, h3]
    simp

/-- the number of what was put -/
theorem get_put (w : World) (B : Nat) (v : Value) (n : Nat) (bs : List UInt8) (hn : U64 n) (h : BS w B v (enc n ++ bs)) (hB : B ≤ w.heap.size) (hl : bs.length ≤ 60) :
    Calls Try.prog 9 #[v] w fun e w' => ∃ r, e = .returned (.tuple #[.int .u64 n, r, .int .i64 0]) ∧ BS w' B r bs ∧ Ext w w' := by
  have hg := get_any w B v _ h hB (by have := enc_len10 hn; rw [List.length_append]; omega)
  obtain ⟨h1, h2, h3⟩ := vg_enc hn bs
  rw [h1, h2, h3] at hg
  exact hg
theorem getint_put (w : World) (B : Nat) (v : Value) (n : Int) (bs : List UInt8) (hn : I64 n) (h : BS w B v (enc (zig n) ++ bs)) (hB : B ≤ w.heap.size) (hl : bs.length ≤ 60) :
    Calls Try.prog 15 #[v] w fun e w' => ∃ r, e = .returned (.tuple #[.int .i64 n, r, .int .i64 0]) ∧ BS w' B r bs ∧ Ext w w' := by
  have hg := getint_any w B v _ h hB (by have := enc_len10 (zig_64 hn); rw [List.length_append]; omega)
  obtain ⟨h1, h2, h3⟩ := vg_enc (zig_64 hn) bs
  rw [vi_enc hn, h2, h3] at hg
  exact hg
theorem gettext_put (w : World) (B : Nat) (v : Value) (s : ByteArray) (bs : List UInt8) (hs : s.size ≤ 300) (h : BS w B v (enc s.size ++ sl s ++ bs)) (hB : B ≤ w.heap.size) (hl : bs.length ≤ 60) :
    Calls Try.prog 19 #[v, .int .i64 300] w fun e w' => ∃ r, e = .returned (.tuple #[.string s, r, .int .i64 0]) ∧ BS w' B r bs ∧ Ext w w' := by
  have hg := gettext_any w B v _ 300 h hB (by have := enc_len10 (n := s.size) (U64.mk (by omega)); rw [List.length_append, List.length_append, sl_len]; omega) ⟨by decide, by decide⟩
  obtain ⟨h1, h2, h3⟩ := vt_enc (s := sl s) (by rw [sl_len]; omega) bs
  rw [sl_len] at h1 h2 h3
  rw [h1, h2, h3, sl_str] at hg
  exact hg
theorem get_cut (w : World) (B : Nat) (v : Value) (n j : Nat) (hn : U64 n) (hj : j < (enc n).length) (h : BS w B v ((enc n).take j)) (hB : B ≤ w.heap.size) :
    Calls Try.prog 9 #[v] w fun e w' => ∃ a r, e = .returned (.tuple #[.int .u64 a, r, .int .i64 6]) ∧ Ext w w' := by
  have hg := get_any w B v _ h hB (by have := enc_len10 hn; rw [List.length_take]; omega)
  rw [vg_cut hn hj] at hg
  refine hg.mono ?_
  rintro e w' ⟨r, he, _, hx⟩
  exact ⟨_, r, he, hx⟩
theorem put_nil (w : World) (n : Nat) (hn : U64 n) : Calls Try.prog 11 #[.slice none 0 0, .int .u64 n] w fun e w' => ∃ v', e = .returned v' ∧ Own w' w.heap.size v' (enc n) ∧ Ext w w' :=
  put_any w w.heap.size _ [] n (BS.nil_ _ _) (Nat.le_refl _) (by simp) hn
theorem putint_nil (w : World) (n : Int) (hn : I64 n) : Calls Try.prog 17 #[.slice none 0 0, .int .i64 n] w fun e w' => ∃ v', e = .returned v' ∧ Own w' w.heap.size v' (enc (zig n)) ∧ Ext w w' :=
  putint_any w w.heap.size _ [] n (BS.nil_ _ _) (Nat.le_refl _) (by simp) hn
theorem puttext_nil (w : World) (s : ByteArray) (hs : s.size ≤ 300) : Calls Try.prog 21 #[.slice none 0 0, .string s] w fun e w' => ∃ v', e = .returned v' ∧ Own w' w.heap.size v' (enc s.size ++ sl s) ∧ Ext w w' :=
  puttext_any w w.heap.size _ [] s (BS.nil_ _ _) (Nat.le_refl _) (by simp) (by omega)

set_option maxHeartbeats 8000000 in
set_option maxRecDepth 100000 in
theorem back_law (w : World) (v : Value) (bs0 : List UInt8) (n : Nat) (m : Int) (s : ByteArray) (hv : BS w w.heap.size v bs0) (hn : U64 n) (hm : I64 m) :
    Calls Try.prog 6 #[v, .int .u64 n, .int .i64 m, .string s] w fun e w' => e = .returned (.bool true) ∧ Ext w w' := by
  by_cases hs : 300 < s.size
  all_goals go_enter Try.func6, Try.ntmps6
  all_goals go_wp2_with fail
  all_goals refine (cut_any w _ v bs0 hv).mono ?_
  all_goals rintro e w' ⟨v0, rfl, hb, rfl⟩
  all_goals have hl : (bs0.take 60).length ≤ 60 := by rw [List.length_take]; omega
  all_goals generalize bs0.take 60 = bs at hb hl
  all_goals go_wp2_with fail
  · obtain ⟨t, ht, hts⟩ : ∃ t, t = s.extract 0 300 ∧ t.size ≤ 300 := ⟨_, rfl, by rw [ByteArray.size_extract]; omega⟩
    rw [← ht]
    clear ht hs
    refine (put_nil w n hn).mono ?_
    rintro e w1 ⟨x, rfl, hx1, e1⟩
    have b1 := (hb.ext (Nat.le_refl _) e1).more e1.size
    go_wp2_with fail
    refine (join_any w1 w1.heap.size _ _ (enc n) bs hx1.bs b1 (Nat.le_refl _) (by have := enc_len10 hn; omega)).mono ?_
    rintro e w2 ⟨j1, rfl, hj1, e2⟩
    go_wp2_with fail
    refine (get_put w2 w2.heap.size _ n bs hn hj1.bs (Nat.le_refl _) hl).mono ?_
    rintro e w3 ⟨r1, rfl, hr1, e3⟩
    have b3 := (b1.ext (Nat.le_refl _) (e2.trans e3)).more (e2.trans e3).size
    have hr1 := hr1.more e3.size
    go_wp2_with fail
    refine (putint_nil w3 m hm).mono ?_
    rintro e w4 ⟨y, rfl, hy, e4⟩
    have b4 := (b3.ext (Nat.le_refl _) e4).more e4.size
    go_wp2_with fail
    refine (join_any w4 w4.heap.size _ _ (enc (zig m)) bs hy.bs b4 (Nat.le_refl _) (by have := enc_len10 (zig_64 hm); omega)).mono ?_
    rintro e w5 ⟨j2, rfl, hj2, e5⟩
    go_wp2_with fail
    refine (getint_put w5 w5.heap.size _ m bs hm hj2.bs (Nat.le_refl _) hl).mono ?_
    rintro e w6 ⟨r2, rfl, hr2, e6⟩
    have b6 := (b4.ext (Nat.le_refl _) (e5.trans e6)).more (e5.trans e6).size
    have hr2 := hr2.more e6.size
    go_wp2_with fail
    refine (puttext_nil w6 t hts).mono ?_
    rintro e w7 ⟨z, rfl, hz, e7⟩
    have b7 := (b6.ext (Nat.le_refl _) e7).more e7.size
    go_wp2_with fail
    refine (join_any w7 w7.heap.size _ _ (enc t.size ++ sl t) bs hz.bs b7 (Nat.le_refl _) (by have := enc_len10 (n := t.size) (U64.mk (by omega)); rw [List.length_append, sl_len]; omega)).mono ?_
    rintro e w8 ⟨j3, rfl, hj3, e8⟩
    go_wp2_with fail
    refine (gettext_put w8 w8.heap.size _ t bs hts hj3.bs (Nat.le_refl _) hl).mono ?_
    rintro e w9 ⟨r3, rfl, hr3, e9⟩
    have hr3 := hr3.more e9.size
    have b9 := (b7.ext (Nat.le_refl _) (e8.trans e9)).more (e8.trans e9).size
    have e79 := e7.trans (e8.trans e9)
    have e49 := (e4.trans (e5.trans e6)).trans e79
    have E9 := (e1.trans (e2.trans e3)).trans e49
    have s0 := str_of_bs b9 _ rfl
    have s1 := str_of_bs (hr1.ext (Nat.le_refl _) e49) _ rfl
    have s2 := str_of_bs (hr2.ext (Nat.le_refl _) e79) _ rfl
    have s3 := str_of_bs hr3 _ rfl
    have hx9 := Lib.hid ((hx1.ext (e2.trans (e3.trans e49))).bs)
    clear b1 b3 b4 b6 b7 hr1 hr2 hr3 hj1 hj2 hj3 hy hz hx1
    have hne : (enc n).length ≤ 10 := enc_len10 hn
    obtain ⟨A, c, rfl, hxc, hxm, hxrest⟩ := hx9.out
    clear hxrest hxm
    have Hx := Lib.hid hx9.out
    clear hx9
    go_wp2_with fail
    clear s0 s1 s2 s3
    go_loopw [19] (fun i wr => ∃ k : Nat, i = .int .i64 k ∧ k ≤ (enc n).length ∧ Ext w9 wr) (fun i _ => (enc n).length - (intOf i).toNat)
    case atStart => exact ⟨0, rfl, Nat.zero_le _, Below.refl _ _⟩
    case round =>
      obtain ⟨k, rfl, hk, hxr⟩ := hrel
      by_cases hlt : k < (enc n).length
      · go_wp2_with fail
        refine (get_cut wr w9.heap.size _ n k hn hlt ((Hx.out.take_ (by omega)).ext (Nat.le_refl _) hxr) hxr.size).mono ?_
        rintro e wa ⟨a, ra, rfl, ea⟩
        go_wp2
        go_roundw
        case rel => exact ⟨k + 1, by go_num, by omega, hxr.trans ea⟩
        case measure => simp [intOf]; omega
      · have b10 := (b9.ext (Nat.le_refl _) hxr).more hxr.size
        go_wp2_with fail
        refine (get_any wr wr.heap.size _ bs b10 (Nat.le_refl _) (by omega)).mono ?_
        rintro e wb ⟨rb, rfl, hrb, eb⟩
        have Hb : BytesP bs v0 wb := BytesP.of_bs (b10.ext (Nat.le_refl _) eb) eb.size
        have Hr : BytesP (vgRest bs) rb wb := BytesP.of_bs hrb eb.size
        by_cases h0 : vgE bs = 0
        · have H0 := Lib.hid h0
          clear h0
          go_wp2_with fail
          refine wp_region_list [Is (.int .i64 (vgE bs)), Is (.bool false), Is (.bool false), Is (.int .u64 (vgN bs)), BytesP (enc (vgN bs)), BytesP (vgRest bs), BytesP bs, Is (.string ⟨(bs).toArray⟩), BytesP bs, Is (.string ⟨(bs).toArray⟩), Is (.bool true), Is (.bool true), Is (.bool true), Is (.bool true), Is (.bool true), Is (.bool true)] (by kernel_rfl) (by kernel_rfl) (by kernel_rfl) ?_ (Steps.all ?_) ?_
          · intro p hp
            simp only [List.mem_cons, List.not_mem_nil, or_false] at hp
            rcases hp with rfl | rfl | rfl | rfl | rfl | rfl | rfl | rfl | rfl | rfl | rfl | rfl | rfl | rfl | rfl | rfl
            all_goals first | exact mono_is _ | exact mono_bytes _
          · refine Steps.cons_ (step_mk (Is (.int .i64 (vgE bs))) rfl fun a W hx hE hO => ?_) ?_
            · have h25 : a.eval (.tmp 25) = .int .i64 (vgE bs) := hO 25 (by kernel_rfl)
              exact yes_none rfl (do_move rfl h25)
            refine Steps.cons_ (step_mk (Is (.bool false)) rfl fun a W hx hE hO => ?_) ?_
            · have h129 : a.eval (.tmp 129) = (.int .i64 (vgE bs)) := hE 0 (by kernel_rfl) 129 rfl
              refine yes_none rfl ?_
              exact do_bin (v := .bool false) rfl h129 rfl (by simp [go_sem, H0.out]) rfl
            refine Steps.cons_ (step_mk (Is (.bool false)) rfl fun a W hx hE hO => ?_) ?_
            · have h130 : a.eval (.tmp 130) = (.bool false) := hE 1 (by kernel_rfl) 130 rfl
              exact yes_none rfl (do_move rfl h130)
            refine Steps.cons_ (step_mk (Is (.int .u64 (vgN bs))) rfl fun a W hx hE hO => ?_) ?_
            · have h131 : a.eval (.tmp 131) = (.bool false) := hE 2 (by kernel_rfl) 131 rfl
              have h23 : a.eval (.tmp 23) = .int .u64 (vgN bs) := hO 23 (by kernel_rfl)
              exact yes_is (j := 2) (d := 131) (b := false) rfl rfl h131 (do_move rfl h23)
            refine Steps.cons_ (step_mk (BytesP (enc (vgN bs))) rfl fun a W hx hE hO => ?_) ?_
            · have h131 : a.eval (.tmp 131) = (.bool false) := hE 2 (by kernel_rfl) 131 rfl
              have h132 : a.eval (.tmp 132) = (.int .u64 (vgN bs)) := hE 3 (by kernel_rfl) 132 rfl
              refine yes_is (j := 2) (d := 131) (b := false) rfl rfl h131 (do_call rfl Try.func11 (by kernel_rfl) (by kernel_rfl) (args := #[(Value.slice none 0 0), (.int .u64 (vgN bs))]) (by simp only [List.map_toArray, List.map_cons, List.map_nil, h132, evc]) ?_)
              exact (put_nil W (vgN bs) (vgN_64 bs)).mono fun e w' ⟨v', he, ho, hx⟩ => ⟨v', he, hx, ho.bs⟩
            refine Steps.cons_ (step_mk (BytesP (vgRest bs)) rfl fun a W hx hE hO => ?_) ?_
            · have h131 : a.eval (.tmp 131) = (.bool false) := hE 2 (by kernel_rfl) 131 rfl
              have h24 : (BytesP (vgRest bs)) (a.eval (.tmp 24)) W := old_is (v := rb) (hO 24 (by kernel_rfl)) (mono_at (mono_bytes _) Hr ((Ext.drew _).trans hx))
              exact yes_is (j := 2) (d := 131) (b := false) rfl rfl h131 (do_move rfl h24)
            refine Steps.cons_ (step_mk (BytesP bs) rfl fun a W hx hE hO => ?_) ?_
            · have h131 : a.eval (.tmp 131) = (.bool false) := hE 2 (by kernel_rfl) 131 rfl
              have h133 : (BytesP (enc (vgN bs))) (a.eval (.tmp 133)) W := hE 4 (by kernel_rfl) 133 rfl
              have h134 : (BytesP (vgRest bs)) (a.eval (.tmp 134)) W := hE 5 (by kernel_rfl) 134 rfl
              refine yes_is (j := 2) (d := 131) (b := false) rfl rfl h131 (do_call rfl Try.func23 (by kernel_rfl) (by kernel_rfl) (args := #[a.eval (.tmp 133), a.eval (.tmp 134)]) (by simp only [List.map_toArray, List.map_cons, List.map_nil]) ?_)
              exact (join_any W W.heap.size _ _ (enc (vgN bs)) (vgRest bs) h133 h134 (Nat.le_refl _) (by have := enc_len10 (vgN_64 bs); have := vgRest_len bs; omega)).mono fun e w' ⟨v', he, ho, hx⟩ => ⟨v', he, hx, by rw [vg_back H0.out] at ho; exact ho.bs⟩
            refine Steps.cons_ (step_mk (Is (.string ⟨(bs).toArray⟩)) rfl fun a W hx hE hO => ?_) ?_
            · have h131 : a.eval (.tmp 131) = (.bool false) := hE 2 (by kernel_rfl) 131 rfl
              have h135 : (BytesP bs) (a.eval (.tmp 135)) W := hE 6 (by kernel_rfl) 135 rfl
              refine yes_is (j := 2) (d := 131) (b := false) rfl rfl h131 ?_
              exact do_string rfl Try.underlying22 Try.underlying5 Try.underlying9 h135 rfl
            refine Steps.cons_ (step_mk (BytesP bs) rfl fun a W hx hE hO => ?_) ?_
            · have h131 : a.eval (.tmp 131) = (.bool false) := hE 2 (by kernel_rfl) 131 rfl
              have h0 : (BytesP bs) (a.eval (.tmp 0)) W := old_is (v := v0) (hO 0 (by kernel_rfl)) (mono_at (mono_bytes _) Hb ((Ext.drew _).trans hx))
              exact yes_is (j := 2) (d := 131) (b := false) rfl rfl h131 (do_move rfl h0)
            refine Steps.cons_ (step_mk (Is (.string ⟨(bs).toArray⟩)) rfl fun a W hx hE hO => ?_) ?_
            · have h131 : a.eval (.tmp 131) = (.bool false) := hE 2 (by kernel_rfl) 131 rfl
              have h137 : (BytesP bs) (a.eval (.tmp 137)) W := hE 8 (by kernel_rfl) 137 rfl
              refine yes_is (j := 2) (d := 131) (b := false) rfl rfl h131 ?_
              exact do_string rfl Try.underlying22 Try.underlying5 Try.underlying9 h137 rfl
            refine Steps.cons_ (step_mk (Is (.bool true)) rfl fun a W hx hE hO => ?_) ?_
            · have h131 : a.eval (.tmp 131) = (.bool false) := hE 2 (by kernel_rfl) 131 rfl
              have h136 : a.eval (.tmp 136) = (.string ⟨(bs).toArray⟩) := hE 7 (by kernel_rfl) 136 rfl
              have h138 : a.eval (.tmp 138) = (.string ⟨(bs).toArray⟩) := hE 9 (by kernel_rfl) 138 rfl
              exact yes_is (j := 2) (d := 131) (b := false) rfl rfl h131 (do_bin (v := (.bool true)) rfl h136 h138 (by simp [go_sem]) rfl)
            refine Steps.cons_ (step_mk (Is (.bool true)) rfl fun a W hx hE hO => ?_) ?_
            · have h131 : a.eval (.tmp 131) = (.bool false) := hE 2 (by kernel_rfl) 131 rfl
              have h139 : a.eval (.tmp 139) = (.bool true) := hE 10 (by kernel_rfl) 139 rfl
              exact yes_none rfl (do_pick_no rfl h131 h139)
            refine Steps.cons_ (step_mk (Is (.bool true)) rfl fun a W hx hE hO => ?_) ?_
            · have h140 : a.eval (.tmp 140) = (.bool true) := hE 11 (by kernel_rfl) 140 rfl
              exact yes_none rfl (do_move rfl h140)
            refine Steps.cons_ (step_mk (Is (.bool true)) rfl fun a W hx hE hO => ?_) ?_
            · have h141 : a.eval (.tmp 141) = (.bool true) := hE 12 (by kernel_rfl) 141 rfl
              refine yes_is (j := 12) (d := 141) (b := true) rfl rfl h141 (do_call rfl Try.func14 (by kernel_rfl) (by kernel_rfl) (args := #[]) (by simp) ?_)
              exact (awake_any W).mono fun e w' ⟨he, hx⟩ => ⟨_, he, hx, rfl⟩
            refine Steps.cons_ (step_mk (Is (.bool true)) rfl fun a W hx hE hO => ?_) ?_
            · have h141 : a.eval (.tmp 141) = (.bool true) := hE 12 (by kernel_rfl) 141 rfl
              have h142 : a.eval (.tmp 142) = (.bool true) := hE 13 (by kernel_rfl) 142 rfl
              exact yes_none rfl (do_pick rfl h141 h142)
            refine Steps.cons_ (step_mk (Is (.bool true)) rfl fun a W hx hE hO => ?_) ?_
            · have h143 : a.eval (.tmp 143) = (.bool true) := hE 14 (by kernel_rfl) 143 rfl
              exact yes_none rfl (do_assign rfl h143)
            exact Steps.nil_
          · intro a W hx hd hE hO
            have h8 : a.eval (.tmp 8) = (.bool true) := hE 15 (of_decide_eq_true (by kernel_rfl)) 8 rfl
            go_wp2
            exact bodyPost_ret (results_tmp rfl _ _ _) hd ⟨congrArg Ending.returned h8, (E9.trans (hxr.trans eb)).trans hx⟩
        · have H0 := Lib.hid h0
          clear h0
          go_wp2_with fail
          refine wp_region_list [Is (.int .i64 (vgE bs)), Is (.bool true), Is (.bool true), Is undef, Is undef, Is undef, Is undef, Is undef, Is undef, Is undef, Is undef, Is (.bool true), Is (.bool true), Is (.bool true), Is (.bool true), Is (.bool true)] (by kernel_rfl) (by kernel_rfl) (by kernel_rfl) ?_ (Steps.all ?_) ?_
          · intro p hp
            simp only [List.mem_cons, List.not_mem_nil, or_false] at hp
            rcases hp with rfl | rfl | rfl | rfl | rfl | rfl | rfl | rfl | rfl | rfl | rfl | rfl | rfl | rfl | rfl | rfl
            all_goals first | exact mono_is _
          · refine Steps.cons_ (step_mk (Is (.int .i64 (vgE bs))) rfl fun a W hx hE hO => ?_) ?_
            · have h25 : a.eval (.tmp 25) = .int .i64 (vgE bs) := hO 25 (by kernel_rfl)
              exact yes_none rfl (do_move rfl h25)
            refine Steps.cons_ (step_mk (Is (.bool true)) rfl fun a W hx hE hO => ?_) ?_
            · have h129 : a.eval (.tmp 129) = (.int .i64 (vgE bs)) := hE 0 (by kernel_rfl) 129 rfl
              refine yes_none rfl ?_
              exact do_bin (v := .bool true) rfl h129 rfl (by simp [go_sem, H0.out]) rfl
            refine Steps.cons_ (step_mk (Is (.bool true)) rfl fun a W hx hE hO => ?_) ?_
            · have h130 : a.eval (.tmp 130) = (.bool true) := hE 1 (by kernel_rfl) 130 rfl
              exact yes_none rfl (do_move rfl h130)
            refine Steps.cons_ (step_mk (Is undef) rfl fun a W hx hE hO => ?_) ?_
            · have h131 : a.eval (.tmp 131) = (.bool true) := hE 2 (by kernel_rfl) 131 rfl
              have h23 : a.eval (.tmp 23) = .int .u64 (vgN bs) := hO 23 (by kernel_rfl)
              exact no_is (j := 2) (d := 131) (b := false) rfl rfl h131 rfl
            refine Steps.cons_ (step_mk (Is undef) rfl fun a W hx hE hO => ?_) ?_
            · have h131 : a.eval (.tmp 131) = (.bool true) := hE 2 (by kernel_rfl) 131 rfl
              have h132 : a.eval (.tmp 132) = undef := hE 3 (by kernel_rfl) 132 rfl
              exact no_is (j := 2) (d := 131) (b := false) rfl rfl h131 rfl
            refine Steps.cons_ (step_mk (Is undef) rfl fun a W hx hE hO => ?_) ?_
            · have h131 : a.eval (.tmp 131) = (.bool true) := hE 2 (by kernel_rfl) 131 rfl
              have h24 : (BytesP (vgRest bs)) (a.eval (.tmp 24)) W := old_is (v := rb) (hO 24 (by kernel_rfl)) (mono_at (mono_bytes _) Hr ((Ext.drew _).trans hx))
              exact no_is (j := 2) (d := 131) (b := false) rfl rfl h131 rfl
            refine Steps.cons_ (step_mk (Is undef) rfl fun a W hx hE hO => ?_) ?_
            · have h131 : a.eval (.tmp 131) = (.bool true) := hE 2 (by kernel_rfl) 131 rfl
              have h133 : a.eval (.tmp 133) = undef := hE 4 (by kernel_rfl) 133 rfl
              have h134 : a.eval (.tmp 134) = undef := hE 5 (by kernel_rfl) 134 rfl
              exact no_is (j := 2) (d := 131) (b := false) rfl rfl h131 rfl
            refine Steps.cons_ (step_mk (Is undef) rfl fun a W hx hE hO => ?_) ?_
            · have h131 : a.eval (.tmp 131) = (.bool true) := hE 2 (by kernel_rfl) 131 rfl
              have h135 : a.eval (.tmp 135) = undef := hE 6 (by kernel_rfl) 135 rfl
              exact no_is (j := 2) (d := 131) (b := false) rfl rfl h131 rfl
            refine Steps.cons_ (step_mk (Is undef) rfl fun a W hx hE hO => ?_) ?_
            · have h131 : a.eval (.tmp 131) = (.bool true) := hE 2 (by kernel_rfl) 131 rfl
              have h0 : (BytesP bs) (a.eval (.tmp 0)) W := old_is (v := v0) (hO 0 (by kernel_rfl)) (mono_at (mono_bytes _) Hb ((Ext.drew _).trans hx))
              exact no_is (j := 2) (d := 131) (b := false) rfl rfl h131 rfl
            refine Steps.cons_ (step_mk (Is undef) rfl fun a W hx hE hO => ?_) ?_
            · have h131 : a.eval (.tmp 131) = (.bool true) := hE 2 (by kernel_rfl) 131 rfl
              have h137 : a.eval (.tmp 137) = undef := hE 8 (by kernel_rfl) 137 rfl
              exact no_is (j := 2) (d := 131) (b := false) rfl rfl h131 rfl
            refine Steps.cons_ (step_mk (Is undef) rfl fun a W hx hE hO => ?_) ?_
            · have h131 : a.eval (.tmp 131) = (.bool true) := hE 2 (by kernel_rfl) 131 rfl
              have h136 : a.eval (.tmp 136) = undef := hE 7 (by kernel_rfl) 136 rfl
              have h138 : a.eval (.tmp 138) = undef := hE 9 (by kernel_rfl) 138 rfl
              exact no_is (j := 2) (d := 131) (b := false) rfl rfl h131 rfl
            refine Steps.cons_ (step_mk (Is (.bool true)) rfl fun a W hx hE hO => ?_) ?_
            · have h131 : a.eval (.tmp 131) = (.bool true) := hE 2 (by kernel_rfl) 131 rfl
              have h139 : a.eval (.tmp 139) = undef := hE 10 (by kernel_rfl) 139 rfl
              exact yes_none rfl (do_pick rfl h131 rfl)
            refine Steps.cons_ (step_mk (Is (.bool true)) rfl fun a W hx hE hO => ?_) ?_
            · have h140 : a.eval (.tmp 140) = (.bool true) := hE 11 (by kernel_rfl) 140 rfl
              exact yes_none rfl (do_move rfl h140)
            refine Steps.cons_ (step_mk (Is (.bool true)) rfl fun a W hx hE hO => ?_) ?_
            · have h141 : a.eval (.tmp 141) = (.bool true) := hE 12 (by kernel_rfl) 141 rfl
              refine yes_is (j := 12) (d := 141) (b := true) rfl rfl h141 (do_call rfl Try.func14 (by kernel_rfl) (by kernel_rfl) (args := #[]) (by simp) ?_)
              exact (awake_any W).mono fun e w' ⟨he, hx⟩ => ⟨_, he, hx, rfl⟩
            refine Steps.cons_ (step_mk (Is (.bool true)) rfl fun a W hx hE hO => ?_) ?_
            · have h141 : a.eval (.tmp 141) = (.bool true) := hE 12 (by kernel_rfl) 141 rfl
              have h142 : a.eval (.tmp 142) = (.bool true) := hE 13 (by kernel_rfl) 142 rfl
              exact yes_none rfl (do_pick rfl h141 h142)
            refine Steps.cons_ (step_mk (Is (.bool true)) rfl fun a W hx hE hO => ?_) ?_
            · have h143 : a.eval (.tmp 143) = (.bool true) := hE 14 (by kernel_rfl) 143 rfl
              exact yes_none rfl (do_assign rfl h143)
            exact Steps.nil_
          · intro a W hx hd hE hO
            have h8 : a.eval (.tmp 8) = (.bool true) := hE 15 (of_decide_eq_true (by kernel_rfl)) 8 rfl
            go_wp2
            exact bodyPost_ret (results_tmp rfl _ _ _) hd ⟨congrArg Ending.returned h8, (E9.trans (hxr.trans eb)).trans hx⟩
  · obtain ⟨t, rfl⟩ : ∃ t, t = s := ⟨s, rfl⟩
    have hts : t.size ≤ 300 := by omega
    refine (put_nil w n hn).mono ?_
    rintro e w1 ⟨x, rfl, hx1, e1⟩
    have b1 := (hb.ext (Nat.le_refl _) e1).more e1.size
    go_wp2_with fail
    refine (join_any w1 w1.heap.size _ _ (enc n) bs hx1.bs b1 (Nat.le_refl _) (by have := enc_len10 hn; omega)).mono ?_
    rintro e w2 ⟨j1, rfl, hj1, e2⟩
    go_wp2_with fail
    refine (get_put w2 w2.heap.size _ n bs hn hj1.bs (Nat.le_refl _) hl).mono ?_
    rintro e w3 ⟨r1, rfl, hr1, e3⟩
    have b3 := (b1.ext (Nat.le_refl _) (e2.trans e3)).more (e2.trans e3).size
    have hr1 := hr1.more e3.size
    go_wp2_with fail
    refine (putint_nil w3 m hm).mono ?_
    rintro e w4 ⟨y, rfl, hy, e4⟩
    have b4 := (b3.ext (Nat.le_refl _) e4).more e4.size
    go_wp2_with fail
    refine (join_any w4 w4.heap.size _ _ (enc (zig m)) bs hy.bs b4 (Nat.le_refl _) (by have := enc_len10 (zig_64 hm); omega)).mono ?_
    rintro e w5 ⟨j2, rfl, hj2, e5⟩
    go_wp2_with fail
    refine (getint_put w5 w5.heap.size _ m bs hm hj2.bs (Nat.le_refl _) hl).mono ?_
    rintro e w6 ⟨r2, rfl, hr2, e6⟩
    have b6 := (b4.ext (Nat.le_refl _) (e5.trans e6)).more (e5.trans e6).size
    have hr2 := hr2.more e6.size
    go_wp2_with fail
    refine (puttext_nil w6 t hts).mono ?_
    rintro e w7 ⟨z, rfl, hz, e7⟩
    have b7 := (b6.ext (Nat.le_refl _) e7).more e7.size
    go_wp2_with fail
    refine (join_any w7 w7.heap.size _ _ (enc t.size ++ sl t) bs hz.bs b7 (Nat.le_refl _) (by have := enc_len10 (n := t.size) (U64.mk (by omega)); rw [List.length_append, sl_len]; omega)).mono ?_
    rintro e w8 ⟨j3, rfl, hj3, e8⟩
    go_wp2_with fail
    refine (gettext_put w8 w8.heap.size _ t bs hts hj3.bs (Nat.le_refl _) hl).mono ?_
    rintro e w9 ⟨r3, rfl, hr3, e9⟩
    have hr3 := hr3.more e9.size
    have b9 := (b7.ext (Nat.le_refl _) (e8.trans e9)).more (e8.trans e9).size
    have e79 := e7.trans (e8.trans e9)
    have e49 := (e4.trans (e5.trans e6)).trans e79
    have E9 := (e1.trans (e2.trans e3)).trans e49
    have s0 := str_of_bs b9 _ rfl
    have s1 := str_of_bs (hr1.ext (Nat.le_refl _) e49) _ rfl
    have s2 := str_of_bs (hr2.ext (Nat.le_refl _) e79) _ rfl
    have s3 := str_of_bs hr3 _ rfl
    have hx9 := Lib.hid ((hx1.ext (e2.trans (e3.trans e49))).bs)
    clear b1 b3 b4 b6 b7 hr1 hr2 hr3 hj1 hj2 hj3 hy hz hx1
    have hne : (enc n).length ≤ 10 := enc_len10 hn
    obtain ⟨A, c, rfl, hxc, hxm, hxrest⟩ := hx9.out
    clear hxrest hxm
    have Hx := Lib.hid hx9.out
    clear hx9
    go_wp2_with fail
    clear s0 s1 s2 s3
    go_loopw [19] (fun i wr => ∃ k : Nat, i = .int .i64 k ∧ k ≤ (enc n).length ∧ Ext w9 wr) (fun i _ => (enc n).length - (intOf i).toNat)
    case atStart => exact ⟨0, rfl, Nat.zero_le _, Below.refl _ _⟩
    case round =>
      obtain ⟨k, rfl, hk, hxr⟩ := hrel
      by_cases hlt : k < (enc n).length
      · go_wp2_with fail
        refine (get_cut wr w9.heap.size _ n k hn hlt ((Hx.out.take_ (by omega)).ext (Nat.le_refl _) hxr) hxr.size).mono ?_
        rintro e wa ⟨a, ra, rfl, ea⟩
        go_wp2
        go_roundw
        case rel => exact ⟨k + 1, by go_num, by omega, hxr.trans ea⟩
        case measure => simp [intOf]; omega
      · have b10 := (b9.ext (Nat.le_refl _) hxr).more hxr.size
        go_wp2_with fail
        refine (get_any wr wr.heap.size _ bs b10 (Nat.le_refl _) (by omega)).mono ?_
        rintro e wb ⟨rb, rfl, hrb, eb⟩
        have Hb : BytesP bs v0 wb := BytesP.of_bs (b10.ext (Nat.le_refl _) eb) eb.size
        have Hr : BytesP (vgRest bs) rb wb := BytesP.of_bs hrb eb.size
        by_cases h0 : vgE bs = 0
        · have H0 := Lib.hid h0
          clear h0
          go_wp2_with fail
          refine wp_region_list [Is (.int .i64 (vgE bs)), Is (.bool false), Is (.bool false), Is (.int .u64 (vgN bs)), BytesP (enc (vgN bs)), BytesP (vgRest bs), BytesP bs, Is (.string ⟨(bs).toArray⟩), BytesP bs, Is (.string ⟨(bs).toArray⟩), Is (.bool true), Is (.bool true), Is (.bool true), Is (.bool true), Is (.bool true), Is (.bool true)] (by kernel_rfl) (by kernel_rfl) (by kernel_rfl) ?_ (Steps.all ?_) ?_
          · intro p hp
            simp only [List.mem_cons, List.not_mem_nil, or_false] at hp
            rcases hp with rfl | rfl | rfl | rfl | rfl | rfl | rfl | rfl | rfl | rfl | rfl | rfl | rfl | rfl | rfl | rfl
            all_goals first | exact mono_is _ | exact mono_bytes _
          · refine Steps.cons_ (step_mk (Is (.int .i64 (vgE bs))) rfl fun a W hx hE hO => ?_) ?_
            · have h25 : a.eval (.tmp 25) = .int .i64 (vgE bs) := hO 25 (by kernel_rfl)
              exact yes_none rfl (do_move rfl h25)
            refine Steps.cons_ (step_mk (Is (.bool false)) rfl fun a W hx hE hO => ?_) ?_
            · have h129 : a.eval (.tmp 129) = (.int .i64 (vgE bs)) := hE 0 (by kernel_rfl) 129 rfl
              refine yes_none rfl ?_
              exact do_bin (v := .bool false) rfl h129 rfl (by simp [go_sem, H0.out]) rfl
            refine Steps.cons_ (step_mk (Is (.bool false)) rfl fun a W hx hE hO => ?_) ?_
            · have h130 : a.eval (.tmp 130) = (.bool false) := hE 1 (by kernel_rfl) 130 rfl
              exact yes_none rfl (do_move rfl h130)
            refine Steps.cons_ (step_mk (Is (.int .u64 (vgN bs))) rfl fun a W hx hE hO => ?_) ?_
            · have h131 : a.eval (.tmp 131) = (.bool false) := hE 2 (by kernel_rfl) 131 rfl
              have h23 : a.eval (.tmp 23) = .int .u64 (vgN bs) := hO 23 (by kernel_rfl)
              exact yes_is (j := 2) (d := 131) (b := false) rfl rfl h131 (do_move rfl h23)
            refine Steps.cons_ (step_mk (BytesP (enc (vgN bs))) rfl fun a W hx hE hO => ?_) ?_
            · have h131 : a.eval (.tmp 131) = (.bool false) := hE 2 (by kernel_rfl) 131 rfl
              have h132 : a.eval (.tmp 132) = (.int .u64 (vgN bs)) := hE 3 (by kernel_rfl) 132 rfl
              refine yes_is (j := 2) (d := 131) (b := false) rfl rfl h131 (do_call rfl Try.func11 (by kernel_rfl) (by kernel_rfl) (args := #[(Value.slice none 0 0), (.int .u64 (vgN bs))]) (by simp only [List.map_toArray, List.map_cons, List.map_nil, h132, evc]) ?_)
              exact (put_nil W (vgN bs) (vgN_64 bs)).mono fun e w' ⟨v', he, ho, hx⟩ => ⟨v', he, hx, ho.bs⟩
            refine Steps.cons_ (step_mk (BytesP (vgRest bs)) rfl fun a W hx hE hO => ?_) ?_
            · have h131 : a.eval (.tmp 131) = (.bool false) := hE 2 (by kernel_rfl) 131 rfl
              have h24 : (BytesP (vgRest bs)) (a.eval (.tmp 24)) W := old_is (v := rb) (hO 24 (by kernel_rfl)) (mono_at (mono_bytes _) Hr ((Ext.drew _).trans hx))
              exact yes_is (j := 2) (d := 131) (b := false) rfl rfl h131 (do_move rfl h24)
            refine Steps.cons_ (step_mk (BytesP bs) rfl fun a W hx hE hO => ?_) ?_
            · have h131 : a.eval (.tmp 131) = (.bool false) := hE 2 (by kernel_rfl) 131 rfl
              have h133 : (BytesP (enc (vgN bs))) (a.eval (.tmp 133)) W := hE 4 (by kernel_rfl) 133 rfl
              have h134 : (BytesP (vgRest bs)) (a.eval (.tmp 134)) W := hE 5 (by kernel_rfl) 134 rfl
              refine yes_is (j := 2) (d := 131) (b := false) rfl rfl h131 (do_call rfl Try.func23 (by kernel_rfl) (by kernel_rfl) (args := #[a.eval (.tmp 133), a.eval (.tmp 134)]) (by simp only [List.map_toArray, List.map_cons, List.map_nil]) ?_)
              exact (join_any W W.heap.size _ _ (enc (vgN bs)) (vgRest bs) h133 h134 (Nat.le_refl _) (by have := enc_len10 (vgN_64 bs); have := vgRest_len bs; omega)).mono fun e w' ⟨v', he, ho, hx⟩ => ⟨v', he, hx, by rw [vg_back H0.out] at ho; exact ho.bs⟩
            refine Steps.cons_ (step_mk (Is (.string ⟨(bs).toArray⟩)) rfl fun a W hx hE hO => ?_) ?_
            · have h131 : a.eval (.tmp 131) = (.bool false) := hE 2 (by kernel_rfl) 131 rfl
              have h135 : (BytesP bs) (a.eval (.tmp 135)) W := hE 6 (by kernel_rfl) 135 rfl
              refine yes_is (j := 2) (d := 131) (b := false) rfl rfl h131 ?_
              exact do_string rfl Try.underlying22 Try.underlying5 Try.underlying9 h135 rfl
            refine Steps.cons_ (step_mk (BytesP bs) rfl fun a W hx hE hO => ?_) ?_
            · have h131 : a.eval (.tmp 131) = (.bool false) := hE 2 (by kernel_rfl) 131 rfl
              have h0 : (BytesP bs) (a.eval (.tmp 0)) W := old_is (v := v0) (hO 0 (by kernel_rfl)) (mono_at (mono_bytes _) Hb ((Ext.drew _).trans hx))
              exact yes_is (j := 2) (d := 131) (b := false) rfl rfl h131 (do_move rfl h0)
            refine Steps.cons_ (step_mk (Is (.string ⟨(bs).toArray⟩)) rfl fun a W hx hE hO => ?_) ?_
            · have h131 : a.eval (.tmp 131) = (.bool false) := hE 2 (by kernel_rfl) 131 rfl
              have h137 : (BytesP bs) (a.eval (.tmp 137)) W := hE 8 (by kernel_rfl) 137 rfl
              refine yes_is (j := 2) (d := 131) (b := false) rfl rfl h131 ?_
              exact do_string rfl Try.underlying22 Try.underlying5 Try.underlying9 h137 rfl
            refine Steps.cons_ (step_mk (Is (.bool true)) rfl fun a W hx hE hO => ?_) ?_
            · have h131 : a.eval (.tmp 131) = (.bool false) := hE 2 (by kernel_rfl) 131 rfl
              have h136 : a.eval (.tmp 136) = (.string ⟨(bs).toArray⟩) := hE 7 (by kernel_rfl) 136 rfl
              have h138 : a.eval (.tmp 138) = (.string ⟨(bs).toArray⟩) := hE 9 (by kernel_rfl) 138 rfl
              exact yes_is (j := 2) (d := 131) (b := false) rfl rfl h131 (do_bin (v := (.bool true)) rfl h136 h138 (by simp [go_sem]) rfl)
            refine Steps.cons_ (step_mk (Is (.bool true)) rfl fun a W hx hE hO => ?_) ?_
            · have h131 : a.eval (.tmp 131) = (.bool false) := hE 2 (by kernel_rfl) 131 rfl
              have h139 : a.eval (.tmp 139) = (.bool true) := hE 10 (by kernel_rfl) 139 rfl
              exact yes_none rfl (do_pick_no rfl h131 h139)
            refine Steps.cons_ (step_mk (Is (.bool true)) rfl fun a W hx hE hO => ?_) ?_
            · have h140 : a.eval (.tmp 140) = (.bool true) := hE 11 (by kernel_rfl) 140 rfl
              exact yes_none rfl (do_move rfl h140)
            refine Steps.cons_ (step_mk (Is (.bool true)) rfl fun a W hx hE hO => ?_) ?_
            · have h141 : a.eval (.tmp 141) = (.bool true) := hE 12 (by kernel_rfl) 141 rfl
              refine yes_is (j := 12) (d := 141) (b := true) rfl rfl h141 (do_call rfl Try.func14 (by kernel_rfl) (by kernel_rfl) (args := #[]) (by simp) ?_)
              exact (awake_any W).mono fun e w' ⟨he, hx⟩ => ⟨_, he, hx, rfl⟩
            refine Steps.cons_ (step_mk (Is (.bool true)) rfl fun a W hx hE hO => ?_) ?_
            · have h141 : a.eval (.tmp 141) = (.bool true) := hE 12 (by kernel_rfl) 141 rfl
              have h142 : a.eval (.tmp 142) = (.bool true) := hE 13 (by kernel_rfl) 142 rfl
              exact yes_none rfl (do_pick rfl h141 h142)
            refine Steps.cons_ (step_mk (Is (.bool true)) rfl fun a W hx hE hO => ?_) ?_
            · have h143 : a.eval (.tmp 143) = (.bool true) := hE 14 (by kernel_rfl) 143 rfl
              exact yes_none rfl (do_assign rfl h143)
            exact Steps.nil_
          · intro a W hx hd hE hO
            have h8 : a.eval (.tmp 8) = (.bool true) := hE 15 (of_decide_eq_true (by kernel_rfl)) 8 rfl
            go_wp2
            exact bodyPost_ret (results_tmp rfl _ _ _) hd ⟨congrArg Ending.returned h8, (E9.trans (hxr.trans eb)).trans hx⟩
        · have H0 := Lib.hid h0
          clear h0
          go_wp2_with fail
          refine wp_region_list [Is (.int .i64 (vgE bs)), Is (.bool true), Is (.bool true), Is undef, Is undef, Is undef, Is undef, Is undef, Is undef, Is undef, Is undef, Is (.bool true), Is (.bool true), Is (.bool true), Is (.bool true), Is (.bool true)] (by kernel_rfl) (by kernel_rfl) (by kernel_rfl) ?_ (Steps.all ?_) ?_
          · intro p hp
            simp only [List.mem_cons, List.not_mem_nil, or_false] at hp
            rcases hp with rfl | rfl | rfl | rfl | rfl | rfl | rfl | rfl | rfl | rfl | rfl | rfl | rfl | rfl | rfl | rfl
            all_goals first | exact mono_is _
          · refine Steps.cons_ (step_mk (Is (.int .i64 (vgE bs))) rfl fun a W hx hE hO => ?_) ?_
            · have h25 : a.eval (.tmp 25) = .int .i64 (vgE bs) := hO 25 (by kernel_rfl)
              exact yes_none rfl (do_move rfl h25)
            refine Steps.cons_ (step_mk (Is (.bool true)) rfl fun a W hx hE hO => ?_) ?_
            · have h129 : a.eval (.tmp 129) = (.int .i64 (vgE bs)) := hE 0 (by kernel_rfl) 129 rfl
              refine yes_none rfl ?_
              exact do_bin (v := .bool true) rfl h129 rfl (by simp [go_sem, H0.out]) rfl
            refine Steps.cons_ (step_mk (Is (.bool true)) rfl fun a W hx hE hO => ?_) ?_
            · have h130 : a.eval (.tmp 130) = (.bool true) := hE 1 (by kernel_rfl) 130 rfl
              exact yes_none rfl (do_move rfl h130)
            refine Steps.cons_ (step_mk (Is undef) rfl fun a W hx hE hO => ?_) ?_
            · have h131 : a.eval (.tmp 131) = (.bool true) := hE 2 (by kernel_rfl) 131 rfl
              have h23 : a.eval (.tmp 23) = .int .u64 (vgN bs) := hO 23 (by kernel_rfl)
              exact no_is (j := 2) (d := 131) (b := false) rfl rfl h131 rfl
            refine Steps.cons_ (step_mk (Is undef) rfl fun a W hx hE hO => ?_) ?_
            · have h131 : a.eval (.tmp 131) = (.bool true) := hE 2 (by kernel_rfl) 131 rfl
              have h132 : a.eval (.tmp 132) = undef := hE 3 (by kernel_rfl) 132 rfl
              exact no_is (j := 2) (d := 131) (b := false) rfl rfl h131 rfl
            refine Steps.cons_ (step_mk (Is undef) rfl fun a W hx hE hO => ?_) ?_
            · have h131 : a.eval (.tmp 131) = (.bool true) := hE 2 (by kernel_rfl) 131 rfl
              have h24 : (BytesP (vgRest bs)) (a.eval (.tmp 24)) W := old_is (v := rb) (hO 24 (by kernel_rfl)) (mono_at (mono_bytes _) Hr ((Ext.drew _).trans hx))
              exact no_is (j := 2) (d := 131) (b := false) rfl rfl h131 rfl
            refine Steps.cons_ (step_mk (Is undef) rfl fun a W hx hE hO => ?_) ?_
            · have h131 : a.eval (.tmp 131) = (.bool true) := hE 2 (by kernel_rfl) 131 rfl
              have h133 : a.eval (.tmp 133) = undef := hE 4 (by kernel_rfl) 133 rfl
              have h134 : a.eval (.tmp 134) = undef := hE 5 (by kernel_rfl) 134 rfl
              exact no_is (j := 2) (d := 131) (b := false) rfl rfl h131 rfl
            refine Steps.cons_ (step_mk (Is undef) rfl fun a W hx hE hO => ?_) ?_
            · have h131 : a.eval (.tmp 131) = (.bool true) := hE 2 (by kernel_rfl) 131 rfl
              have h135 : a.eval (.tmp 135) = undef := hE 6 (by kernel_rfl) 135 rfl
              exact no_is (j := 2) (d := 131) (b := false) rfl rfl h131 rfl
            refine Steps.cons_ (step_mk (Is undef) rfl fun a W hx hE hO => ?_) ?_
            · have h131 : a.eval (.tmp 131) = (.bool true) := hE 2 (by kernel_rfl) 131 rfl
              have h0 : (BytesP bs) (a.eval (.tmp 0)) W := old_is (v := v0) (hO 0 (by kernel_rfl)) (mono_at (mono_bytes _) Hb ((Ext.drew _).trans hx))
              exact no_is (j := 2) (d := 131) (b := false) rfl rfl h131 rfl
            refine Steps.cons_ (step_mk (Is undef) rfl fun a W hx hE hO => ?_) ?_
            · have h131 : a.eval (.tmp 131) = (.bool true) := hE 2 (by kernel_rfl) 131 rfl
              have h137 : a.eval (.tmp 137) = undef := hE 8 (by kernel_rfl) 137 rfl
              exact no_is (j := 2) (d := 131) (b := false) rfl rfl h131 rfl
            refine Steps.cons_ (step_mk (Is undef) rfl fun a W hx hE hO => ?_) ?_
            · have h131 : a.eval (.tmp 131) = (.bool true) := hE 2 (by kernel_rfl) 131 rfl
              have h136 : a.eval (.tmp 136) = undef := hE 7 (by kernel_rfl) 136 rfl
              have h138 : a.eval (.tmp 138) = undef := hE 9 (by kernel_rfl) 138 rfl
              exact no_is (j := 2) (d := 131) (b := false) rfl rfl h131 rfl
            refine Steps.cons_ (step_mk (Is (.bool true)) rfl fun a W hx hE hO => ?_) ?_
            · have h131 : a.eval (.tmp 131) = (.bool true) := hE 2 (by kernel_rfl) 131 rfl
              have h139 : a.eval (.tmp 139) = undef := hE 10 (by kernel_rfl) 139 rfl
              exact yes_none rfl (do_pick rfl h131 rfl)
            refine Steps.cons_ (step_mk (Is (.bool true)) rfl fun a W hx hE hO => ?_) ?_
            · have h140 : a.eval (.tmp 140) = (.bool true) := hE 11 (by kernel_rfl) 140 rfl
              exact yes_none rfl (do_move rfl h140)
            refine Steps.cons_ (step_mk (Is (.bool true)) rfl fun a W hx hE hO => ?_) ?_
            · have h141 : a.eval (.tmp 141) = (.bool true) := hE 12 (by kernel_rfl) 141 rfl
              refine yes_is (j := 12) (d := 141) (b := true) rfl rfl h141 (do_call rfl Try.func14 (by kernel_rfl) (by kernel_rfl) (args := #[]) (by simp) ?_)
              exact (awake_any W).mono fun e w' ⟨he, hx⟩ => ⟨_, he, hx, rfl⟩
            refine Steps.cons_ (step_mk (Is (.bool true)) rfl fun a W hx hE hO => ?_) ?_
            · have h141 : a.eval (.tmp 141) = (.bool true) := hE 12 (by kernel_rfl) 141 rfl
              have h142 : a.eval (.tmp 142) = (.bool true) := hE 13 (by kernel_rfl) 142 rfl
              exact yes_none rfl (do_pick rfl h141 h142)
            refine Steps.cons_ (step_mk (Is (.bool true)) rfl fun a W hx hE hO => ?_) ?_
            · have h143 : a.eval (.tmp 143) = (.bool true) := hE 14 (by kernel_rfl) 143 rfl
              exact yes_none rfl (do_assign rfl h143)
            exact Steps.nil_
          · intro a W hx hd hE hO
            have h8 : a.eval (.tmp 8) = (.bool true) := hE 15 (of_decide_eq_true (by kernel_rfl)) 8 rfl
            go_wp2
            exact bodyPost_ret (results_tmp rfl _ _ _) hd ⟨congrArg Ending.returned h8, (E9.trans (hxr.trans eb)).trans hx⟩

end Go.Proofs.Ytkjbbnlmoekilaa
