/-
  The law EventBack: for whatever batch, bytes and number it returns true.
  Conditions: none.
-/
import Derived.Test.YtbnjhpknagkiaaaWl
namespace Go.Proofs.Ytbnjhpknagkiaaa
open Go.RowKit Go.Op Go.ChangeShapes Go.WideShapes

theorem EvIs.some {n0 n1 : Nat} {W' : World} {e : Ending} {o : Option (Ev × List UInt8)} {x : Ev} {r : List UInt8} (h : EvIs n0 n1 W' e o) (hn : n0 ≤ W'.heap.size) (ho : o = .some (x, r)) :
    ∃ u vf, e = .returned (.tuple #[.agg #[.int .i64 x.1, vf], u, .int .i64 0]) ∧ BS W' W'.heap.size u r ∧ SL W' (Bw W') vf x.2 := by
  subst ho
  obtain ⟨u, vf, rfl, h1, h2⟩ := h
  exact ⟨u, vf, rfl, h1.more hn, h2.more fun k hk => hk.2⟩
theorem BatIs.some {n1 : Nat} {W' : World} {e : Ending} {o : Option Bat} {s : Int} {l : List Ev} (h : BatIs n1 W' e o) (ho : o = .some (s, l)) : ∃ vf, e = .returned (.tuple #[.agg #[.int .i64 s, vf], .int .i64 0]) ∧ SL W' (Bw W') vf l := by
  subst ho
  obtain ⟨vf, rfl, h2⟩ := h
  exact ⟨vf, rfl, h2.more fun k hk => hk.2⟩
theorem BatIs.none_ {n1 : Nat} {W' : World} {e : Ending} {o : Option Bat} (h : BatIs n1 W' e o) (ho : o = .none) : e = .returned (.tuple #[.agg #[.int .i64 0, .slice none 0 0], .int .i64 100]) := by
  subst ho
  exact h

set_option maxHeartbeats 6400000 in
set_option maxRecDepth 100000 in
theorem evback_any (w : World) (s : Int) (v vb : Value) (l : List Ev) (bs : List UInt8) (at_ : Int) (hv : SL w (Bw w) v l) (hs : I6 s) (hb : SL w (Bw w) vb bs) (ha : 0 ≤ at_ ∧ at_ ≤ 65535) :
    Calls Try.prog 4 #[.agg #[.int .i64 s, v], vb, .int .u16 at_] w fun e w' => e = .returned (.bool true) ∧ Ext w w' := by
  obtain ⟨A, c, rfl, hc, hm⟩ := hv.form
  have Hx0 : Hid (Ext w (w.alloc (.cells #[.int .i64 s, .slice A l.length c] 24))) := Lib.hid (Ext.of_alloc _ _)
  have hS : ∀ W, Ext (w.alloc (.cells #[.int .i64 s, .slice A l.length c] 24)) W → W.cell? ⟨w.heap.size, 0, none⟩ = some (.int .i64 s) ∧ W.cell? ⟨w.heap.size, 1, none⟩ = some (.slice A l.length c) := fun W h =>
    ⟨Ext.keeps h (cell_new w #[.int .i64 s, .slice A l.length c] 24 0 (v := .int .i64 s) rfl), Ext.keeps h (cell_new w #[.int .i64 s, .slice A l.length c] 24 1 (v := .slice A l.length c) rfl)⟩
  have HS := Lib.hid hS
  have Hv := Lib.hid (hv.up Hx0.out)
  have Hb := Lib.hid (hb.up Hx0.out)
  have Hs := Lib.hid hs
  clear hv hS hb hs hc hm
  go_enter Try.func4, Try.ntmps4
  go_wp2_with fail
  refine (blight_any _ s _ l Hv.out).mono ?_
  rintro e w1 ⟨R, rfl, hR, hx⟩
  have Hx1 := Lib.hid hx
  have Hb1 := Lib.hid (Hb.out.up hx)
  have HR := Lib.hid hR
  obtain ⟨b0, b1⟩ := HS.out _ hx
  clear hx hR
  cases R with
  | false =>
    go_wp2_with fail
    refine (awake_any w1).mono ?_
    rintro e w2 ⟨rfl, hx⟩
    have Hx2 := Lib.hid (Ext.trans Hx0.out (Ext.trans Hx1.out hx))
    clear hx
    go_wp2
    go_ret
    exact ⟨rfl, Hx2.out⟩
  | true =>
    have hbo := BatOk.mk (s := s) Hv.out (HR.out rfl)
    by_cases h0 : batE (s, l) = 0
    · have hev := hbo h0
      have hpl := benc_len h0 hev
      have hp0 := benc_pos (s, l)
      have hback := batG_benc h0 hev
      have htake : ∀ k, k < (benc (s, l)).length → batG ((benc (s, l)).take k) = none := fun k hk => batG_take h0 hev hk
      have hmore := batG_more h0 hev 0
      obtain ⟨hl0, _⟩ := batE_spec h0
      dsimp only at hl0
      have He0 := Lib.hid (hev l[0] (List.getElem_mem (Nat.pos_of_ne_zero hl0)))
      have hl0' : 0 < l.length := Nat.pos_of_ne_zero hl0
      have HL0 : Hid (0 < l.length) := Lib.hid hl0'
      have hlz : ((l.length : Int) == 0) = false := beq_eq_false_iff_ne.2 (fun h => hl0 (Int.ofNat.inj h))
      go_wp2_with fail
      refine (bencode_ok w1 s _ l (Hv.out.up Hx1.out) Hs.out h0 hev).mono ?_
      rintro e w3 ⟨v3, rfl, ho3, hx⟩
      generalize benc (s, l) = P at hpl hp0 hback htake hmore ho3
      have hb3 := (Own.bs ho3).sl
      obtain ⟨Ax, cx, rfl, hcx, hmx⟩ := hb3.form
      have hcxi : (P.length : Int) ≤ (cx : Int) := by omega
      have hcxm : (cx : Int) ≤ 9223372036854775807 := by unfold maxLen at hmx; omega
      have HP3 := Lib.hid hb3
      have Hx3 := Lib.hid (Ext.trans Hx1.out hx)
      have Hb3 := Lib.hid (Hb1.out.up hx)
      have Hback := Lib.hid hback
      have Htake := Lib.hid htake
      have Hmore := Lib.hid hmore
      clear hx ho3 hb3 hback htake hmore hbo h0 hev b0 b1
      obtain ⟨b0, b1⟩ := HS.out _ Hx3.out
      obtain ⟨N, rfl⟩ : ∃ N : Nat, at_ = (N : Int) := ⟨at_.toNat, by omega⟩
      obtain ⟨k, hk1, hk2⟩ : ∃ k : Nat, k = N % P.length ∧ k < P.length := ⟨_, rfl, Nat.mod_lt N hp0⟩
      have hmod : (N : Int) % (P.length : Int) = (k : Int) := by rw [hk1, Int.natCast_emod]
      have htmod : (N : Int).tmod (P.length : Int) = (k : Int) := by rw [Int.tmod_eq_emod_of_nonneg (by omega), hmod]
      have hpz : ((P.length : Int) == 0) = false := beq_eq_false_iff_ne.2 (by omega)
      have hpn : ¬(P.length : Int) = 0 := by omega
      have hkP : (k : Int) < (P.length : Int) := by omega
      clear hk1
      go_wp2_with fail
      refine (bdecode_any w3.heap.size w3 _ P HP3.out.bs (Nat.le_refl _) (by omega)).mono ?_
      rintro e w4 ⟨he, hx⟩
      obtain ⟨f4, rfl, hf4⟩ := he.some Hback.out
      obtain ⟨A4, c4, rfl, _⟩ := hf4.form
      have hxa := Ext.of_alloc w4 (.cells #[.int .i64 s, .slice A4 l.length c4] 24)
      have Q40 := Lib.hid (cell_new w4 #[.int .i64 s, .slice A4 l.length c4] 24 0 (v := .int .i64 s) rfl)
      have Q41 := Lib.hid (cell_new w4 #[.int .i64 s, .slice A4 l.length c4] 24 1 (v := .slice A4 l.length c4) rfl)
      have hxb := Ext.trans hx hxa
      have Hx4 := Lib.hid (Ext.trans Hx3.out hxb)
      have HP4 := Lib.hid (HP3.out.up hxb)
      have Hb4 := Lib.hid (Hb3.out.up hxb)
      have Hf4 := Lib.hid (hf4.up hxa)
      clear hx hxa hxb hf4 he b0 b1
      obtain ⟨b0, b1⟩ := HS.out _ Hx4.out
      go_wp2_with fail
      refine (bdecode_any _ _ _ (P.take k) (SL.bs (SL.take_ HP4.out (by omega))) (Nat.le_refl _) (by rw [List.length_take]; omega)).mono ?_
      rintro e w5 ⟨he, hx⟩
      obtain rfl := he.none_ (Htake.out k hk2)
      have hxa := Ext.of_alloc w5 (.cells #[.int .i64 0, .slice none 0 0] 24)
      have hxb := Ext.trans hx hxa
      have Hx45 := Lib.hid hxb
      have Hx5 := Lib.hid (Ext.trans Hx4.out hxb)
      have HP5 := Lib.hid (HP4.out.up hxb)
      clear hx hxa hxb he b0 b1
      have hlen5 : ([] : List UInt8).length + P.length ≤ 100000000 := by simp only [List.length_nil]; omega
      have hlen6 : (([] : List UInt8) ++ P).length + [(0 : UInt8)].length ≤ 100000000 := by simp only [List.nil_append, List.length_cons, List.length_nil]; omega
      have hoz : Own ((w5.alloc (.cells #[.int .i64 0, .slice none 0 0] 24)).alloc (.cells #[] 5)) (w5.heap.size + 1) (.slice (some ⟨w5.heap.size + 1, 0, none⟩) 0 0) [] := by
        have h := own_empty (w5.alloc (.cells #[.int .i64 0, .slice none 0 0] 24)) (w5.heap.size + 1) (Nat.le_of_eq (World.size_alloc _ _).symm)
        rw [World.size_alloc] at h
        exact h
      have hxz : Ext w5 ((w5.alloc (.cells #[.int .i64 0, .slice none 0 0] 24)).alloc (.cells #[] 5)) := Ext.al (Ext.of_alloc _ _) _
      have hxy : Ext (w5.alloc (.cells #[.int .i64 0, .slice none 0 0] 24)) ((w5.alloc (.cells #[.int .i64 0, .slice none 0 0] 24)).alloc (.cells #[] 5)) := Ext.of_alloc _ _
      have HSZ : Hid (w5.heap.size + 1 = (w5.alloc (.cells #[.int .i64 0, .slice none 0 0] 24)).heap.size) := Lib.hid (World.size_alloc _ _).symm
      have Hoz := Lib.hid hoz
      have Hxz := Lib.hid hxz
      have Hxy := Lib.hid hxy
      clear hoz hxz hxy
      go_wp2_with (at_builtin; first
        | (refine wpList_append_bytes _ rfl (.tmp 65) (.tmp 66) rfl (w5.heap.size + 1) (.slice (some ⟨w5.heap.size + 1, 0, none⟩) 0 0) [] rfl Hoz.out _ (.slice Ax P.length cx) P rfl (SL.bs (SL.up HP5.out Hxy.out)) hlen5 (Nat.le_trans (Nat.le_of_eq HSZ.out) Hxy.out.size) ?_; intro v6 w6 hown6 hg6 hat6; have hx6 := (GrowO.append hg6 hat6).ext Hxy.out HSZ.out (own_ge Hoz.out); have hxb6 := Ext.of_alloc w6 (.cells #[.int .u8 0] 5); have ho6 := Own.ext hown6 hxb6; have hb6 := BS.one w6 0 0 rfl; have hsz6 := Nat.le_trans (Nat.le_of_eq HSZ.out) (Nat.le_trans hx6.size hxb6.size); have hxc6 := Ext.trans hx6 hxb6; have hge6 := own_ge ho6; clear hg6 hat6 hown6 hx6 hxb6)
        | (refine wpList_append_bytes _ rfl (.tmp 67) (.tmp 68) rfl (w5.heap.size + 1) v6 ([] ++ P) rfl ho6 _ (.slice (some ⟨w6.heap.size, 0, none⟩) 1 1) [0] rfl hb6 hlen6 hsz6 ?_; intro v7 w7 hown7 hg7 hat7; have hx7 := (GrowO.append hg7 hat7).ext hxc6 HSZ.out hge6; clear hg7 hat7 ho6 hb6 hsz6 hxc6 hge6)
        | fail)
      rw [List.nil_append] at hown7
      refine (bdecode_any _ w7 v7 (P ++ [0]) (Own.bs hown7) (Nat.le_refl _) (by rw [List.length_append, List.length_cons, List.length_nil]; omega)).mono ?_
      rintro e w8 ⟨he, hx⟩
      obtain rfl := he.none_ Hmore.out
      have hxa := Ext.of_alloc w8 (.cells #[.int .i64 0, .slice none 0 0] 24)
      have hxb := Ext.trans hx7 (Ext.trans hx hxa)
      have Hx8 := Lib.hid (Ext.trans Hx5.out hxb)
      have Hx48 := Lib.hid (Ext.trans Hx45.out hxb)
      have q0 := Ext.keeps Hx48.out Q40.out
      have q1 := Ext.keeps Hx48.out Q41.out
      have Hf8 := Lib.hid (Hf4.out.up Hx48.out)
      clear hx hx7 hown7 hxa hxb he Hoz Hxz Hxy HSZ
      obtain ⟨b0, b1⟩ := HS.out _ Hx8.out
      go_wp2_with fail
      refine (samebatch_any _ s s _ _ l l Hf8.out (Hv.out.up Hx8.out)).mono ?_
      rintro e w9 ⟨rfl, hx⟩
      rw [decide_eq_true rfl]
      have Hx9 := Lib.hid (Ext.trans Hx8.out hx)
      clear hx q0 q1 b0 b1
      obtain ⟨b0, b1⟩ := HS.out _ Hx9.out
      obtain ⟨ad, u0, rfl, _, d0, d1, hu0, _⟩ := (Hv.out.up Hx9.out).ev_at HL0.out
      have hE0 := He0.out
      generalize l[0] = N0 at d0 d1 hu0 hE0
      obtain ⟨x0, fs0⟩ := N0
      dsimp only at d0 d1 hu0
      obtain ⟨Af, cf, rfl, _, _⟩ := hu0.form
      obtain ⟨he0, hi0, hl0⟩ := hE0
      have hll : (0 : Int) < l.length := by have := HL0.out; omega
      have He0 := Lib.hid he0
      have Hi0 := Lib.hid hi0
      have hln := evby_lgt he0 hi0 hl0
      have Hu0 := Lib.hid hu0
      rw [Nat.zero_mul, show ad.add 0 = ad from rfl] at d0 d1
      have D0 := Lib.hid d0
      have D1 := Lib.hid d1
      clear he0 hi0 hu0 hl0
      go_wp2_with fail
      refine (evPut_any w9 0 _ [] x0 _ fs0 (BS.nil_ _ _) (Nat.zero_le _) Hu0.out (by simp) He0.out Hi0.out).mono ?_
      rintro e w10 ⟨v10, rfl, ho10, hx⟩
      rw [List.nil_append] at ho10
      generalize hy : evby (x0, fs0) = Y at ho10 hln
      have hsy := (Own.bs ho10).sl
      obtain ⟨Ay, cy, rfl, _⟩ := hsy.form
      have HY := Lib.hid (Own.bs ho10)
      have HEy := Lib.hid hy
      have Hx10 := Lib.hid (Ext.trans Hx9.out hx)
      have hx9 := hx
      clear hx ho10 hy hsy d0 d1 b0 b1
      have hoz : Own (w10.alloc (.cells #[] 5)) w10.heap.size (.slice (some ⟨w10.heap.size, 0, none⟩) 0 0) [] := own_empty _ _ (Nat.le_refl _)
      have hxz : Ext w10 (w10.alloc (.cells #[] 5)) := Ext.of_alloc _ _
      have hlen10 : ([] : List UInt8).length + Y.length ≤ 100000000 := by simp only [List.length_nil]; omega
      have hbl : (bs.take 700).length ≤ 1000 := by rw [List.length_take]; omega
      generalize hB : bs.take 700 = B at hbl
      have HB := Lib.hid hB
      have Hoz := Lib.hid hoz
      have Hxz := Lib.hid hxz
      clear hoz hxz hB
      go_wp2_with (at_builtin; first
        | (refine wpList_append_bytes _ rfl (.tmp 98) (.tmp 99) rfl w10.heap.size (.slice (some ⟨w10.heap.size, 0, none⟩) 0 0) [] rfl Hoz.out _ (.slice Ay Y.length cy) Y rfl (BS.up' HY.out Hxz.out) hlen10 Hxz.out.size ?_; intro v11 w11 hown11 hg11 hat11; have hx11 := (GrowO.append hg11 hat11).ext Hxz.out rfl (own_ge Hoz.out))
        | fail)
      rw [List.nil_append] at hown11
      have Ho11 := Lib.hid hown11
      have Hx11 := Lib.hid hx11
      have Hx11' := Lib.hid (Ext.trans Hx10.out hx11)
      clear hown11 hx11 hg11 hat11 Hoz Hxz
      refine (cut_any w11 _ bs (Hb.out.up Hx11'.out)).mono ?_
      rintro e w12 ⟨v12, rfl, hv12, hx⟩
      rw [HB.out] at hv12
      have HV12 := Lib.hid hv12.bs
      have Ho12 := Lib.hid (Own.ext Ho11.out hx)
      have Hx12 := Lib.hid (Ext.trans Hx11.out hx)
      have hlen12 : Y.length + B.length ≤ 100000000 := by omega
      obtain ⟨A12, c12, rfl, _⟩ := hv12.form
      clear hv12 hx
      go_wp2_with (at_builtin; first
        | (refine wpList_append_bytes _ rfl (.tmp 100) (.tmp 102) rfl w10.heap.size v11 Y rfl Ho12.out _ (.slice A12 B.length c12) B rfl HV12.out hlen12 Hx12.out.size ?_; intro v13 w13 hown13 hg13 hat13; have hx13 := (GrowO.append hg13 hat13).ext Hx12.out rfl (own_ge Ho12.out))
        | fail)
      have Hx13 := Lib.hid hx13
      refine (eget_any _ w13 v13 (Y ++ B) (Own.bs hown13) (Nat.le_refl _) (by rw [List.length_append]; omega)).mono ?_
      rintro e w14 ⟨he, hx⟩
      obtain ⟨u14, f14, rfl, hu14, hf14⟩ := he.some hx.size (by rw [← HEy.out]; exact evG_by He0.out Hi0.out B)
      dsimp only at hf14 ⊢
      obtain ⟨A14, c14, rfl, _⟩ := hf14.form
      have hxa := Ext.of_alloc w14 (.cells #[.int .i64 x0, .slice A14 fs0.length c14] 40)
      have Q0 := Lib.hid (cell_new w14 #[.int .i64 x0, .slice A14 fs0.length c14] 40 0 (v := .int .i64 x0) rfl)
      have Q1 := Lib.hid (cell_new w14 #[.int .i64 x0, .slice A14 fs0.length c14] 40 1 (v := .slice A14 fs0.length c14) rfl)
      have hx1014 := Ext.trans Hx13.out (Ext.trans hx hxa)
      have Hx14 := Lib.hid (Ext.trans Hx10.out hx1014)
      have HU14 := Lib.hid (hu14.up' hxa)
      have HF14 := Lib.hid (hf14.up hxa)
      have hnil : l ≠ [] := List.ne_nil_of_length_pos HL0.out
      have hS2 : ∀ W, Ext (w14.alloc (.cells #[.int .i64 x0, .slice A14 fs0.length c14] 40)) W → W.cell? ⟨w.heap.size, 1, none⟩ = some (.slice (some ad) l.length c) ∧ W.cell? ad = some (.int .i64 x0) ∧ W.cell? ⟨ad.block, ad.off + 1, none⟩ = some (.slice Af fs0.length cf) ∧ W.cell? ⟨w14.heap.size, 0, none⟩ = some (.int .i64 x0) ∧ W.cell? ⟨w14.heap.size, 1, none⟩ = some (.slice A14 fs0.length c14) := fun W h =>
        ⟨(HS.out _ (Ext.trans Hx14.out h)).2, Ext.keeps (Ext.trans hx1014 h) (Ext.keeps hx9 D0.out), Ext.keeps (Ext.trans hx1014 h) (Ext.keeps hx9 D1.out), Ext.keeps h Q0.out, Ext.keeps h Q1.out⟩
      have HS2 := Lib.hid hS2
      have HU0 := Lib.hid (Hu0.out.up (Ext.trans hx9 hx1014))
      have HBb := Lib.hid (Hb.out.up Hx14.out)
      clear hS2 hx1014 hx9 hx hx13 hown13 hg13 hat13 hxa hu14 hf14 he
      go_wp2_with fail
      refine wp_region_list [Is (.int .i64 0), Is (.bool true), Is (.bool true), Is (.int .i64 0), Is (.bool true), Is (.bool true), Is (.bool true), Is (.agg #[.int .i64 x0, .slice A14 fs0.length c14]), Is (.pointer (some ⟨w.heap.size, 1, none⟩)), Is (.slice (some ad) l.length c), Is (.pointer (some ad)), Is (.agg #[.int .i64 x0, .slice Af fs0.length cf]), Is (.bool true), Is (.bool true), Is (.bool true), BytesP B, Is (.string ⟨(B).toArray⟩), Is (vb), BytesP B, Is (.string ⟨(B).toArray⟩), Is (.bool true), Is (.bool true), Is (.bool true), Is (.bool true), Is (.bool true), Is (.bool true)] (by kernel_rfl) (by kernel_rfl) (by kernel_rfl) ?_ (Steps.all ?_) ?_
      · intro p hp
        simp only [List.mem_cons, List.not_mem_nil, or_false] at hp
        rcases hp with rfl | rfl | rfl | rfl | rfl | rfl | rfl | rfl | rfl | rfl | rfl | rfl | rfl | rfl | rfl | rfl | rfl | rfl | rfl | rfl | rfl | rfl | rfl | rfl | rfl | rfl
        all_goals first | exact mono_is _ | exact mono_bytes _
      · refine Steps.cons_ (step_mk (Is (.int .i64 0)) rfl fun a W hx hE hO => ?_) ?_
        · have h17 : a.eval (.tmp 17) = .int .i64 0 := hO 17 (by kernel_rfl)
          exact yes_none rfl (do_move rfl h17)
        refine Steps.cons_ (step_mk (Is (.bool true)) rfl fun a W hx hE hO => ?_) ?_
        · have h108 : a.eval (.tmp 108) = (.int .i64 0) := hE 0 (by kernel_rfl) 108 rfl
          exact yes_none rfl (do_bin (v := (.bool true)) rfl h108 rfl (by simp [go_sem]) rfl)
        refine Steps.cons_ (step_mk (Is (.bool true)) rfl fun a W hx hE hO => ?_) ?_
        · have h109 : a.eval (.tmp 109) = (.bool true) := hE 1 (by kernel_rfl) 109 rfl
          exact yes_none rfl (do_move rfl h109)
        refine Steps.cons_ (step_mk (Is (.int .i64 0)) rfl fun a W hx hE hO => ?_) ?_
        · have h110 : a.eval (.tmp 110) = (.bool true) := hE 2 (by kernel_rfl) 110 rfl
          have h20 : a.eval (.tmp 20) = .int .i64 0 := hO 20 (by kernel_rfl)
          exact yes_is (j := 2) (d := 110) (b := true) rfl rfl h110 (do_move rfl h20)
        refine Steps.cons_ (step_mk (Is (.bool true)) rfl fun a W hx hE hO => ?_) ?_
        · have h110 : a.eval (.tmp 110) = (.bool true) := hE 2 (by kernel_rfl) 110 rfl
          have h111 : a.eval (.tmp 111) = (.int .i64 0) := hE 3 (by kernel_rfl) 111 rfl
          exact yes_is (j := 2) (d := 110) (b := true) rfl rfl h110 (do_bin (v := (.bool true)) rfl h111 rfl (by simp [go_sem]) rfl)
        refine Steps.cons_ (step_mk (Is (.bool true)) rfl fun a W hx hE hO => ?_) ?_
        · have h110 : a.eval (.tmp 110) = (.bool true) := hE 2 (by kernel_rfl) 110 rfl
          have h112 : a.eval (.tmp 112) = (.bool true) := hE 4 (by kernel_rfl) 112 rfl
          exact yes_none rfl (do_pick rfl h110 h112)
        refine Steps.cons_ (step_mk (Is (.bool true)) rfl fun a W hx hE hO => ?_) ?_
        · have h113 : a.eval (.tmp 113) = (.bool true) := hE 5 (by kernel_rfl) 113 rfl
          exact yes_none rfl (do_move rfl h113)
        refine Steps.cons_ (step_mk (Is (.agg #[.int .i64 x0, .slice A14 fs0.length c14])) rfl fun a W hx hE hO => ?_) ?_
        · have h114 : a.eval (.tmp 114) = (.bool true) := hE 6 (by kernel_rfl) 114 rfl
          have h18 : a.eval (.tmp 18) = .pointer (some ⟨w14.heap.size, 0, none⟩) := hO 18 (by kernel_rfl)
          refine yes_is (j := 6) (d := 114) (b := true) rfl rfl h114 ?_
          obtain ⟨_, _, _, q0, q1⟩ := HS2.out W ((Ext.drew _).trans hx); exact do_run (by simp only [execOp, h18] <;> simp [go_sem, q0, q1]) rfl
        refine Steps.cons_ (step_mk (Is (.pointer (some ⟨w.heap.size, 1, none⟩))) rfl fun a W hx hE hO => ?_) ?_
        · have h114 : a.eval (.tmp 114) = (.bool true) := hE 6 (by kernel_rfl) 114 rfl
          have h3 : a.eval (.tmp 3) = .pointer (some ⟨w.heap.size, 0, none⟩) := hO 3 (by kernel_rfl)
          refine yes_is (j := 6) (d := 114) (b := true) rfl rfl h114 ?_
          exact do_run (by simp only [execOp, h3] <;> simp [go_sem]) rfl
        refine Steps.cons_ (step_mk (Is (.slice (some ad) l.length c)) rfl fun a W hx hE hO => ?_) ?_
        · have h114 : a.eval (.tmp 114) = (.bool true) := hE 6 (by kernel_rfl) 114 rfl
          have h116 : a.eval (.tmp 116) = (.pointer (some ⟨w.heap.size, 1, none⟩)) := hE 8 (by kernel_rfl) 116 rfl
          refine yes_is (j := 6) (d := 114) (b := true) rfl rfl h114 ?_
          obtain ⟨q0, _⟩ := HS2.out W ((Ext.drew _).trans hx); exact do_run (by simp only [execOp, h116] <;> simp [go_sem, q0]) rfl
        refine Steps.cons_ (step_mk (Is (.pointer (some ad))) rfl fun a W hx hE hO => ?_) ?_
        · have h114 : a.eval (.tmp 114) = (.bool true) := hE 6 (by kernel_rfl) 114 rfl
          have h117 : a.eval (.tmp 117) = (.slice (some ad) l.length c) := hE 9 (by kernel_rfl) 117 rfl
          refine yes_is (j := 6) (d := 114) (b := true) rfl rfl h114 ?_
          exact do_run (by simp only [execOp, h117, evc] <;> simp [go_sem, hnil]) rfl
        refine Steps.cons_ (step_mk (Is (.agg #[.int .i64 x0, .slice Af fs0.length cf])) rfl fun a W hx hE hO => ?_) ?_
        · have h114 : a.eval (.tmp 114) = (.bool true) := hE 6 (by kernel_rfl) 114 rfl
          have h118 : a.eval (.tmp 118) = (.pointer (some ad)) := hE 10 (by kernel_rfl) 118 rfl
          refine yes_is (j := 6) (d := 114) (b := true) rfl rfl h114 ?_
          obtain ⟨_, q0, q1, _⟩ := HS2.out W ((Ext.drew _).trans hx); exact do_run (by simp only [execOp, h118] <;> simp [go_sem, q0, q1]) rfl
        refine Steps.cons_ (step_mk (Is (.bool true)) rfl fun a W hx hE hO => ?_) ?_
        · have h114 : a.eval (.tmp 114) = (.bool true) := hE 6 (by kernel_rfl) 114 rfl
          have h115 : a.eval (.tmp 115) = (.agg #[.int .i64 x0, .slice A14 fs0.length c14]) := hE 7 (by kernel_rfl) 115 rfl
          have h119 : a.eval (.tmp 119) = (.agg #[.int .i64 x0, .slice Af fs0.length cf]) := hE 11 (by kernel_rfl) 119 rfl
          refine yes_is (j := 6) (d := 114) (b := true) rfl rfl h114 (do_call rfl Try.func20 (by kernel_rfl) (by kernel_rfl) (args := #[(.agg #[.int .i64 x0, .slice A14 fs0.length c14]), (.agg #[.int .i64 x0, .slice Af fs0.length cf])]) (by simp only [List.map_toArray, List.map_cons, List.map_nil, h115, h119]) ?_)
          exact (rsame_any W x0 x0 _ _ fs0 fs0 (HF14.out.up ((Ext.drew _).trans hx)) (HU0.out.up ((Ext.drew _).trans hx))).mono fun e w' ⟨he, hx⟩ => ⟨.bool true, by rw [he, decide_eq_true rfl], hx, rfl⟩
        refine Steps.cons_ (step_mk (Is (.bool true)) rfl fun a W hx hE hO => ?_) ?_
        · have h114 : a.eval (.tmp 114) = (.bool true) := hE 6 (by kernel_rfl) 114 rfl
          have h120 : a.eval (.tmp 120) = (.bool true) := hE 12 (by kernel_rfl) 120 rfl
          exact yes_none rfl (do_pick rfl h114 h120)
        refine Steps.cons_ (step_mk (Is (.bool true)) rfl fun a W hx hE hO => ?_) ?_
        · have h121 : a.eval (.tmp 121) = (.bool true) := hE 13 (by kernel_rfl) 121 rfl
          exact yes_none rfl (do_move rfl h121)
        refine Steps.cons_ (step_mk (BytesP B) rfl fun a W hx hE hO => ?_) ?_
        · have h122 : a.eval (.tmp 122) = (.bool true) := hE 14 (by kernel_rfl) 122 rfl
          have h19 : (BytesP B) (a.eval (.tmp 19)) W := old_is (v := u14) (hO 19 (by kernel_rfl)) (mono_at (mono_bytes _) HU14.out ((Ext.drew _).trans hx))
          exact yes_is (j := 14) (d := 122) (b := true) rfl rfl h122 (do_move rfl h19)
        refine Steps.cons_ (step_mk (Is (.string ⟨(B).toArray⟩)) rfl fun a W hx hE hO => ?_) ?_
        · have h122 : a.eval (.tmp 122) = (.bool true) := hE 14 (by kernel_rfl) 122 rfl
          have h123 : (BytesP B) (a.eval (.tmp 123)) W := hE 15 (by kernel_rfl) 123 rfl
          refine yes_is (j := 14) (d := 122) (b := true) rfl rfl h122 ?_
          exact do_string rfl Try.underlying25 Try.underlying5 Try.underlying9 h123 rfl
        refine Steps.cons_ (step_mk (Is (vb)) rfl fun a W hx hE hO => ?_) ?_
        · have h122 : a.eval (.tmp 122) = (.bool true) := hE 14 (by kernel_rfl) 122 rfl
          have h1 : a.eval (.tmp 1) = vb := hO 1 (by kernel_rfl)
          exact yes_is (j := 14) (d := 122) (b := true) rfl rfl h122 (do_move rfl h1)
        refine Steps.cons_ (step_mk (BytesP B) rfl fun a W hx hE hO => ?_) ?_
        · have h122 : a.eval (.tmp 122) = (.bool true) := hE 14 (by kernel_rfl) 122 rfl
          have h125 : a.eval (.tmp 125) = (vb) := hE 17 (by kernel_rfl) 125 rfl
          refine yes_is (j := 14) (d := 122) (b := true) rfl rfl h122 (do_call rfl Try.func12 (by kernel_rfl) (by kernel_rfl) (args := #[(vb)]) (by simp only [List.map_toArray, List.map_cons, List.map_nil, h125]) ?_)
          exact (cut_any W vb bs (HBb.out.up ((Ext.drew _).trans hx))).mono fun e w' ⟨v', he, hv, hx⟩ => ⟨v', he, hx, by rw [HB.out] at hv; exact hv.bs⟩
        refine Steps.cons_ (step_mk (Is (.string ⟨(B).toArray⟩)) rfl fun a W hx hE hO => ?_) ?_
        · have h122 : a.eval (.tmp 122) = (.bool true) := hE 14 (by kernel_rfl) 122 rfl
          have h126 : (BytesP B) (a.eval (.tmp 126)) W := hE 18 (by kernel_rfl) 126 rfl
          refine yes_is (j := 14) (d := 122) (b := true) rfl rfl h122 ?_
          exact do_string rfl Try.underlying25 Try.underlying5 Try.underlying9 h126 rfl
        refine Steps.cons_ (step_mk (Is (.bool true)) rfl fun a W hx hE hO => ?_) ?_
        · have h122 : a.eval (.tmp 122) = (.bool true) := hE 14 (by kernel_rfl) 122 rfl
          have h124 : a.eval (.tmp 124) = (.string ⟨(B).toArray⟩) := hE 16 (by kernel_rfl) 124 rfl
          have h127 : a.eval (.tmp 127) = (.string ⟨(B).toArray⟩) := hE 19 (by kernel_rfl) 127 rfl
          exact yes_is (j := 14) (d := 122) (b := true) rfl rfl h122 (do_bin (v := (.bool true)) rfl h124 h127 (by simp [go_sem]) rfl)
        refine Steps.cons_ (step_mk (Is (.bool true)) rfl fun a W hx hE hO => ?_) ?_
        · have h122 : a.eval (.tmp 122) = (.bool true) := hE 14 (by kernel_rfl) 122 rfl
          have h128 : a.eval (.tmp 128) = (.bool true) := hE 20 (by kernel_rfl) 128 rfl
          exact yes_none rfl (do_pick rfl h122 h128)
        refine Steps.cons_ (step_mk (Is (.bool true)) rfl fun a W hx hE hO => ?_) ?_
        · have h129 : a.eval (.tmp 129) = (.bool true) := hE 21 (by kernel_rfl) 129 rfl
          exact yes_none rfl (do_move rfl h129)
        refine Steps.cons_ (step_mk (Is (.bool true)) rfl fun a W hx hE hO => ?_) ?_
        · have h130 : a.eval (.tmp 130) = (.bool true) := hE 22 (by kernel_rfl) 130 rfl
          refine yes_is (j := 22) (d := 130) (b := true) rfl rfl h130 (do_call rfl Try.func11 (by kernel_rfl) (by kernel_rfl) (args := #[]) (by simp) ?_)
          exact (awake_any W).mono fun e w' ⟨he, hx⟩ => ⟨_, he, hx, rfl⟩
        refine Steps.cons_ (step_mk (Is (.bool true)) rfl fun a W hx hE hO => ?_) ?_
        · have h130 : a.eval (.tmp 130) = (.bool true) := hE 22 (by kernel_rfl) 130 rfl
          have h131 : a.eval (.tmp 131) = (.bool true) := hE 23 (by kernel_rfl) 131 rfl
          exact yes_none rfl (do_pick rfl h130 h131)
        refine Steps.cons_ (step_mk (Is (.bool true)) rfl fun a W hx hE hO => ?_) ?_
        · have h132 : a.eval (.tmp 132) = (.bool true) := hE 24 (by kernel_rfl) 132 rfl
          exact yes_none rfl (do_assign rfl h132)
        exact Steps.nil_
      · intro a W hx hd hE hO
        have h6 : a.eval (.tmp 6) = (.bool true) := hE 25 (of_decide_eq_true (by kernel_rfl)) 6 rfl
        go_wp2
        exact bodyPost_ret (results_tmp rfl _ _ _) hd ⟨congrArg Ending.returned h6, Ext.trans Hx0.out (Ext.trans Hx14.out hx)⟩
    · have hx0 := bencode_bad w1 s _ l (Hv.out.up Hx1.out) Hs.out h0
      have hzz : (([] : List UInt8).length : Int) = 0 := rfl
      generalize batE (s, l) = E at hx0 h0
      have hne : ((E : Int) == 0) = false := beq_eq_false_iff_ne.2 fun h => h0 (Int.ofNat.inj h)
      have hne2 : ((E : Int) != 0) = true := by rw [bne, hne]; rfl
      clear hbo
      go_wp2_with fail
      refine hx0.mono ?_
      rintro e w3 ⟨rfl, hx⟩
      have Hx3 := Lib.hid (Ext.trans Hx1.out hx)
      clear hx b0 b1 hx0
      go_wp2_with fail
      refine (awake_any w3).mono ?_
      rintro e w4 ⟨rfl, hx⟩
      have Hx4 := Lib.hid (Ext.trans Hx0.out (Ext.trans Hx3.out hx))
      clear hx
      go_wp2
      go_ret
      exact ⟨rfl, Hx4.out⟩
theorem evback_row (w : World) (v vb : Value) (bs : List UInt8) (a : Int) (x : Bat) {n : Nat} (o : ∃ cs, v = .agg cs ∧ cs.size = n) (wa : (Lit.int .u16 a).wf = true) (h : Rep.r w (Bw w) v.cells.toList x) (hb : SL w (Bw w) vb bs) :
    Calls Try.prog 4 #[v, vb, .int .u16 a] w fun e w' => e = .returned (.bool true) ∧ Ext w w' := by
  obtain ⟨u, rfl, h6, hu⟩ := bat_arg o h
  exact evback_any w x.1 u vb x.2 bs a hu h6 hb (by simpa [Lit.wf, IntKind.min, IntKind.max, IntKind.signed, IntKind.bits] using wa)
end Go.Proofs.Ytbnjhpknagkiaaa
