/-
  The law StoredBack: for whatever row, bytes and number it returns true.
  Conditions: none.
-/
import Derived.Test.YtnajmpkdeenkbaaEz
import Derived.Test.YtnajmpkdeenkbaaHa
namespace Go.Proofs.Ytnajmpkdeenkbaa
open Go.RowKit Go.ChangeShapes Go.WideShapes

set_option maxHeartbeats 3200000 in
set_option maxRecDepth 100000 in
theorem sback_any (w : World) (u v : Value) (l : List Doc) (bs : List UInt8) (at_ : Int) (hu : SL w (Bw w) u l) (hv : SL w (Bw w) v bs) (ha : 0 ≤ at_ ∧ at_ ≤ 65535) :
    Calls Try.prog 4 #[u, v, .int .u16 at_] w fun e w' => e = .returned (.bool true) ∧ Ext w w' := by
  have Hu := Lib.hid hu
  have Hv := Lib.hid hv
  clear hu hv
  go_enter Try.func4, Try.ntmps4
  go_wp2_with fail
  refine (few_any w u l Hu.out).mono ?_
  rintro e w1 ⟨u1, L, R1, rfl, hu1, hR1, hR0, hlt, hx⟩
  have hfew : Few L := by
    refine ⟨?_, hlt⟩
    cases R1 with
    | true => rw [hR1 rfl, List.length_take]; omega
    | false => rw [hR0 rfl]; simp
  have Hu1 := Lib.hid hu1
  have Hv1 := Lib.hid (SL.up Hv.out hx)
  have Hx1 := Lib.hid hx
  have Hfew := Lib.hid hfew
  clear hu1 hx hfew hR1 hR0 hlt
  cases R1 with
  | false =>
    go_wp2_with fail
    refine (awake_any w1).mono ?_
    rintro e w3 ⟨rfl, hx⟩
    have Hx3 := Lib.hid (Ext.trans Hx1.out hx)
    clear hx
    go_wp2
    go_ret
    exact ⟨rfl, Hx3.out⟩
  | true =>
    go_wp2_with fail
    cases hok : sOk L with
    | false =>
      refine (sencode_bad w1 u1 L Hu1.out hok).mono ?_
      rintro e W0 ⟨rfl, hx⟩
      have Hv0 := Lib.hid (SL.up Hv1.out hx)
      have Hx0 := Lib.hid (Ext.trans Hx1.out hx)
      clear hx
      go_wp2_with fail
      refine (cut_any W0 v bs Hv0.out).mono ?_
      rintro e wa ⟨v2, rfl, hv2, hx⟩
      have hbl : (bs.take 900).length ≤ 900 := by rw [List.length_take]; omega
      generalize bs.take 900 = B at hv2 hbl
      have hbl9 : B.length ≤ 90000 := by omega
      have Hva := Lib.hid hv2
      have Hxa := Lib.hid (Ext.trans Hx0.out hx)
      clear hv2 hx
      go_wp2_with fail
      refine (sdecode_any wa v2 B Hva.out.bs hbl9).mono ?_
      rintro e w5 ⟨p5, l5, E5, rfl, hp5, hd5, hx⟩
      have Hv5 := Lib.hid (SL.up Hva.out hx)
      have Hx5 := Lib.hid (Ext.trans Hxa.out hx)
      have Hp5 := Lib.hid hp5
      clear hp5 hx
      rcases hd5 with ⟨hr5, hpe, rfl⟩ | ⟨_, rfl, rfl⟩
      · have hlen := senc_len l5
        have hdl := dby_le_senc l5
        rw [hpe] at hlen hdl
        have Hpe := Lib.hid hpe
        clear hpe
        go_wp2_with fail
        refine (sencode_ok w5 p5 l5 Hp5.out hr5 (by omega) (by omega)).mono ?_
        rintro e w6 ⟨u6, rfl, ho6, hx⟩
        rw [Hpe.out] at ho6
        have hv6 := SL.up Hv5.out hx
        have Hx6 := Lib.hid (Ext.trans Hx5.out hx)
        have c1 : (convert 23 9 u6).run Try.prog w6 = .ok (.string ⟨B.toArray⟩) w6 := str_of_bs (Own.bs ho6) _ rfl
        have c2 : (convert 23 9 v2).run Try.prog w6 = .ok (.string ⟨B.toArray⟩) w6 := str_of_bs hv6.bs _ rfl
        clear ho6 hv6 hx
        go_wp2_with fail
        refine (awake_any w6).mono ?_
        rintro e w7 ⟨rfl, hx⟩
        have Hx7 := Lib.hid (Ext.trans Hx6.out hx)
        clear hx
        go_wp2
        go_ret
        exact ⟨rfl, Hx7.out⟩
      · obtain ⟨Ap, cp, rfl, _, _⟩ := Hp5.out.form
        go_wp2_with fail
        refine (awake_any w5).mono ?_
        rintro e w7 ⟨rfl, hx⟩
        have Hx7 := Lib.hid (Ext.trans Hx5.out hx)
        clear hx
        go_wp2
        go_ret
        exact ⟨rfl, Hx7.out⟩
    | true =>
      have hrow : Row L := ⟨hok, by
        obtain ⟨A, c, e, _⟩ := Hu1.out.form
        have := Hu1.out
        rw [e] at this
        exact this.tms⟩
      refine (sencode_ok w1 u1 L Hu1.out hrow (by have := Hfew.out.dby hrow; omega) (by have := Hfew.out.len; omega)).mono ?_
      rintro e w3 ⟨x3, rfl, ho3, hx⟩
      have Hv3 := Lib.hid (SL.up Hv1.out hx)
      have Hu3 := Lib.hid (SL.up Hu1.out hx)
      have Hx3 := Lib.hid (Ext.trans Hx1.out hx)
      have hpl := Hfew.out.senc hrow
      have hp0 := senc_pos L
      have hdi : DecIs (senc L) L 0 := .inl ⟨hrow, rfl, rfl⟩
      have hbeg : ∀ k m E, k < (senc L).length → DecIs ((senc L).take k) m E → E = 120 := fun k m E hk h => dec_begin hrow (by omega) hk h
      generalize senc L = P at ho3 hpl hp0 hdi hbeg
      have hp40 : P.length ≤ 1099511627776 := by omega
      have hpl9 : P.length ≤ 90000 := by omega
      have hb3 := (Own.bs ho3).sl
      obtain ⟨Ax, cx, rfl, hcx, hmx⟩ := hb3.form
      have hcxi : (P.length : Int) ≤ (cx : Int) := by omega
      have hcxm : (cx : Int) ≤ 9223372036854775807 := by unfold maxLen at hmx; omega
      have Hb3 := Lib.hid hb3
      have Hdi := Lib.hid hdi
      have Hbeg := Lib.hid hbeg
      clear hx ho3 hb3 hdi hbeg hrow hok
      go_wp2_with fail
      refine (sdecode_any w3 _ P Hb3.out.bs hpl9).mono ?_
      rintro e w4 ⟨p4, l4, E4, rfl, hp4, hd4, hx⟩
      obtain ⟨rfl, rfl⟩ := DecIs.same hp40 hd4 Hdi.out
      have Hp4 := Lib.hid hp4
      have Hb4 := Lib.hid (SL.up Hb3.out hx)
      have Hv4 := Lib.hid (SL.up Hv3.out hx)
      have Hu4 := Lib.hid (SL.up Hu3.out hx)
      have Hx4 := Lib.hid (Ext.trans Hx3.out hx)
      clear hx hp4 hd4
      go_wp2_with fail
      refine (samedocs_any w4 p4 u1 _ _ Hp4.out Hu4.out).mono ?_
      rintro e w4b ⟨rfl, hx⟩
      rw [decide_eq_true rfl]
      have Hb5 := Lib.hid (SL.up Hb4.out hx)
      have Hv5 := Lib.hid (SL.up Hv4.out hx)
      have Hx5 := Lib.hid (Ext.trans Hx4.out hx)
      clear hx
      obtain ⟨N, rfl⟩ : ∃ N : Nat, at_ = (N : Int) := ⟨at_.toNat, by omega⟩
      obtain ⟨k, hk1, hk2⟩ : ∃ k : Nat, k = N % P.length ∧ k < P.length := ⟨_, rfl, Nat.mod_lt N hp0⟩
      have hmod : (N : Int) % (P.length : Int) = (k : Int) := by rw [hk1, Int.natCast_emod]
      have htmod : (N : Int).tmod (P.length : Int) = (k : Int) := by rw [Int.tmod_eq_emod_of_nonneg (by omega), hmod]
      have hpz : ((P.length : Int) == 0) = false := beq_eq_false_iff_ne.2 (by omega)
      have hpn : ¬(P.length : Int) = 0 := by omega
      have hkP : (k : Int) < (P.length : Int) := by omega
      clear hk1
      go_wp2_with fail
      refine (sdecode_any w4b _ (P.take k) (SL.bs (SL.take_ Hb5.out (by omega))) (by rw [List.length_take]; omega)).mono ?_
      rintro e W0 ⟨p6, l6, E6, rfl, hp6, hd6, hx⟩
      obtain rfl := Hbeg.out k l6 E6 hk2 hd6
      have Hv0 := Lib.hid (SL.up Hv5.out hx)
      have Hx0 := Lib.hid (Ext.trans Hx5.out hx)
      clear hx hp6 hd6
      go_wp2_with fail
      refine (cut_any W0 v bs Hv0.out).mono ?_
      rintro e wa ⟨v2, rfl, hv2, hx⟩
      have hbl : (bs.take 900).length ≤ 900 := by rw [List.length_take]; omega
      generalize bs.take 900 = B at hv2 hbl
      have hbl9 : B.length ≤ 90000 := by omega
      have Hva := Lib.hid hv2
      have Hxa := Lib.hid (Ext.trans Hx0.out hx)
      clear hv2 hx
      go_wp2_with fail
      refine (sdecode_any wa v2 B Hva.out.bs hbl9).mono ?_
      rintro e w5 ⟨p5, l5, E5, rfl, hp5, hd5, hx⟩
      have Hv5 := Lib.hid (SL.up Hva.out hx)
      have Hx5 := Lib.hid (Ext.trans Hxa.out hx)
      have Hp5 := Lib.hid hp5
      clear hp5 hx
      rcases hd5 with ⟨hr5, hpe, rfl⟩ | ⟨_, rfl, rfl⟩
      · have hlen := senc_len l5
        have hdl := dby_le_senc l5
        rw [hpe] at hlen hdl
        have Hpe := Lib.hid hpe
        clear hpe
        go_wp2_with fail
        refine (sencode_ok w5 p5 l5 Hp5.out hr5 (by omega) (by omega)).mono ?_
        rintro e w6 ⟨u6, rfl, ho6, hx⟩
        rw [Hpe.out] at ho6
        have hv6 := SL.up Hv5.out hx
        have Hx6 := Lib.hid (Ext.trans Hx5.out hx)
        have c1 : (convert 23 9 u6).run Try.prog w6 = .ok (.string ⟨B.toArray⟩) w6 := str_of_bs (Own.bs ho6) _ rfl
        have c2 : (convert 23 9 v2).run Try.prog w6 = .ok (.string ⟨B.toArray⟩) w6 := str_of_bs hv6.bs _ rfl
        clear ho6 hv6 hx
        go_wp2_with fail
        refine (awake_any w6).mono ?_
        rintro e w7 ⟨rfl, hx⟩
        have Hx7 := Lib.hid (Ext.trans Hx6.out hx)
        clear hx
        go_wp2
        go_ret
        exact ⟨rfl, Hx7.out⟩
      · obtain ⟨Ap, cp, rfl, _, _⟩ := Hp5.out.form
        go_wp2_with fail
        refine (awake_any w5).mono ?_
        rintro e w7 ⟨rfl, hx⟩
        have Hx7 := Lib.hid (Ext.trans Hx5.out hx)
        clear hx
        go_wp2
        go_ret
        exact ⟨rfl, Hx7.out⟩

theorem sback_row (w : World) (u v : Value) (l : List Doc) (bs : List UInt8) (a : Int) (wa : (Lit.int .u16 a).wf = true) (hu : SL w (Bw w) u l) (hv : SL w (Bw w) v bs) :
    Calls Try.prog 4 #[u, v, .int .u16 a] w fun e w' => e = .returned (.bool true) ∧ Ext w w' :=
  sback_any w u v l bs a hu hv (by simpa [Lit.wf, IntKind.min, IntKind.max, IntKind.signed, IntKind.bits] using wa)

end Go.Proofs.Ytnajmpkdeenkbaa
