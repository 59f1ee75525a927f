/-
  The law PostingFinds: for whatever posts, bytes and doc it returns true.
  Conditions: none.
-/
import Derived.Test.YtccmhjlniljhcaaQw
import Derived.Test.YtccmhjlniljhcaaQx
import Derived.Test.YtccmhjlniljhcaaRc
namespace Go.Proofs.Ytccmhjlniljhcaa
open Go.RowKit

set_option maxHeartbeats 4000000 in
set_option maxRecDepth 100000 in
theorem pfinds_any (w : World) (u v : Value) (l : List Post) (bs : List UInt8) (doc : Int) (hu : SL w (Bw w) u l) (hv : SL w (Bw w) v bs) :
    Calls Try.prog 7 #[u, v, .int .i64 doc] w fun e w' => e = .returned (.bool true) ∧ Ext w w' := by
  have Hu := Lib.hid hu
  have Hv := Lib.hid hv
  clear hu hv
  go_enter Try.func7, Try.ntmps7
  go_wp2_with fail
  refine (few_any w u l Hu.out).mono ?_
  rintro e w1 ⟨u1, rfl, hu1, hx⟩
  have hwt := wt_few l
  have hL : (few l).length ≤ 100 := by unfold few; rw [List.length_map, List.length_take]; omega
  generalize few l = L at hu1 hwt hL
  obtain ⟨Au, cu, rfl, _, _⟩ := hu1.form
  have Hu1 := Lib.hid hu1
  have Hv1 := Lib.hid (SL.up Hv.out hx)
  have Hx1 := Lib.hid hx
  clear hu1 hx
  go_wp2_with fail
  refine (cut_any w1 v bs Hv1.out).mono ?_
  rintro e w2 ⟨v2, rfl, hv2, hx⟩
  have hbl : (bs.take 600).length ≤ 20000 := by rw [List.length_take]; omega
  generalize bs.take 600 = B at hv2 hbl
  have Hv2 := Lib.hid hv2
  have Hu2 := Lib.hid (SL.up Hu1.out hx)
  have Hx2 := Lib.hid (Ext.trans Hx1.out hx)
  clear hv2 hx
  go_wp2_with fail
  refine (find_any w2 v2 B doc Hv2.out.bs hbl).mono ?_
  rintro e w3 ⟨⟨p3, l3, E3, rfl, hd3, hp3⟩, hx⟩
  have Hd3 := Lib.hid hd3
  have Hp3 := Lib.hid hp3
  have Hv3 := Lib.hid (SL.up Hv2.out hx)
  have Hu3 := Lib.hid (SL.up Hu2.out hx)
  have Hx3 := Lib.hid (Ext.trans Hx2.out hx)
  clear hd3 hp3 hx
  go_wp2_with fail
  refine (rdecode_any w3 v2 B Hv3.out.bs hbl).mono ?_
  rintro e w4 ⟨q4, l4, E4, rfl, hq4, hd4, hx⟩
  obtain ⟨rfl, rfl⟩ := DecIs.unique hbl hd4 Hd3.out
  have Hq4 := Lib.hid hq4
  have Hp4 := Lib.hid (SL.up Hp3.out hx)
  have Hu4 := Lib.hid (SL.up Hu3.out hx)
  have Hx4 := Lib.hid (Ext.trans Hx3.out hx)
  clear hq4 hd4 hx Hd3
  go_wp2_with fail
  refine (rfind_any w4 q4 l4 doc Hq4.out).mono ?_
  rintro e w5 ⟨r5, rfl, hr5, hx⟩
  have Hr5 := Lib.hid hr5
  have Hp5 := Lib.hid (SL.up Hp4.out hx)
  have Hu5 := Lib.hid (SL.up Hu4.out hx)
  have Hx5 := Lib.hid (Ext.trans Hx4.out hx)
  clear hr5 hx
  generalize (fnd doc l4).isSome = S
  generalize (fnd doc l4).getD [] = F at Hr5 Hp5
  have tS : (S != S) = false := by simp
  go_wp2_with fail
  refine (samei_any w5 p3 r5 F F Hp5.out Hr5.out).mono ?_
  rintro e w6 ⟨rfl, hx⟩
  rw [decide_eq_true rfl]
  have Hu6 := Lib.hid (SL.up Hu5.out hx)
  have Hx6 := Lib.hid (Ext.trans Hx5.out hx)
  clear hx
  go_wp2_with fail
  cases hok : psOk L with
  | false =>
    refine (rencode_bad w6 _ L Hu6.out hok).mono ?_
    rintro e w7 ⟨rfl, hx⟩
    have Hx7 := Lib.hid (Ext.trans Hx6.out hx)
    clear hx
    go_wp2_with fail
    refine (awake_any w7).mono ?_
    rintro e w8 ⟨rfl, hx⟩
    have Hx8 := Lib.hid (Ext.trans Hx7.out hx)
    clear hx
    go_wp2
    go_ret
    exact ⟨rfl, Hx8.out⟩
  | true =>
    refine (rencode_ok w6 _ L Hu6.out hok (by omega)).mono ?_
    rintro e w7 ⟨x7, rfl, ho7, hx⟩
    have hpl := (penc_few hok hwt hL).1
    have hdi : DecIs (penc L) L 0 := .inl ⟨rfl, hok, rfl⟩
    have hri := ok_rise hok
    generalize penc L = P at ho7 hpl hdi
    have Hb7 := Lib.hid (Own.bs ho7).sl
    have Hu7 := Lib.hid (SL.up Hu6.out hx)
    have Hx7 := Lib.hid (Ext.trans Hx6.out hx)
    have Hdi := Lib.hid hdi
    have Hri := Lib.hid hri
    clear ho7 hx hdi hri
    go_wp2_with fail
    go_loopw [16] (fun i wr => ∃ k : Nat, i = .int .i64 k ∧ k ≤ L.length ∧ SL wr (Bw wr) x7 P ∧ SL wr (Bw wr) (.slice Au L.length cu) L ∧ Ext w wr) (fun i _ => L.length - (intOf i).toNat)
    case atStart => exact ⟨0, rfl, Nat.zero_le _, Hb7.out, Hu7.out, Hx7.out⟩
    case round =>
      rename World => wr
      obtain ⟨k, rfl, hk, hb, hu, hx⟩ := hrel
      have Hb := Lib.hid hb
      have Hu := Lib.hid hu
      have Hx := Lib.hid hx
      clear hb hx
      by_cases hlk : k < L.length
      · have hkl : (k : Int) < L.length := by omega
        obtain ⟨ad, up, rfl, _, hc0, hc1, hup, h6⟩ := hu.post_at hlk
        have hf := fnd_at k hlk Hri.out rfl
        generalize (L[k]).1 = D at hc0 hf
        generalize (L[k]).2 = PS at hc1 hf hup
        obtain ⟨Ap, cp, rfl, _, _⟩ := hup.form
        have Hf := Lib.hid hf
        have Hup := Lib.hid hup
        have Hc1 := Lib.hid hc1
        clear hu hf hup h6 hc1
        go_wp2_with fail
        refine (find_any wr x7 P D Hb.out.bs hpl).mono ?_
        rintro e w8 ⟨⟨p8, l8, E8, rfl, hd8, hp8⟩, hx⟩
        obtain ⟨rfl, rfl⟩ := DecIs.unique hpl hd8 Hdi.out
        rw [Hf.out] at hp8
        rw [Hf.out]
        have hc1 := Ext.keeps hx Hc1.out
        have Hp8 := Lib.hid hp8
        have Hb8 := Lib.hid (SL.up Hb.out hx)
        have Hu8 := Lib.hid (SL.up Hu.out hx)
        have Hup8 := Lib.hid (SL.up Hup.out hx)
        have Hx8 := Lib.hid (Ext.trans Hx.out hx)
        clear hd8 hp8 hx hc0
        go_wp2_with fail
        refine (samei_any w8 p8 _ PS PS Hp8.out Hup8.out).mono ?_
        rintro e w9 ⟨rfl, hx⟩
        rw [decide_eq_true rfl]
        have Hb9 := Lib.hid (SL.up Hb8.out hx)
        have Hu9 := Lib.hid (SL.up Hu8.out hx)
        have Hx9 := Lib.hid (Ext.trans Hx8.out hx)
        clear hx
        go_wp2_with fail
        go_roundw
        case rel => exact ⟨k + 1, rfl, by omega, Hb9.out, Hu9.out, Hx9.out⟩
        case measure => simp only [intOf]; omega
      · have hkl : ¬(k : Int) < L.length := by omega
        clear hu
        go_wp2_with fail
        refine (find_any wr x7 P doc Hb.out.bs hpl).mono ?_
        rintro e w8 ⟨⟨p8, l8, E8, rfl, hd8, hp8⟩, hx⟩
        obtain ⟨rfl, rfl⟩ := DecIs.unique hpl hd8 Hdi.out
        have Hu8 := Lib.hid (SL.up Hu.out hx)
        have Hx8 := Lib.hid (Ext.trans Hx.out hx)
        clear hd8 hp8 hx
        go_wp2_with fail
        refine (rfind_any w8 _ _ doc Hu8.out).mono ?_
        rintro e w9 ⟨r9, rfl, hr9, hx⟩
        have Hx9 := Lib.hid (Ext.trans Hx8.out hx)
        clear hr9 hx
        generalize (fnd doc l8).isSome = S2
        have tS2 : (S2 == S2) = true := by simp
        go_wp2_with fail
        refine (awake_any w9).mono ?_
        rintro e w10 ⟨rfl, hx⟩
        have Hx10 := Lib.hid (Ext.trans Hx9.out hx)
        clear hx
        go_wp2
        go_ret
        exact ⟨rfl, Hx10.out⟩

theorem pfinds_row (w : World) (u v : Value) (l : List Post) (bs : List UInt8) (a : Int) (hu : SL w (Bw w) u l) (hv : SL w (Bw w) v bs) :
    Calls Try.prog 7 #[u, v, .int .i64 a] w fun e w' => e = .returned (.bool true) ∧ Ext w w' := pfinds_any w u v l bs a hu hv

end Go.Proofs.Ytccmhjlniljhcaa
