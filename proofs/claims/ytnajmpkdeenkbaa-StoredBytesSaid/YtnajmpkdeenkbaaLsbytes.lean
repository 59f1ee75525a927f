/-
  The law StoredBytes: for whatever row and bytes it returns true.
  Conditions: none.
-/
import Derived.Test.YtnajmpkdeenkbaaEz
namespace Go.Proofs.Ytnajmpkdeenkbaa
open Go.RowKit

set_option maxHeartbeats 3200000 in
set_option maxRecDepth 100000 in
theorem sbytes_any (w : World) (u v : Value) (l : List Doc) (bs : List UInt8) (hu : SL w (Bw w) u l) (hv : SL w (Bw w) v bs) :
    Calls Try.prog 3 #[u, v] w fun e w' => e = .returned (.bool true) ∧ Ext w w' := by
  have Hu := Lib.hid hu
  have Hv := Lib.hid hv
  clear hu hv
  go_enter Try.func3, Try.ntmps3
  go_wp2_with fail
  refine (few_any w u l Hu.out).mono ?_
  rintro e w1 ⟨u1, L, R1, rfl, hu1, hR1, hR0, hlt, hx⟩
  have hfew : Few L := by
    refine ⟨?_, hlt⟩
    cases R1 with
    | true => rw [hR1 rfl, List.length_take]; omega
    | false => rw [hR0 rfl]; simp
  have Hu1 := Lib.hid hu1
  have Hv1 := Lib.hid (SL.up Hv.out hx)
  have Hx1 := Lib.hid hx
  have Hfew := Lib.hid hfew
  clear hu1 hx hfew hR1 hR0 hlt
  cases R1 with
  | false =>
    go_wp2_with fail
    refine (awake_any w1).mono ?_
    rintro e w3 ⟨rfl, hx⟩
    have Hx3 := Lib.hid (Ext.trans Hx1.out hx)
    clear hx
    go_wp2
    go_ret
    exact ⟨rfl, Hx3.out⟩
  | true =>
    go_wp2_with fail
    refine (cut_any w1 v bs Hv1.out).mono ?_
    rintro e w2 ⟨v2, rfl, hv2, hx⟩
    have hbl : (bs.take 900).length ≤ 90000 := by rw [List.length_take]; omega
    generalize bs.take 900 = B at hv2 hbl
    have hb40 : B.length ≤ 1099511627776 := by omega
    have Hv2 := Lib.hid hv2
    have Hu2 := Lib.hid (SL.up Hu1.out hx)
    have Hx2 := Lib.hid (Ext.trans Hx1.out hx)
    clear hv2 hx
    generalize hE : errS L = E
    have HE := Lib.hid hE
    generalize hS : encS L = S
    have HS := Lib.hid hS
    clear hE hS
    go_wp2_with fail
    refine (sencode_any w2 u1 L Hu2.out Hfew.out).mono ?_
    rintro e w3 ⟨x3, rfl, ho3, hx⟩
    rw [HE.out]
    rw [HS.out] at ho3
    have Ho3 := Lib.hid (Own.bs ho3)
    have Hu3 := Lib.hid (SL.up Hu2.out hx)
    have Hv3 := Lib.hid (SL.up Hv2.out hx)
    have Hx3 := Lib.hid (Ext.trans Hx2.out hx)
    clear hx ho3
    go_wp2_with fail
    refine (srencode_any w3 u1 L Hu3.out Hfew.out).mono ?_
    rintro e w4 ⟨x4, rfl, ho4, hx⟩
    rw [HE.out]
    rw [HS.out] at ho4
    have Ho4 := Lib.hid (Own.bs ho4)
    have Ho34 := Lib.hid (BS.up' Ho3.out hx)
    have Hv4 := Lib.hid (SL.up Hv3.out hx)
    have Hx4 := Lib.hid (Ext.trans Hx3.out hx)
    clear hx ho4
    go_wp2_with fail
    refine (sdecode_any w4 v2 B Hv4.out.bs hbl).mono ?_
    rintro e w5 ⟨d5, M, F, rfl, hs5, hd5, hx⟩
    have Hs5 := Lib.hid hs5
    have Hd5 := Lib.hid hd5
    have Ho35 := Lib.hid (BS.up' Ho34.out hx)
    have Ho45 := Lib.hid (BS.up' Ho4.out hx)
    have Hv5 := Lib.hid (SL.up Hv4.out hx)
    have Hx5 := Lib.hid (Ext.trans Hx4.out hx)
    clear hx hs5 hd5
    go_wp2_with fail
    refine (srdecode_any w5 v2 B Hv5.out.bs hbl).mono ?_
    rintro e w6 ⟨d6, M2, F2, rfl, hs6, hd6, hx⟩
    obtain ⟨rfl, rfl⟩ := DecIs.same hb40 Hd5.out hd6
    have Hs6 := Lib.hid hs6
    have Hs56 := Lib.hid (SL.up Hs5.out hx)
    have Ho36 := Lib.hid (BS.up' Ho35.out hx)
    have Ho46 := Lib.hid (BS.up' Ho45.out hx)
    have Hv6 := Lib.hid (SL.up Hv5.out hx)
    have Hx6 := Lib.hid (Ext.trans Hx5.out hx)
    clear hx hs6 hd6
    go_wp2_with fail
    refine (count_any w6 v2 B Hv6.out.bs hbl).mono ?_
    rintro e w7 ⟨M3, F3, rfl, hd7, hx⟩
    obtain ⟨rfl, rfl⟩ := DecIs.same hb40 Hd5.out hd7
    have Hs7 := Lib.hid (SL.up Hs6.out hx)
    have Hs57 := Lib.hid (SL.up Hs56.out hx)
    have c1 : (convert 23 9 x3).run Try.prog w7 = .ok (.string ⟨S.toArray⟩) w7 := str_of_bs (BS.up' Ho36.out hx) _ rfl
    have c2 : (convert 23 9 x4).run Try.prog w7 = .ok (.string ⟨S.toArray⟩) w7 := str_of_bs (BS.up' Ho46.out hx) _ rfl
    have Hx7 := Lib.hid (Ext.trans Hx6.out hx)
    obtain ⟨A6, c6, rfl, _⟩ := Hs7.out.form
    clear hx hd7
    go_wp2_with fail
    refine (samedocs_any w7 d5 _ M M Hs57.out Hs7.out).mono ?_
    rintro e w8 ⟨rfl, hx⟩
    rw [decide_eq_true (rfl : M = M)]
    have Hx8 := Lib.hid (Ext.trans Hx7.out hx)
    clear hx
    go_wp2_with fail
    refine (awake_any w8).mono ?_
    rintro e w9 ⟨rfl, hx⟩
    have Hx9 := Lib.hid (Ext.trans Hx8.out hx)
    clear hx
    go_wp2
    go_ret
    exact ⟨rfl, Hx9.out⟩

end Go.Proofs.Ytnajmpkdeenkbaa
