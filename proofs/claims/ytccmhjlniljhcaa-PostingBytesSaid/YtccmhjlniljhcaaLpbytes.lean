/-
  The law PostingBytes: for whatever posts and bytes it returns true.
  Conditions: none.
-/
import Derived.Test.YtccmhjlniljhcaaQw
namespace Go.Proofs.Ytccmhjlniljhcaa
open Go.RowKit

set_option maxHeartbeats 3200000 in
set_option maxRecDepth 100000 in
theorem pbytes_any (w : World) (u v : Value) (l : List Post) (bs : List UInt8) (hu : SL w (Bw w) u l) (hv : SL w (Bw w) v bs) :
    Calls Try.prog 3 #[u, v] w fun e w' => e = .returned (.bool true) ∧ Ext w w' := by
  have Hu := Lib.hid hu
  have Hv := Lib.hid hv
  clear hu hv
  go_enter Try.func3, Try.ntmps3
  go_wp2_with fail
  refine (few_any w u l Hu.out).mono ?_
  rintro e w1 ⟨u1, rfl, hu1, hx⟩
  have hwt := wt_few l
  generalize few l = L at hu1 hwt
  have Hu1 := Lib.hid hu1
  have Hv1 := Lib.hid (SL.up Hv.out hx)
  have Hx1 := Lib.hid hx
  clear hu1 hx
  go_wp2_with fail
  refine (cut_any w1 v bs Hv1.out).mono ?_
  rintro e w2 ⟨v2, rfl, hv2, hx⟩
  have hbl : (bs.take 600).length ≤ 20000 := by rw [List.length_take]; omega
  generalize bs.take 600 = B at hv2 hbl
  have Hv2 := Lib.hid hv2
  have Hu2 := Lib.hid (SL.up Hu1.out hx)
  have Hx2 := Lib.hid (Ext.trans Hx1.out hx)
  clear hv2 hx
  go_wp2_with fail
  refine (encode_any w2 u1 L Hu2.out (by omega)).mono ?_
  rintro e w3 ⟨x3, rfl, hs3, hx⟩
  have Hs3 := Lib.hid hs3
  have Hv3 := Lib.hid (SL.up Hv2.out hx)
  have Hu3 := Lib.hid (SL.up Hu2.out hx)
  have Hx3 := Lib.hid (Ext.trans Hx2.out hx)
  clear hs3 hx
  go_wp2_with fail
  refine (rencode_any w3 u1 L Hu3.out (by omega)).mono ?_
  rintro e w4 ⟨y4, rfl, hy4, hx⟩
  have Hy4 := Lib.hid hy4
  have Hs4 := Lib.hid (SL.up Hs3.out hx)
  have Hv4 := Lib.hid (SL.up Hv3.out hx)
  have Hx4 := Lib.hid (Ext.trans Hx3.out hx)
  clear hy4 hx
  go_wp2_with fail
  refine (decode_any w4 v2 B Hv4.out.bs hbl).mono ?_
  rintro e w5 ⟨p5, l5, E5, rfl, hp5, hd5, hx⟩
  have Hd5 := Lib.hid hd5
  have Hp5 := Lib.hid hp5
  have Hy5 := Lib.hid (SL.up Hy4.out hx)
  have Hs5 := Lib.hid (SL.up Hs4.out hx)
  have Hv5 := Lib.hid (SL.up Hv4.out hx)
  have Hx5 := Lib.hid (Ext.trans Hx4.out hx)
  clear hp5 hd5 hx
  go_wp2_with fail
  refine (rdecode_any w5 v2 B Hv5.out.bs hbl).mono ?_
  rintro e w6 ⟨q6, l6, E6, rfl, hq6, hd6, hx⟩
  obtain ⟨rfl, rfl⟩ := DecIs.unique hbl hd6 Hd5.out
  have Hq6 := Lib.hid hq6
  have Hp6 := Lib.hid (SL.up Hp5.out hx)
  have Hy6 := Lib.hid (SL.up Hy5.out hx)
  have Hs6 := Lib.hid (SL.up Hs5.out hx)
  have Hv6 := Lib.hid (SL.up Hv5.out hx)
  have Hx6 := Lib.hid (Ext.trans Hx5.out hx)
  clear hq6 hd6 hx
  go_wp2_with fail
  refine (count_any w6 v2 B Hv6.out.bs hbl).mono ?_
  rintro e w7 ⟨l7, E7, rfl, hd7, hx⟩
  obtain ⟨rfl, rfl⟩ := DecIs.unique hbl hd7 Hd5.out
  have Hq7 := Lib.hid (SL.up Hq6.out hx)
  have Hp7 := Lib.hid (SL.up Hp6.out hx)
  have hy7 := SL.up Hy6.out hx
  have hs7 := SL.up Hs6.out hx
  have Hx7 := Lib.hid (Ext.trans Hx6.out hx)
  obtain ⟨Aq, cq, rfl, _, _⟩ := Hq7.out.form
  have c1 : (convert 23 9 x3).run Try.prog w7 = .ok (.string ⟨(pencE L).toArray⟩) w7 := str_of_bs hs7.bs _ rfl
  have c2 : (convert 23 9 y4).run Try.prog w7 = .ok (.string ⟨(pencE L).toArray⟩) w7 := str_of_bs hy7.bs _ rfl
  generalize pencE L = P at c1 c2
  clear hy7 hs7 hd7 hx Hd5
  go_wp2_with fail
  refine (rsame_any w7 p5 _ l7 l7 Hp7.out Hq7.out).mono ?_
  rintro e w8 ⟨rfl, hx⟩
  rw [decide_eq_true rfl]
  have Hx8 := Lib.hid (Ext.trans Hx7.out hx)
  clear hx
  go_wp2_with fail
  refine (awake_any w8).mono ?_
  rintro e w9 ⟨rfl, hx⟩
  have Hx9 := Lib.hid (Ext.trans Hx8.out hx)
  clear hx
  go_wp2
  go_ret
  exact ⟨rfl, Hx9.out⟩

end Go.Proofs.Ytccmhjlniljhcaa
