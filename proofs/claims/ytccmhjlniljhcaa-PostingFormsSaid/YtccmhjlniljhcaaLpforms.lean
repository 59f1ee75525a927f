/-
  The law PostingForms: for whatever two rows it returns true.
  Conditions: none.
-/
import Derived.Test.YtccmhjlniljhcaaQw
import Derived.Test.YtccmhjlniljhcaaQy
import Derived.Test.YtccmhjlniljhcaaQz
import Derived.Test.YtccmhjlniljhcaaQi
namespace Go.Proofs.Ytccmhjlniljhcaa
open Go.RowKit

set_option maxHeartbeats 3200000 in
set_option maxRecDepth 100000 in
theorem pforms_any (w : World) (u v : Value) (l m : List Post) (hu : SL w (Bw w) u l) (hv : SL w (Bw w) v m) :
    Calls Try.prog 6 #[u, v] w fun e w' => e = .returned (.bool true) ∧ Ext w w' := by
  have Hu := Lib.hid hu
  have Hv := Lib.hid hv
  clear hu hv
  go_enter Try.func6, Try.ntmps6
  go_wp2_with fail
  refine (few_any w u l Hu.out).mono ?_
  rintro e w1 ⟨u1, rfl, hu1, hx⟩
  have hL : (few l).length ≤ 1000000 := by unfold few; rw [List.length_map, List.length_take]; omega
  generalize few l = L at hu1 hL
  have Hu1 := Lib.hid hu1
  have Hv1 := Lib.hid (SL.up Hv.out hx)
  have Hx1 := Lib.hid hx
  clear hu1 hx
  go_wp2_with fail
  refine (few_any w1 v m Hv1.out).mono ?_
  rintro e w2 ⟨v2, rfl, hv2, hx⟩
  generalize few m = M at hv2
  have Hv2 := Lib.hid hv2
  have Hu2 := Lib.hid (SL.up Hu1.out hx)
  have Hx2 := Lib.hid (Ext.trans Hx1.out hx)
  clear hv2 hx
  go_wp2_with fail
  refine (check_any w2 u1 L Hu2.out).mono ?_
  rintro e w3 ⟨rfl, hx⟩
  have Hu3 := Lib.hid (SL.up Hu2.out hx)
  have Hv3 := Lib.hid (SL.up Hv2.out hx)
  have Hx3 := Lib.hid (Ext.trans Hx2.out hx)
  clear hx
  generalize hE : (if psOk L = true then (0 : Int) else 80) = E
  have HE := Lib.hid hE
  clear hE
  go_wp2_with fail
  refine (rcheck_any w3 u1 L Hu3.out).mono ?_
  rintro e w4 ⟨rfl, hx⟩
  rw [HE.out]
  have Hu4 := Lib.hid (SL.up Hu3.out hx)
  have Hv4 := Lib.hid (SL.up Hv3.out hx)
  have Hx4 := Lib.hid (Ext.trans Hx3.out hx)
  clear hx
  go_wp2_with fail
  refine (docs_any w4 u1 L Hu4.out hL).mono ?_
  rintro e w5 ⟨d5, rfl, hd5, hx⟩
  have Hu5 := Lib.hid (SL.up Hu4.out hx)
  have Hv5 := Lib.hid (SL.up Hv4.out hx)
  have Hx5 := Lib.hid (Ext.trans Hx4.out hx)
  have Hd5 := Lib.hid hd5
  clear hx hd5
  go_wp2_with fail
  refine (rdocs_any w5 u1 L Hu5.out hL).mono ?_
  rintro e w6 ⟨d6, rfl, hd6, hx⟩
  have Hu6 := Lib.hid (SL.up Hu5.out hx)
  have Hv6 := Lib.hid (SL.up Hv5.out hx)
  have Hx6 := Lib.hid (Ext.trans Hx5.out hx)
  have Hd6 := Lib.hid (SL.up Hd5.out hx)
  have Hf6 := Lib.hid hd6
  clear hx hd6
  go_wp2_with fail
  refine (samei_any w6 d5 d6 _ _ Hd6.out Hf6.out).mono ?_
  rintro e w7 ⟨rfl, hx⟩
  rw [decide_eq_true rfl]
  have Hu7 := Lib.hid (SL.up Hu6.out hx)
  have Hv7 := Lib.hid (SL.up Hv6.out hx)
  have Hx7 := Lib.hid (Ext.trans Hx6.out hx)
  clear hx
  go_wp2_with fail
  refine (same_any w7 u1 v2 L M Hu7.out Hv7.out).mono ?_
  rintro e w8 ⟨rfl, hx⟩
  generalize hD : decide (L = M) = D
  have HD := Lib.hid hD
  have Hu8 := Lib.hid (SL.up Hu7.out hx)
  have Hv8 := Lib.hid (SL.up Hv7.out hx)
  have Hx8 := Lib.hid (Ext.trans Hx7.out hx)
  clear hx hD
  go_wp2_with fail
  refine (rsame_any w8 u1 v2 L M Hu8.out Hv8.out).mono ?_
  rintro e w9 ⟨rfl, hx⟩
  rw [HD.out]
  have tD : (D == D) = true := by simp
  have Hu9 := Lib.hid (SL.up Hu8.out hx)
  have Hx9 := Lib.hid (Ext.trans Hx8.out hx)
  clear hx
  go_wp2_with fail
  refine (same_any w9 u1 u1 L L Hu9.out Hu9.out).mono ?_
  rintro e w10 ⟨rfl, hx⟩
  rw [decide_eq_true rfl]
  have Hx10 := Lib.hid (Ext.trans Hx9.out hx)
  clear hx
  go_wp2_with fail
  refine (awake_any w10).mono ?_
  rintro e w11 ⟨rfl, hx⟩
  have Hx11 := Lib.hid (Ext.trans Hx10.out hx)
  clear hx
  go_wp2
  go_ret
  exact ⟨rfl, Hx11.out⟩

end Go.Proofs.Ytccmhjlniljhcaa
