/-
  The law StoredForms: for whatever two rows it returns true.
  Conditions: none.
-/
import Derived.Test.YtnajmpkdeenkbaaEz
namespace Go.Proofs.Ytnajmpkdeenkbaa
open Go.RowKit

set_option maxHeartbeats 3200000 in
set_option maxRecDepth 100000 in
theorem sforms_any (w : World) (u v : Value) (l m : List Doc) (hu : SL w (Bw w) u l) (hv : SL w (Bw w) v m) :
    Calls Try.prog 5 #[u, v] w fun e w' => e = .returned (.bool true) ∧ Ext w w' := by
  have Hu := Lib.hid hu
  have Hv := Lib.hid hv
  clear hu hv
  go_enter Try.func5, Try.ntmps5
  go_wp2_with fail
  refine (few_any w u l Hu.out).mono ?_
  rintro e w1 ⟨u1, L, R1, rfl, hu1, _, _, _, hx⟩
  have Hu1 := Lib.hid hu1
  have Hv1 := Lib.hid (SL.up Hv.out hx)
  have Hx1 := Lib.hid hx
  clear hu1 hx
  go_wp2_with fail
  refine (few_any w1 v m Hv1.out).mono ?_
  rintro e w2 ⟨v2, M, R2, rfl, hv2, _, _, _, hx⟩
  have Hv2 := Lib.hid hv2
  have Hu2 := Lib.hid (SL.up Hu1.out hx)
  have Hx2 := Lib.hid (Ext.trans Hx1.out hx)
  clear hv2 hx
  cases R1 with
  | false =>
    go_wp2_with fail
    refine (awake_any w2).mono ?_
    rintro e w3 ⟨rfl, hx⟩
    have Hx3 := Lib.hid (Ext.trans Hx2.out hx)
    clear hx
    go_wp2
    go_ret
    exact ⟨rfl, Hx3.out⟩
  | true =>
    cases R2 with
    | false =>
      go_wp2_with fail
      refine (awake_any w2).mono ?_
      rintro e w3 ⟨rfl, hx⟩
      have Hx3 := Lib.hid (Ext.trans Hx2.out hx)
      clear hx
      go_wp2
      go_ret
      exact ⟨rfl, Hx3.out⟩
    | true =>
      generalize hE : errS L = E
      have HE := Lib.hid hE
      clear hE
      go_wp2_with fail
      refine (scheck_any w2 u1 L Hu2.out).mono ?_
      rintro e w3 ⟨rfl, hx⟩
      rw [HE.out]
      have Hu3 := Lib.hid (SL.up Hu2.out hx)
      have Hv3 := Lib.hid (SL.up Hv2.out hx)
      have Hx3 := Lib.hid (Ext.trans Hx2.out hx)
      clear hx
      go_wp2_with fail
      refine (rscheck_any w3 u1 L Hu3.out).mono ?_
      rintro e w4 ⟨rfl, hx⟩
      rw [HE.out]
      have Hu4 := Lib.hid (SL.up Hu3.out hx)
      have Hv4 := Lib.hid (SL.up Hv3.out hx)
      have Hx4 := Lib.hid (Ext.trans Hx3.out hx)
      clear hx
      go_wp2_with fail
      refine (ssame_any w4 u1 v2 L M Hu4.out Hv4.out).mono ?_
      rintro e w5 ⟨rfl, hx⟩
      generalize hD : decide (L = M) = D
      have HD := Lib.hid hD
      have Hu5 := Lib.hid (SL.up Hu4.out hx)
      have Hv5 := Lib.hid (SL.up Hv4.out hx)
      have Hx5 := Lib.hid (Ext.trans Hx4.out hx)
      clear hx hD
      go_wp2_with fail
      refine (samedocs_any w5 u1 v2 L M Hu5.out Hv5.out).mono ?_
      rintro e w6 ⟨rfl, hx⟩
      rw [HD.out]
      have Hu6 := Lib.hid (SL.up Hu5.out hx)
      have Hx6 := Lib.hid (Ext.trans Hx5.out hx)
      clear hx
      go_wp2_with fail
      refine (ssame_any w6 u1 u1 L L Hu6.out Hu6.out).mono ?_
      rintro e w7 ⟨rfl, hx⟩
      rw [decide_eq_true (rfl : L = L)]
      have Hx7 := Lib.hid (Ext.trans Hx6.out hx)
      clear hx
      go_wp2_with fail
      refine (awake_any w7).mono ?_
      rintro e w8 ⟨rfl, hx⟩
      have Hx8 := Lib.hid (Ext.trans Hx7.out hx)
      clear hx
      go_wp2
      go_ret
      exact ⟨rfl, Hx8.out⟩

end Go.Proofs.Ytnajmpkdeenkbaa
