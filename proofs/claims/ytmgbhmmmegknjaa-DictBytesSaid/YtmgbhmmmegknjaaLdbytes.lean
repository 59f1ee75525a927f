/-
  The law DictBytes returns true.
  Conditions: none.
-/
import Derived.Test.YtmgbhmmmegknjaaDy
namespace Go.Proofs.Ytmgbhmmmegknjaa
open Go.RowKit Go.Op

set_option maxHeartbeats 4000000 in
set_option maxRecDepth 100000 in
theorem dbytes_any (w : World) (u v : Value) (l : List Ent) (bs : List UInt8) (hu : SL w (Bw w) u l) (hv : SL w (Bw w) v bs) :
    Calls Try.prog 3 #[u, v] w fun e w' => e = .returned (.bool true) ∧ Ext w w' := by
  have Hu := Lib.hid hu
  have Hv := Lib.hid hv
  clear hu hv
  go_enter Try.func3, Try.ntmps3
  go_wp2_with fail
  refine (few_any w u l Hu.out).mono ?_
  rintro e w1 ⟨u1, rfl, hu1, hx⟩
  have Hu1 := Lib.hid hu1
  have Hv1 := Lib.hid (Hv.out.up hx)
  have Hx1 := Lib.hid hx
  have hl : (l.take 80).length ≤ 5000 := by rw [List.length_take]; omega
  generalize l.take 80 = L at Hu1 hl
  clear hu1 hx
  go_wp2_with fail
  refine (cut_any w1 v bs Hv1.out).mono ?_
  rintro e w2 ⟨v2, rfl, hv2, hx⟩
  have Hv2 := Lib.hid hv2
  have Hu2 := Lib.hid (Hu1.out.up hx)
  have Hx2 := Lib.hid (Ext.trans Hx1.out hx)
  have hb : (bs.take 4000).length ≤ 4000 := by rw [List.length_take]; omega
  generalize bs.take 4000 = B at Hv2 hb
  clear hv2 hx
  go_wp2_with fail
  refine (encode_any w2 _ L Hu2.out hl).mono ?_
  rintro e w3 ⟨x3, rfl, ho3, hx⟩
  have Hb3 := Lib.hid (Own.bs ho3)
  have Hu3 := Lib.hid (Hu2.out.up hx)
  have Hv3 := Lib.hid (Hv2.out.up hx)
  have Hx3 := Lib.hid (Ext.trans Hx2.out hx)
  clear ho3 hx
  go_wp2_with fail
  refine (rencode_any w3 _ L Hu3.out hl).mono ?_
  rintro e w4 ⟨y4, rfl, ho4, hx⟩
  have Hy4 := Lib.hid (Own.bs ho4)
  have Hb4 := Lib.hid (BS.up' Hb3.out hx)
  have Hv4 := Lib.hid (Hv3.out.up hx)
  have Hx4 := Lib.hid (Ext.trans Hx3.out hx)
  clear ho4 hx
  generalize encE L = EB at Hy4 Hb4
  generalize errE L = EE
  go_wp2_with fail
  refine (open_any w4 _ B (Hv4.out.bs) (by omega)).mono ?_
  rintro e w5 ⟨d, E, rfl, hop, hx⟩
  have Hy5 := Lib.hid (BS.up' Hy4.out hx)
  have Hb5 := Lib.hid (BS.up' Hb4.out hx)
  have Hv5 := Lib.hid (Hv4.out.up hx)
  have Hx5 := Lib.hid (Ext.trans Hx4.out hx)
  have hpe : ∃ p, d = .pointer p := by
    rcases hop with ⟨m, _, _, _, _, D, dv, rfl, _⟩ | ⟨_, _, rfl⟩
    · exact ⟨_, rfl⟩
    · exact ⟨_, rfl⟩
  obtain ⟨p, rfl⟩ := hpe
  have Hop := Lib.hid hop
  clear hx hop
  go_wp2_with fail
  refine (rdecode_any w5 _ B (Hv5.out.bs) hb).mono ?_
  rintro e w6 ⟨r, R, F, rfl, hr, hdi, hx⟩
  have c1 : (convert 23 9 x3).run Try.prog w6 = .ok (.string ⟨EB.toArray⟩) w6 := str_of_bs (BS.up' Hb5.out hx) _ rfl
  have c2 : (convert 23 9 y4).run Try.prog w6 = .ok (.string ⟨EB.toArray⟩) w6 := str_of_bs (BS.up' Hy5.out hx) _ rfl
  have hne := ba_nn (rfl : EB = EB)
  have Hx6 := Lib.hid (Ext.trans Hx5.out hx)
  have Hxl := Lib.hid hx
  have Hr := Lib.hid hr
  rcases Hop.out with ⟨m, h1, h2, h3, rfl, hda⟩ | ⟨hno, rfl, hp⟩
  · obtain ⟨rfl, rfl⟩ := DIs.same (.inl ⟨rfl, h1, h2⟩) hdi
    have Hd := Lib.hid (show DAny w6 (.pointer p) m true from .inl ⟨rfl, h1, h3, hda.at_.ext hx⟩)
    obtain ⟨D, dv, hp, _⟩ := hda
    injection hp with hp
    subst hp
    clear h1 h2 h3 hdi hx hr Hop
    go_wp2_with fail
    refine (all_any w6 _ m true Hd.out).mono ?_
    rintro e w7 ⟨v7, rfl, hv7, hx⟩
    have Hv7 := Lib.hid hv7
    have Hr7 := Lib.hid (Hr.out.up hx)
    have Hx7 := Lib.hid (Ext.trans Hx6.out hx)
    clear hv7 hx c1 c2
    go_wp2_with fail
    refine (rsame_any w7 _ _ m m Hv7.out Hr7.out).mono ?_
    rintro e w8 ⟨rfl, hx⟩
    rw [decide_eq_true rfl]
    have Hx8 := Lib.hid (Ext.trans Hx7.out hx)
    clear hx
    go_wp2_with fail
    refine (awake_any w8).mono ?_
    rintro e w9 ⟨rfl, hx⟩
    have Hx9 := Lib.hid (Ext.trans Hx8.out hx)
    clear hx
    go_wp2
    go_ret
    exact ⟨rfl, Hx9.out⟩
  · obtain ⟨rfl, rfl⟩ := DIs.same (.inr ⟨rfl, rfl, hno⟩) hdi
    injection hp with hp
    subst hp
    clear hno hdi hx hr Hop
    go_wp2_with fail
    refine (awake_any w6).mono ?_
    rintro e w9 ⟨rfl, hx⟩
    have Hx9 := Lib.hid (Ext.trans Hx6.out hx)
    clear hx c1 c2
    go_wp2
    go_ret
    exact ⟨rfl, Hx9.out⟩

end Go.Proofs.Ytmgbhmmmegknjaa
