/-
  The law DictBack returns true.
  Conditions: none.
-/
import Derived.Test.YtmgbhmmmegknjaaDy
namespace Go.Proofs.Ytmgbhmmmegknjaa
open Go.RowKit Go.Op

set_option maxHeartbeats 4000000 in
set_option maxRecDepth 100000 in
theorem dback_any (w : World) (u v : Value) (l : List Ent) (bs : List UInt8) (hu : SL w (Bw w) u l) (hv : SL w (Bw w) v bs) :
    Calls Try.prog 4 #[u, v] w fun e w' => e = .returned (.bool true) ∧ Ext w w' := by
  have Hu := Lib.hid hu
  have Hv := Lib.hid hv
  clear hu hv
  go_enter Try.func4, Try.ntmps4
  go_wp2_with fail
  refine (few_any w u l Hu.out).mono ?_
  rintro e w1 ⟨u1, rfl, hu1, hx⟩
  have Hu1 := Lib.hid hu1
  have Hv1 := Lib.hid (Hv.out.up hx)
  have Hx1 := Lib.hid hx
  have hl80 : (l.take 80).length ≤ 80 := by rw [List.length_take]; omega
  have hl : (l.take 80).length ≤ 5000 := by omega
  generalize l.take 80 = L at Hu1 hl hl80
  clear hu1 hx
  go_wp2_with fail
  refine (cut_any w1 v bs Hv1.out).mono ?_
  rintro e w2 ⟨v2, rfl, hv2, hx⟩
  have Hv2 := Lib.hid hv2
  have Hu2 := Lib.hid (Hu1.out.up hx)
  have Hx2 := Lib.hid (Ext.trans Hx1.out hx)
  have hb : (bs.take 4000).length ≤ 4000 := by rw [List.length_take]; omega
  generalize bs.take 4000 = B at Hv2 hb hv2
  obtain ⟨A2, c2, rfl, _, _⟩ := hv2.form
  clear hv2 hx
  go_wp2_with fail
  refine (encode_any w2 _ L Hu2.out hl).mono ?_
  rintro e w3 ⟨x3, rfl, ho3, hx⟩
  have Hb3 := Lib.hid (Own.bs ho3)
  have Hu3 := Lib.hid (Hu2.out.up hx)
  have Hv3 := Lib.hid (Hv2.out.up hx)
  have Hx3 := Lib.hid (Ext.trans Hx2.out hx)
  clear ho3 hx
  have rest : ∀ (W : World), Ext w3 W → SL W (Bw W) (.slice A2 B.length c2) B ∧ Ext w W := fun W hx => ⟨Hv3.out.up hx, Ext.trans Hx3.out hx⟩
  have hEt : esOk L = true → (((errE L : Nat) : Int) == 0) = true := fun h => by unfold errE; rw [if_pos h]; rfl
  have hEf : esOk L = false → (((errE L : Nat) : Int) == 0) = false := fun h => by unfold errE; rw [h]; rfl
  generalize errE L = EE at hEt hEf
  have HEt := Lib.hid hEt
  have HEf := Lib.hid hEf
  clear hEt hEf
  go_upto_if 23 with (fail)
  go_cut [7, 8] (fun _ _ wx => Ext w3 wx)
  case first =>
    cases hok : esOk L with
    | true =>
      have he : encE L = denc L := by unfold encE; rw [if_pos hok]
      have hr := HEt.out hok
      rw [he] at Hb3
      have hll : (denc L).length ≤ 20000 := by
        have h := esOk_spec hok
        have e1 := enc_len10 (n := L.length) (U64.mk (by omega))
        have := dblk_len L.length L (upw_mem h.1) (by omega)
        unfold denc
        rw [List.length_append]
        omega
      have Hok := Lib.hid hok
      clear he hok
      go_wp2_with fail
      refine (open_any w3 _ (denc L) Hb3.out hll).mono ?_
      rintro e w4 ⟨d, E, rfl, hop, hx⟩
      obtain ⟨rfl, hd, ⟨D, rfl⟩, _⟩ := hop.of Hok.out rfl
      have Hd := Lib.hid hd
      have Hu4 := Lib.hid (Hu3.out.up hx)
      have Hx4 := Lib.hid hx
      clear hop hd hx
      go_wp2_with fail
      refine (all_any w4 _ L true Hd.out).mono ?_
      rintro e w5 ⟨v5, rfl, hv5, hx⟩
      have Hv5 := Lib.hid hv5
      have Hu5 := Lib.hid (Hu4.out.up hx)
      have Hx5 := Lib.hid (Ext.trans Hx4.out hx)
      clear hv5 hx
      go_wp2_with fail
      refine (rsame_any w5 _ _ L L Hv5.out Hu5.out).mono ?_
      rintro e w6 ⟨rfl, hx⟩
      rw [decide_eq_true rfl]
      have Hx6 := Lib.hid (Ext.trans Hx5.out hx)
      clear hx
      go_wp2_with fail
      go_meet
      exact Hx6.out
    | false =>
      have hr := HEf.out hok
      clear hok
      go_wp2_with fail
      go_meet
      exact Below.refl _ _
  case rest =>
    obtain ⟨Hv4, Hx4⟩ := rest _ hcut
    have Hv4 := Lib.hid Hv4
    have Hx4 := Lib.hid Hx4
    clear hcut rest
    go_wp2_with fail
    refine (open_any wc _ B (Hv4.out.bs) (by omega)).mono ?_
    rintro e w5 ⟨d, E, rfl, hop, hx⟩
    have Hv5 := Lib.hid (Hv4.out.up hx)
    have Hx5 := Lib.hid (Ext.trans Hx4.out hx)
    rcases hop with ⟨m, h1, h2, h3, rfl, hda⟩ | ⟨hno, rfl, rfl⟩
    · have Hd := Lib.hid (show DAny w5 d m true from .inl ⟨rfl, h1, h3, hda.at_⟩)
      obtain ⟨D, dv, rfl, _⟩ := hda
      have Hm := Lib.hid h1
      have He := Lib.hid h2
      clear h1 h2 hx
      go_wp2_with fail
      refine (all_any w5 _ m true Hd.out).mono ?_
      rintro e w6 ⟨v6, rfl, hv6, hx⟩
      have Hv6 := Lib.hid hv6
      have Hb6 := Lib.hid (Hv5.out.up hx)
      have Hx6 := Lib.hid (Ext.trans Hx5.out hx)
      clear hv6 hx
      go_wp2_with fail
      refine (encode_ok w6 _ m Hv6.out Hm.out h3).mono ?_
      rintro e w7 ⟨x7, rfl, ho, hx⟩
      rw [He.out] at ho
      have c1 : (convert 23 9 x7).run Try.prog w7 = .ok (.string ⟨B.toArray⟩) w7 := str_of_bs (Own.bs ho) _ rfl
      have c2' : (convert 23 9 (.slice A2 B.length c2)).run Try.prog w7 = .ok (.string ⟨B.toArray⟩) w7 := str_of_bs (Hb6.out.up hx).bs _ rfl
      have hne := ba_nn (rfl : B = B)
      have Hx7 := Lib.hid (Ext.trans Hx6.out hx)
      clear ho hx
      go_wp2_with fail
      refine (awake_any w7).mono ?_
      rintro e w8 ⟨rfl, hx⟩
      have Hx8 := Lib.hid (Ext.trans Hx7.out hx)
      clear hx c1 c2'
      go_wp2
      go_ret
      exact ⟨rfl, Hx8.out⟩
    · clear hno hx
      go_wp2_with fail
      refine (awake_any w5).mono ?_
      rintro e w6 ⟨rfl, hx⟩
      have Hx6 := Lib.hid (Ext.trans Hx5.out hx)
      clear hx
      go_wp2
      go_ret
      exact ⟨rfl, Hx6.out⟩

end Go.Proofs.Ytmgbhmmmegknjaa
