/-
  Contract of the reference's block.
  Conditions: entries that may be, not more than 1000.
-/
import Derived.Test.YtmgbhmmmegknjaaDf
namespace Go.Proofs.Ytmgbhmmmegknjaa
open Go.RowKit Go.Op

set_option maxHeartbeats 8000000 in
set_option maxRecDepth 100000 in
theorem rblock_any (w : World) (v : Value) (l : List Ent) (hv : SL w (Bw w) v l) (hok : ∀ e ∈ l, eOk e = true) (hl : l.length ≤ 1000) :
    Calls Try.prog 28 #[v] w fun e w' => ∃ u, e = .returned u ∧ Own w' w.heap.size u (esby [] l) ∧ Ext w w' := by
  obtain ⟨A, c, rfl, hc, hm⟩ := hv.form
  have hm' : (l.length : Int) ≤ 9223372036854775807 := by unfold maxLen at hm; omega
  have Hv := Lib.hid hv
  have Hok := Lib.hid hok
  clear hv hm hok
  go_enter Try.func28, Try.ntmps28
  go_wp2_with fail
  go_loopw [3, 4, 5] (fun b x i wr => ∃ k : Nat, i = .int .i64 k ∧ k ≤ l.length ∧ x = .string ⟨(tlast [] (l.take k)).toArray⟩ ∧ Own wr w.heap.size b (esby [] (l.take k)) ∧ Ext w wr) (fun _ _ i _ => l.length - (intOf i).toNat)
  case atStart => exact ⟨0, rfl, Nat.zero_le _, rfl, Own.nil_ _ _, Below.refl _ _⟩
  case round =>
    obtain ⟨k, rfl, hk, rfl, ho, hx⟩ := hrel
    have Hx := Lib.hid hx
    have Ho := Lib.hid ho
    by_cases hlt : k < l.length
    · obtain ⟨ad, rfl, _, hc0, hc1, hc2, hc3, h1, h2, h3, h4⟩ := Hv.out.ent_at hlt
      have hklt : (k : Int) < l.length := by omega
      have hk0 : (0 : Int) ≤ (k : Int) := Int.natCast_nonneg _
      have hok := Hok.out l[k] (List.getElem_mem hlt)
      have hsn := esby_snoc (l.take k) l[k] []
      have hnx := tlast_snoc (l.take k) l[k] []
      rw [← take_nextE l hlt] at hsn hnx
      have hlen := esby_len (l.take k) [] (fun e he => Hok.out e (List.mem_of_mem_take he))
      have htl : (tlast [] (l.take k)).length ≤ 65 := by
        rcases k with _ | j
        · simp [tlast]
        · rw [take_nextE l (by omega), tlast_snoc]
          exact (eOk_spec (Hok.out l[j] (List.getElem_mem (by omega)))).1
      rw [List.length_take] at hlen
      have hlen' : (esby [] (l.take k)).length ≤ 115000 := by omega
      generalize l[k] = N at hc0 hc1 hc2 hc3 h1 h2 h3 h4 hok hsn hnx
      obtain ⟨⟨t⟩, x, y, z⟩ := N
      dsimp only at hc0 hc1 hc2 hc3 h1 h2 h3 h4 hsn hnx
      obtain ⟨ht, hpx, hpy, hpz⟩ := eOk_spec hok
      dsimp only at ht hpx hpy hpz
      generalize tlast [] (l.take k) = L at htl hsn
      generalize esby [] (l.take k) = PB at hsn hlen' Ho
      have hK := (sh_le L t).2
      have hby : eby L (⟨t⟩, x, y, z) = enc (sh L t) ++ (enc (t.drop (sh L t)).length ++ t.drop (sh L t)) ++ (enc x.toNat ++ (enc y.toNat ++ enc z.toNat)) := rfl
      rw [hby] at hsn
      generalize hKe : sh L t = K at hK hsn
      have HKe := Lib.hid hKe
      have Hsn := Lib.hid hsn
      have Hnx := Lib.hid hnx
      have Hc0 := Lib.hid hc0
      have Hc1 := Lib.hid hc1
      have Hc2 := Lib.hid hc2
      have Hc3 := Lib.hid hc3
      have q0 := Ext.keeps Hx.out hc0
      have eK := enc_len10 (n := (K : Int).toNat) (U64.mk (by omega))
      have eX := enc_len10 (n := x.toNat) (U64.mk (by omega))
      have eY := enc_len10 (n := y.toNat) (U64.mk (by omega))
      have eZ := enc_len10 (n := z.toNat) (U64.mk (by omega))
      have eT := enc_len10 (n := (t.drop K).length) (U64.mk (by rw [List.length_drop]; omega))
      have lT : (t.drop K).length ≤ 65 := by rw [List.length_drop]; omega
      have HSZ : Hid ((ByteArray.mk (t.drop K).toArray).size = (t.drop K).length) := Lib.hid (by show (t.drop K).toArray.size = _; simp)
      have HEX : Hid ((ByteArray.mk t.toArray).extract K t.length = ⟨(t.drop K).toArray⟩) := Lib.hid (by rw [ByteArray.extract_mk, List.take_of_length_le (by rw [List.length_drop]; omega)])
      have s1 : (0 : Int) ≤ (K : Int) ∧ (K : Int) ≤ 67108864 := by omega
      have s2 : PB.length + (enc (K : Int).toNat).length ≤ 100000000 := by omega
      have s3 : (ByteArray.mk (t.drop K).toArray).size ≤ 1000000 := by rw [HSZ.out]; omega
      have s4 : (PB ++ enc (K : Int).toNat).length + (enc (t.drop K).length ++ t.drop K).length ≤ 100000000 := by simp only [List.length_append]; omega
      clear hKe hsn hnx hc0 hc1 hc2 hc3 hx ho hby h1 h2 h3 h4
      go_wp2_with fail
      refine (rshared_any wr L t (by omega) (by omega)).mono ?_
      rintro e w1 ⟨rfl, hx1⟩
      rw [HKe.out]
      have Y1 := Lib.hid hx1
      clear hx1 q0
      go_wp2_with fail
      go_region_held3 (fun w' => w'.cell? (ad.add (k * 4)) = some (.string ⟨t.toArray⟩))
        (first
          | exact Ext.keeps x5 Hc0.out
          | exact Ext.keeps x4 Hc0.out
          | exact Ext.keeps x3 Hc0.out
          | exact Ext.keeps x2 Hc0.out
          | exact Ext.keeps (Ext.trans (Ext.trans Hx.out Y1.out) (Ext.drew _)) Hc0.out
          | fail)
        (first
          | (go_at_call 27
             refine (num_any _ (K : Int) s1.1 s1.2).mono ?_
             rintro e w2 ⟨v2, rfl, ho2, hx2⟩
             have y2 := Ext.trans (Ext.trans Y1.out (Ext.drew _)) hx2
             have x2 := Ext.trans Hx.out y2)
          | (go_at_call 45
             rw [HEX.out]
             refine (rtext_any _ ⟨(t.drop K).toArray⟩ s3).mono ?_
             rintro e w4 ⟨v4, rfl, ho4, hx4⟩
             rw [HSZ.out, sl_mk] at ho4
             have x4 := Ext.trans x3 hx4)
          | (refine step_append_bytes _ (by rfl) (.tmp 20) (.tmp 22) (by rfl) w.heap.size _ PB (by rfl) (Own.ext Ho.out y2) _ v2 _ (by rfl) (Own.bs ho2) s2 x2.size ?_
             intro v3 w3 ho3 hg3 hat3
             have x3 := (GrowO.append hg3 hat3).ext x2 rfl (own_ge Ho.out))
          | (refine step_append_bytes _ (by rfl) (.tmp 23) (.tmp 31) (by rfl) w.heap.size _ _ (by rfl) (Own.ext ho3 hx4) _ v4 _ (by rfl) (Own.bs ho4) s4 x4.size ?_
             intro v5 w5 ho5 hg5 hat5
             have x5 := (GrowO.append hg5 hat5).ext x4 rfl (own_ge ho3))
          | fail)
      have hl5 : (PB ++ enc (K : Int).toNat ++ (enc (t.drop K).length ++ t.drop K)).length ≤ 116000 := by simp only [List.length_append]; omega
      generalize hB5 : PB ++ enc (K : Int).toNat ++ (enc (t.drop K).length ++ t.drop K) = B5 at ho5 hl5
      have HB5 := Lib.hid hB5
      have Ho5 := Lib.hid ho5
      have X5 := Lib.hid x5
      have s5 : B5.length + (enc x.toNat).length ≤ 100000000 := by omega
      have s6 : (B5 ++ enc x.toNat).length + (enc y.toNat).length ≤ 100000000 := by simp only [List.length_append]; omega
      have s7 : (B5 ++ enc x.toNat ++ enc y.toNat).length + (enc z.toNat).length ≤ 100000000 := by simp only [List.length_append]; omega
      clear ho2 hx2 y2 x2 ho3 hg3 hat3 x3 ho4 hx4 x4 ho5 hg5 hat5 x5 hB5
      go_wp2_with fail
      go_region_held3 (fun w' => w'.cell? ⟨(ad.add (k * 4)).block, (ad.add (k * 4)).off + 1, none⟩ = some (.int .i64 x) ∧ w'.cell? ⟨(ad.add (k * 4)).block, (ad.add (k * 4)).off + 2, none⟩ = some (.int .i64 y) ∧ w'.cell? ⟨(ad.add (k * 4)).block, (ad.add (k * 4)).off + 3, none⟩ = some (.int .i64 z))
        (first
          | exact ⟨Ext.keeps x11 Hc1.out, Ext.keeps x11 Hc2.out, Ext.keeps x11 Hc3.out⟩
          | exact ⟨Ext.keeps x10 Hc1.out, Ext.keeps x10 Hc2.out, Ext.keeps x10 Hc3.out⟩
          | exact ⟨Ext.keeps x9 Hc1.out, Ext.keeps x9 Hc2.out, Ext.keeps x9 Hc3.out⟩
          | exact ⟨Ext.keeps x8 Hc1.out, Ext.keeps x8 Hc2.out, Ext.keeps x8 Hc3.out⟩
          | exact ⟨Ext.keeps x7 Hc1.out, Ext.keeps x7 Hc2.out, Ext.keeps x7 Hc3.out⟩
          | exact ⟨Ext.keeps x6 Hc1.out, Ext.keeps x6 Hc2.out, Ext.keeps x6 Hc3.out⟩
          | exact ⟨Ext.keeps (Ext.trans X5.out (Ext.drew _)) Hc1.out, Ext.keeps (Ext.trans X5.out (Ext.drew _)) Hc2.out, Ext.keeps (Ext.trans X5.out (Ext.drew _)) Hc3.out⟩
          | fail)
        (first
          | (go_at_call 27
             refine (num_any w5.drew x hpx.1 hpx.2).mono ?_
             rintro e w6 ⟨v6, rfl, ho6, hx6⟩
             have y6 := Ext.trans (Ext.drew w5) hx6
             have x6 := Ext.trans X5.out y6)
          | (go_at_call 27
             refine (num_any w7 y hpy.1 hpy.2).mono ?_
             rintro e w8 ⟨v8, rfl, ho8, hx8⟩
             have x8 := Ext.trans x7 hx8)
          | (go_at_call 27
             refine (num_any w9 z hpz.1 hpz.2).mono ?_
             rintro e w10 ⟨v10, rfl, ho10, hx10⟩
             have x10 := Ext.trans x9 hx10)
          | (refine step_append_bytes _ (by rfl) (.tmp 33) (.tmp 39) (by rfl) w.heap.size _ B5 (by rfl) (Own.ext Ho5.out y6) _ v6 _ (by rfl) (Own.bs ho6) s5 x6.size ?_
             intro v7 w7 ho7 hg7 hat7
             have x7 := (GrowO.append hg7 hat7).ext x6 rfl (own_ge Ho5.out))
          | (refine step_append_bytes _ (by rfl) (.tmp 40) (.tmp 46) (by rfl) w.heap.size _ _ (by rfl) (Own.ext ho7 hx8) _ v8 _ (by rfl) (Own.bs ho8) s6 x8.size ?_
             intro v9 w9 ho9 hg9 hat9
             have x9 := (GrowO.append hg9 hat9).ext x8 rfl (own_ge ho7))
          | (refine step_append_bytes _ (by rfl) (.tmp 47) (.tmp 53) (by rfl) w.heap.size _ _ (by rfl) (Own.ext ho9 hx10) _ v10 _ (by rfl) (Own.bs ho10) s7 x10.size ?_
             intro v11 w11 ho11 hg11 hat11
             have x11 := (GrowO.append hg11 hat11).ext x10 rfl (own_ge ho9))
          | fail)
      have hfin : B5 ++ enc x.toNat ++ enc y.toNat ++ enc z.toNat = esby [] (l.take (k + 1)) := by
        rw [Hsn.out, ← HB5.out, Int.toNat_natCast]
        simp only [List.append_assoc]
      rw [hfin] at ho11
      have Ho11 := Lib.hid ho11
      have q0 := Ext.keeps x11 Hc0.out
      have X11 := Lib.hid x11
      clear ho6 hx6 y6 x6 ho7 hg7 hat7 x7 ho8 hx8 x8 ho9 hg9 hat9 x9 ho10 hx10 x10 ho11 hg11 hat11 x11 hfin
      go_wp2_with fail
      go_roundw
      case rel => exact ⟨k + 1, rfl, by omega, by rw [Hnx.out], Ho11.out, X11.out⟩
      case measure => simp only [intOf]; omega
    · have hlt' : ¬(k : Int) < l.length := by omega
      rw [List.take_of_length_le (by omega)] at Ho
      clear hx ho
      go_wp2
      go_ret
      exact ⟨_, rfl, Ho.out, Hx.out⟩

end Go.Proofs.Ytmgbhmmmegknjaa
