/-
  Contract of the reference's SameBatch; the law EventCodes.
  Conditions: none.
-/
import Derived.Test.YtbnjhpknagkiaaaWh
import Derived.Test.YtbnjhpknagkiaaaWj
import Derived.Test.YtbnjhpknagkiaaaWf
import Derived.Deep.RegionHeld3
import Derived.Deep.DrawnRows
namespace Go.Proofs.Ytbnjhpknagkiaaa
open Go.RowKit Go.Op

theorem bat_eq (a b : Int) (l m : List Ev) : decide (((a, l) : Bat) = (b, m)) = (a == b && decide (l = m)) := by
  by_cases h1 : a = b <;> by_cases h2 : l = m <;> simp [h1, h2]

set_option maxHeartbeats 3200000 in
set_option maxRecDepth 100000 in
theorem samebatch_any (w : World) (a b : Int) (u v : Value) (l m : List Ev) (hu : SL w (Bw w) u l) (hv : SL w (Bw w) v m) :
    Calls Try.prog 17 #[.agg #[.int .i64 a, u], .agg #[.int .i64 b, v]] w fun e w' => e = .returned (.bool (decide (((a, l) : Bat) = (b, m)))) ∧ Ext w w' := by
  obtain ⟨A, c, rfl, hc, hm⟩ := hu.form
  obtain ⟨A', c', rfl, hc', hm'⟩ := hv.form
  have hml : (l.length : Int) ≤ 9223372036854775807 := by unfold maxLen at hm; omega
  have Hx0 : Hid (Ext w ((w.alloc (.cells #[.int .i64 a, .slice A l.length c] 24)).alloc (.cells #[.int .i64 b, .slice A' m.length c'] 24))) := Lib.hid (Ext.al (Ext.of_alloc _ _) _)
  have hS : ∀ W, Ext ((w.alloc (.cells #[.int .i64 a, .slice A l.length c] 24)).alloc (.cells #[.int .i64 b, .slice A' m.length c'] 24)) W → W.cell? ⟨w.heap.size, 1, none⟩ = some (.slice A l.length c) ∧ W.cell? ⟨w.heap.size + 1, 1, none⟩ = some (.slice A' m.length c') := fun W h => by
    have h1 := cell_new w #[.int .i64 a, .slice A l.length c] 24 1 (v := .slice A l.length c) rfl
    have h2 := cell_new (w.alloc (.cells #[.int .i64 a, .slice A l.length c] 24)) #[.int .i64 b, .slice A' m.length c'] 24 1 (v := .slice A' m.length c') rfl
    rw [World.size_alloc] at h2
    exact ⟨Ext.keeps h (Ext.keeps (Ext.of_alloc _ _) h1), Ext.keeps h h2⟩
  have HS := Lib.hid hS
  have Hu := Lib.hid hu
  have Hv := Lib.hid hv
  have he := bat_eq a b l m
  generalize decide (((a, l) : Bat) = (b, m)) = R at he ⊢
  have He := Lib.hid he
  clear he
  clear hu hv hS hm hm'
  by_cases hab : a = b
  · by_cases hl : l.length = m.length
    · have t1 : (a == b) = true := by simpa using hab
      have t1' : (a != b) = false := by simpa using hab
      have He2 := Lib.hid (show R = decide (l = m) by rw [He.out, t1, Bool.true_and])
      have tl : ((l.length : Int) != (m.length : Int)) = false := by simp [hl]
      have hle : l.length ≤ m.length := by omega
      have Hl := Lib.hid hl
      clear hab hl t1
      go_enter Try.func17, Try.ntmps17
      go_wp2_with fail
      go_loopw [5] (fun i wr => ∃ k : Nat, i = .int .i64 k ∧ k ≤ l.length ∧ l.take k = m.take k ∧ Ext ((w.alloc (.cells #[.int .i64 a, .slice A l.length c] 24)).alloc (.cells #[.int .i64 b, .slice A' m.length c'] 24)) wr) (fun i _ => l.length - (intOf i).toNat)
      case atStart => exact ⟨0, rfl, Nat.zero_le _, rfl, Below.refl _ _⟩
      case round =>
        obtain ⟨k, rfl, hk, heq, hx⟩ := hrel
        have Heq := Lib.hid heq
        have Hx := Lib.hid hx
        obtain ⟨b0, b1⟩ := HS.out _ hx
        clear heq
        by_cases hlt : k < l.length
        · have hklt : (k : Int) < l.length := by omega
          have hlt2 : k < m.length := by omega
          have hklt2 : (k : Int) < m.length := by omega
          obtain ⟨ad, u, rfl, _, d0, d1, hu, _⟩ := Hu.out.ev_at hlt
          obtain ⟨ad2, u2, rfl, _, f0, f1, hv, _⟩ := Hv.out.ev_at hlt2
          have htl := take_nextE l hlt
          have htm := take_nextE m hlt2
          have hll : l = m → l[k] = m[k] := fun h => by subst h; rfl
          generalize l[k] = N at d0 d1 hu htl hll
          generalize m[k] = N2 at f0 f1 hv htm hll
          obtain ⟨x, fs⟩ := N
          obtain ⟨y, gs⟩ := N2
          dsimp only at d0 d1 hu f0 f1 hv
          obtain ⟨Au, cu, rfl, _, _⟩ := hu.form
          obtain ⟨Av, cv, rfl, _, _⟩ := hv.form
          have HU := Lib.hid (hu.up (Ext.trans Hx0.out (Ext.trans hx (Ext.drew wr))))
          have HV := Lib.hid (hv.up (Ext.trans Hx0.out (Ext.trans hx (Ext.drew wr))))
          have Htl := Lib.hid htl
          have Htm := Lib.hid htm
          have Hll := Lib.hid hll
          have hR : decide (((x, fs) : Ev) = (y, gs)) = true → ((x, fs) : Ev) = (y, gs) := of_decide_eq_true
          have hR2 : decide (((x, fs) : Ev) = (y, gs)) = false → ¬((x, fs) : Ev) = (y, gs) := of_decide_eq_false
          generalize hQ : decide (((x, fs) : Ev) = (y, gs)) = Q at hR hR2
          have HQ := Lib.hid hQ
          have HR := Lib.hid hR
          have HR2 := Lib.hid hR2
          have hS2 : ∀ W, Ext wr W → W.cell? ⟨w.heap.size, 1, none⟩ = some (.slice (some ad) l.length c) ∧ W.cell? ⟨w.heap.size + 1, 1, none⟩ = some (.slice (some ad2) m.length c') ∧ W.cell? (ad.add (k * 2)) = some (.int .i64 x) ∧ W.cell? ⟨(ad.add (k * 2)).block, (ad.add (k * 2)).off + 1, none⟩ = some (.slice Au fs.length cu) ∧
              W.cell? (ad2.add (k * 2)) = some (.int .i64 y) ∧ W.cell? ⟨(ad2.add (k * 2)).block, (ad2.add (k * 2)).off + 1, none⟩ = some (.slice Av gs.length cv) := fun W h =>
            ⟨(HS.out _ (Ext.trans Hx.out h)).1, (HS.out _ (Ext.trans Hx.out h)).2, Ext.keeps (Ext.trans Hx0.out (Ext.trans Hx.out h)) d0, Ext.keeps (Ext.trans Hx0.out (Ext.trans Hx.out h)) d1, Ext.keeps (Ext.trans Hx0.out (Ext.trans Hx.out h)) f0, Ext.keeps (Ext.trans Hx0.out (Ext.trans Hx.out h)) f1⟩
          have HS2 := Lib.hid hS2
          clear hu hv hx htl htm hll hR hR2 hS2 d0 d1 f0 f1 hQ
          go_wp2_with fail
          go_region_held3 (fun W => W.cell? ⟨w.heap.size, 1, none⟩ = some (.slice (some ad) l.length c) ∧ W.cell? ⟨w.heap.size + 1, 1, none⟩ = some (.slice (some ad2) m.length c') ∧ W.cell? (ad.add (k * 2)) = some (.int .i64 x) ∧ W.cell? ⟨(ad.add (k * 2)).block, (ad.add (k * 2)).off + 1, none⟩ = some (.slice Au fs.length cu) ∧
              W.cell? (ad2.add (k * 2)) = some (.int .i64 y) ∧ W.cell? ⟨(ad2.add (k * 2)).block, (ad2.add (k * 2)).off + 1, none⟩ = some (.slice Av gs.length cv))
            (first
              | exact HS2.out _ x2
              | exact HS2.out _ (Ext.drew _)
              | fail)
            (first
              | (go_at_call 20
                 refine (rsame_any _ x y _ _ fs gs HU.out HV.out).mono ?_
                 rintro e w2 ⟨rfl, hx2⟩
                 rw [HQ.out]
                 have x2 := Ext.trans (Ext.drew wr) hx2)
              | fail)
          have HX := Lib.hid (Ext.trans Hx.out x2)
          clear hx2 x2 b0 b1
          cases hRb : Q with
          | true =>
            have He := Lib.hid (HR.out hRb)
            clear HR HR2
            go_wp2
            exact ⟨⟨k + 1, rfl, by omega, by rw [Htl.out, Htm.out, Heq.out, He.out], HX.out⟩, by simp only [intOf]; omega⟩
          | false =>
            have He := Lib.hid (HR2.out hRb)
            clear HR HR2
            go_wp2
            go_ret
            exact ⟨by rw [He2.out, decide_eq_false (fun h => He.out (Hll.out h))]; rfl, Ext.trans Hx0.out HX.out⟩
        · have hklt : ¬(k : Int) < l.length := by omega
          have hd : decide (l = m) = true := decide_eq_true (by
            have := Hl.out
            have h2 := Heq.out
            rw [List.take_of_length_le (by omega), List.take_of_length_le (by omega)] at h2
            exact h2)
          have Hd := Lib.hid hd
          clear hd hx
          go_wp2
          go_ret
          exact ⟨by rw [He2.out, Hd.out]; rfl, Ext.trans Hx0.out Hx.out⟩
    · have t1' : (a != b) = false := by simpa using hab
      have tl : ((l.length : Int) != (m.length : Int)) = true := by rw [bne_iff_ne]; omega
      have Hd := Lib.hid (show R = false by rw [He.out, decide_eq_false (fun h => hl (by rw [h])), Bool.and_false])
      clear hab hl
      go_enter Try.func17, Try.ntmps17
      go_wp2
      go_ret
      exact ⟨by rw [Hd.out]; rfl, Hx0.out⟩
  · have t1' : (a != b) = true := by simpa using hab
    have Hd := Lib.hid (show R = false by rw [He.out, show (a == b) = false by simpa using hab, Bool.false_and])
    clear hab
    go_enter Try.func17, Try.ntmps17
    go_wp2
    go_ret
    exact ⟨by rw [Hd.out]; rfl, Hx0.out⟩

theorem SL.ev6 {w : World} {S : Nat → Prop} {v : Value} {l : List Ev} (h : SL w S v l) : ∀ e ∈ l, I6 e.1 := by
  obtain ⟨A, c, rfl, _⟩ := h.form
  intro e he
  obtain ⟨i, hi, rfl⟩ := List.getElem_of_mem he
  obtain ⟨_, _, _, _, _, _, _, h6⟩ := h.ev_at hi
  exact h6
/-- what Encode answers -/
def encOut (b : Bat) : List UInt8 := if batE b = 0 then benc b else []
def BatOk (b : Bat) : Prop := batE b = 0 → ∀ e ∈ b.2, EvOk e
theorem BatOk.mk {w : World} {S : Nat → Prop} {s : Int} {v : Value} {l : List Ev} (h : SL w S v l) (hl : ∀ i (h : i < l.length), i < 70 → Lgt l[i]) : BatOk (s, l) := fun h0 e he => by
  obtain ⟨_, h64, hev, _, _⟩ := batE_spec h0
  dsimp only at h64 hev he
  obtain ⟨i, hi, rfl⟩ := List.getElem_of_mem he
  exact ⟨hev _ he, h.ev6 _ he, hl i hi (by omega)⟩
theorem benc_len {b : Bat} (h0 : batE b = 0) (h : ∀ e ∈ b.2, EvOk e) : (benc b).length ≤ 86000 := by
  obtain ⟨_, h64, _, hs1, hs2⟩ := batE_spec h0
  have h2 := bby_len h
  have e1 := enc_len10 (n := b.1.toNat) (U64.mk (by omega))
  have e2 := enc_len10 (n := b.2.length) (U64.mk (by omega))
  simp only [benc, List.length_append]
  omega
theorem encOut_len {b : Bat} (h : BatOk b) : (encOut b).length ≤ 86000 := by
  unfold encOut
  split
  · rename_i h0
    exact benc_len h0 (h h0)
  · simp
theorem bencode_any (w : World) (s : Int) (v : Value) (l : List Ev) (hv : SL w (Bw w) v l) (hs : I6 s) (hl : BatOk (s, l)) :
    Calls Try.prog 13 #[.agg #[.int .i64 s, v]] w fun e w' => ∃ u, e = .returned (.tuple #[u, .int .i64 (batE (s, l) : Nat)]) ∧ BS w' w'.heap.size u (encOut (s, l)) ∧ Ext w w' := by
  by_cases h0 : batE (s, l) = 0
  · refine (bencode_ok w s v l hv hs h0 (hl h0)).mono ?_
    rintro e w' ⟨u, rfl, ho, hx⟩
    rw [show encOut (s, l) = benc (s, l) from if_pos h0, h0]
    exact ⟨u, rfl, Own.bs ho, hx⟩
  · refine (bencode_bad w s v l hv hs h0).mono ?_
    rintro e w' ⟨rfl, hx⟩
    rw [show encOut (s, l) = [] from if_neg h0]
    exact ⟨_, rfl, BS.nil_ _ _, hx⟩
theorem rbencode_any (w : World) (s : Int) (v : Value) (l : List Ev) (hv : SL w (Bw w) v l) (hs : I6 s) (hl : BatOk (s, l)) :
    Calls Try.prog 14 #[.agg #[.int .i64 s, v]] w fun e w' => ∃ u, e = .returned (.tuple #[u, .int .i64 (batE (s, l) : Nat)]) ∧ BS w' w'.heap.size u (encOut (s, l)) ∧ Ext w w' := by
  by_cases h0 : batE (s, l) = 0
  · refine (rbencode_ok w s v l hv hs h0 (hl h0)).mono ?_
    rintro e w' ⟨u, rfl, ho, hx⟩
    rw [show encOut (s, l) = benc (s, l) from if_pos h0, h0]
    exact ⟨u, rfl, Own.bs ho, hx⟩
  · refine (rbencode_bad w s v l hv hs h0).mono ?_
    rintro e w' ⟨rfl, hx⟩
    rw [show encOut (s, l) = [] from if_neg h0]
    exact ⟨_, rfl, BS.nil_ _ _, hx⟩
/-- what Decode answers, in one form -/
def batR : Option Bat → Bat × Nat
  | none => ((0, []), 100)
  | some b => (b, 0)
theorem BatIs.all {n1 : Nat} {W' : World} {e : Ending} {o : Option Bat} (h : BatIs n1 W' e o) : ∃ vf, e = .returned (.tuple #[.agg #[.int .i64 (batR o).1.1, vf], .int .i64 ((batR o).2 : Nat)]) ∧ SL W' (Bw W') vf (batR o).1.2 := by
  rcases o with _ | b
  · exact ⟨_, h, SL.nil_ _ _⟩
  · obtain ⟨vf, rfl, h2⟩ := h
    exact ⟨vf, rfl, h2.more fun k hk => hk.2⟩

set_option maxHeartbeats 6400000 in
set_option maxRecDepth 100000 in
theorem evcodes_any (w : World) (s : Int) (v vb : Value) (l : List Ev) (bs : List UInt8) (hv : SL w (Bw w) v l) (hs : I6 s) (hb : SL w (Bw w) vb bs) :
    Calls Try.prog 3 #[.agg #[.int .i64 s, v], vb] w fun e w' => e = .returned (.bool true) ∧ Ext w w' := by
  obtain ⟨A, c, rfl, hc, hm⟩ := hv.form
  have Hx0 : Hid (Ext w (w.alloc (.cells #[.int .i64 s, .slice A l.length c] 24))) := Lib.hid (Ext.of_alloc _ _)
  have hS : ∀ W, Ext (w.alloc (.cells #[.int .i64 s, .slice A l.length c] 24)) W → W.cell? ⟨w.heap.size, 0, none⟩ = some (.int .i64 s) ∧ W.cell? ⟨w.heap.size, 1, none⟩ = some (.slice A l.length c) := fun W h =>
    ⟨Ext.keeps h (cell_new w #[.int .i64 s, .slice A l.length c] 24 0 (v := .int .i64 s) rfl), Ext.keeps h (cell_new w #[.int .i64 s, .slice A l.length c] 24 1 (v := .slice A l.length c) rfl)⟩
  have HS := Lib.hid hS
  have Hv := Lib.hid (hv.up Hx0.out)
  have Hb := Lib.hid (hb.up Hx0.out)
  have Hs := Lib.hid hs
  clear hv hS hb hs hc hm
  go_enter Try.func3, Try.ntmps3
  go_wp2_with fail
  refine (blight_any _ s _ l Hv.out).mono ?_
  rintro e w1 ⟨R, rfl, hR, hx⟩
  have Hx1 := Lib.hid hx
  have Hb1 := Lib.hid (Hb.out.up hx)
  have HR := Lib.hid hR
  obtain ⟨b0, b1⟩ := HS.out _ hx
  clear hx hR
  cases R with
  | false =>
    go_wp2_with fail
    refine (awake_any w1).mono ?_
    rintro e w2 ⟨rfl, hx⟩
    have Hx2 := Lib.hid (Ext.trans Hx0.out (Ext.trans Hx1.out hx))
    clear hx
    go_wp2
    go_ret
    exact ⟨rfl, Hx2.out⟩
  | true =>
    have hbo := BatOk.mk (s := s) Hv.out (HR.out rfl)
    have hel := encOut_len hbo
    have Hbo := Lib.hid hbo
    clear hbo
    go_wp2_with fail
    refine (cut_any w1 _ bs Hb1.out).mono ?_
    rintro e w2 ⟨v2, rfl, hv2, hx⟩
    have hbl : (bs.take 700).length ≤ 1000 := by rw [List.length_take]; omega
    generalize bs.take 700 = B at hv2 hbl
    have Hx2 := Lib.hid (Ext.trans Hx1.out hx)
    have HB2 := Lib.hid hv2.bs
    clear hx hv2 b0 b1
    obtain ⟨b0, b1⟩ := HS.out _ Hx2.out
    generalize hE : batE (s, l) = E
    have HE := Lib.hid hE
    generalize hO : encOut (s, l) = O at hel
    have HO := Lib.hid hO
    clear hE hO
    go_wp2_with fail
    refine (bencode_any w2 s _ l (Hv.out.up Hx2.out) Hs.out Hbo.out).mono ?_
    rintro e w3 ⟨v3, rfl, ho3, hx⟩
    rw [HE.out]
    rw [HO.out] at ho3
    have Hx3 := Lib.hid (Ext.trans Hx2.out hx)
    have HV3 := Lib.hid ho3
    have HB3 := Lib.hid (HB2.out.up' hx)
    clear hx ho3 b0 b1
    obtain ⟨b0, b1⟩ := HS.out _ Hx3.out
    go_wp2_with fail
    refine (rbencode_any w3 s _ l (Hv.out.up Hx3.out) Hs.out Hbo.out).mono ?_
    rintro e w4 ⟨v4, rfl, ho4, hx⟩
    rw [HE.out]
    rw [HO.out] at ho4
    have Hx4 := Lib.hid (Ext.trans Hx3.out hx)
    have HV4 := Lib.hid ho4
    have HV34 := Lib.hid (HV3.out.up' hx)
    have HB4 := Lib.hid (HB3.out.up' hx)
    clear hx ho4 b0 b1
    go_wp2_with fail
    refine (bdecode_any w4.heap.size w4 v2 B HB4.out (Nat.le_refl _) (by omega)).mono ?_
    rintro e w5 ⟨he, hx⟩
    obtain ⟨f5, rfl, hf5⟩ := he.all
    obtain ⟨A5, c5, rfl, _⟩ := hf5.form
    generalize hG : batR (batG B) = G at hf5 ⊢
    obtain ⟨⟨g1, g2⟩, gE⟩ := G
    dsimp only at hf5 ⊢
    have HG := Lib.hid hG
    have hxa := Ext.of_alloc w5 (.cells #[.int .i64 g1, .slice A5 g2.length c5] 24)
    have Q50 := Lib.hid (cell_new w5 #[.int .i64 g1, .slice A5 g2.length c5] 24 0 (v := .int .i64 g1) rfl)
    have Q51 := Lib.hid (cell_new w5 #[.int .i64 g1, .slice A5 g2.length c5] 24 1 (v := .slice A5 g2.length c5) rfl)
    have hxb := Ext.trans hx hxa
    have Hx5 := Lib.hid (Ext.trans Hx4.out hxb)
    have HV5 := Lib.hid (HV4.out.up' hxb)
    have HV35 := Lib.hid (HV34.out.up' hxb)
    have HB5 := Lib.hid (HB4.out.up' hxb)
    have Hf5 := Lib.hid (hf5.up hxa)
    clear hx hxa hxb hf5 he hG
    go_wp2_with fail
    refine (rbdecode_any _ _ v2 B HB5.out (Nat.le_refl _) (by omega)).mono ?_
    rintro e w6 ⟨he, hx⟩
    obtain ⟨f6, rfl, hf6⟩ := he.all
    rw [HG.out] at hf6 ⊢
    obtain ⟨A6, c6, rfl, _⟩ := hf6.form
    dsimp only at hf6 ⊢
    have hxa := Ext.of_alloc w6 (.cells #[.int .i64 g1, .slice A6 g2.length c6] 24)
    have hxb := Ext.trans hx hxa
    have d0 := cell_new w6 #[.int .i64 g1, .slice A6 g2.length c6] 24 0 (v := .int .i64 g1) rfl
    have d1 := cell_new w6 #[.int .i64 g1, .slice A6 g2.length c6] 24 1 (v := .slice A6 g2.length c6) rfl
    have d2 := Ext.keeps hxb Q50.out
    have d3 := Ext.keeps hxb Q51.out
    have c1 := str_of_bs (HV35.out.up' hxb) _ rfl
    have c2 := str_of_bs (HV5.out.up' hxb) _ rfl
    have Hx6 := Lib.hid (Ext.trans Hx5.out hxb)
    have Hf56 := Lib.hid (Hf5.out.up hxb)
    have Hf6 := Lib.hid (hf6.up hxa)
    clear hx hxa hxb hf6 he
    go_wp2_with fail
    refine (samebatch_any _ g1 g1 _ _ g2 g2 Hf56.out Hf6.out).mono ?_
    rintro e w7 ⟨rfl, hx⟩
    rw [decide_eq_true rfl]
    have Hx7 := Lib.hid (Ext.trans Hx6.out hx)
    clear hx d0 d1 d2 d3 c1 c2
    go_wp2_with fail
    refine (awake_any w7).mono ?_
    rintro e w8 ⟨rfl, hx⟩
    have Hx8 := Lib.hid (Ext.trans Hx0.out (Ext.trans Hx7.out hx))
    clear hx
    go_wp2
    go_ret
    exact ⟨rfl, Hx8.out⟩
theorem evcodes_row (w : World) (v vb : Value) (bs : List UInt8) (x : Bat) {n : Nat} (o : ∃ cs, v = .agg cs ∧ cs.size = n) (h : Rep.r w (Bw w) v.cells.toList x) (hb : SL w (Bw w) vb bs) :
    Calls Try.prog 3 #[v, vb] w fun e w' => e = .returned (.bool true) ∧ Ext w w' := by
  obtain ⟨u, rfl, h6, hu⟩ := bat_arg o h
  exact evcodes_any w x.1 u vb x.2 bs hu h6 hb
end Go.Proofs.Ytbnjhpknagkiaaa
