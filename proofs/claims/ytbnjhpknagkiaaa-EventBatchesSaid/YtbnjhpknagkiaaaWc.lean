/-
  Contract of the reference's Docs; the law EventBatches.
  Conditions: none.
-/
import Derived.Test.YtbnjhpknagkiaaaWb
import Derived.Test.YtbnjhpknagkiaaaUo
import Derived.Test.YtbnjhpknagkiaaaEvarg
import Derived.Deep.RegionHeld3
import Derived.Deep.DrawnRows
namespace Go.Proofs.Ytbnjhpknagkiaaa
open Go.RowKit Go.Op

set_option maxHeartbeats 3200000 in
set_option maxRecDepth 100000 in
theorem rdocs_any (w : World) (s : Int) (v : Value) (l : List Ev) (hv : SL w (Bw w) v l) (hs : I6 s) :
    Calls Try.prog 37 #[.agg #[.int .i64 s, v]] w fun e w' => ∃ u, e = .returned u ∧ SL w' (Bw w') u (docsR (s, l)) ∧ Ext w w' := by
  obtain ⟨A, c, rfl, hc, hm⟩ := hv.form
  have Hx0 : Hid (Ext w (w.alloc (.cells #[.int .i64 s, .slice A l.length c] 24))) := Lib.hid (Ext.of_alloc _ _)
  have hS : ∀ W, Ext (w.alloc (.cells #[.int .i64 s, .slice A l.length c] 24)) W → W.cell? ⟨w.heap.size, 0, none⟩ = some (.int .i64 s) ∧ W.cell? ⟨w.heap.size, 1, none⟩ = some (.slice A l.length c) := fun W h =>
    ⟨Ext.keeps h (cell_new w #[.int .i64 s, .slice A l.length c] 24 0 (v := .int .i64 s) rfl), Ext.keeps h (cell_new w #[.int .i64 s, .slice A l.length c] 24 1 (v := .slice A l.length c) rfl)⟩
  have HS := Lib.hid hS
  have Hv := Lib.hid (hv.up Hx0.out)
  clear hv hS
  go_enter Try.func37, Try.ntmps37
  go_wp2_with fail
  refine (rcbatch_any _ s _ l Hv.out hs).mono ?_
  rintro e w1 ⟨rfl, hx⟩
  have Hx1 := Lib.hid hx
  have Hv1 := Lib.hid (Hv.out.up hx)
  obtain ⟨b0, b1⟩ := HS.out _ hx
  clear hx
  by_cases hE : batE (s, l) = 0
  · obtain ⟨hl0, hl64, hev, hs1, hs2⟩ := batE_spec hE
    dsimp only at hl0 hl64 hev hs1 hs2
    have HR := Lib.hid (docsR_ok hE)
    rw [hE]
    clear hE hev
    go_wp2_with fail
    go_loopw [3, 4] (fun o i wr => ∃ (k : Nat) (L : List Doc), i = .int .i64 k ∧ k ≤ l.length ∧ L.length = k ∧ L = dcs s (l.take k) ∧ OwnL wr w1.heap.size 93 (fun k => k < w1.heap.size) o L ∧ Ext w1 wr) (fun _ i _ => l.length - (intOf i).toNat)
    case atStart => exact ⟨0, [], rfl, Nat.zero_le _, rfl, rfl, OwnL.nil_ _ _ _ _, Below.refl _ _⟩
    case round =>
      obtain ⟨k, L, rfl, hk, hL, hLd, hol, hx⟩ := hrel
      obtain ⟨Al, cl, rfl, hclo, hmo⟩ := hol.form
      have hsz := hx.size
      have Hol := Lib.hid hol
      have Hx := Lib.hid hx
      have HLd := Lib.hid hLd
      have hLk : L.length ≤ 1000 := by omega
      have HL := Lib.hid hL
      clear hol hL hLd b0 b1
      obtain ⟨b0, b1⟩ := HS.out _ (Ext.trans Hx1.out hx)
      by_cases hlk : k < l.length
      · have hkl : (k : Int) < l.length := by omega
        obtain ⟨ad, u, rfl, _, d0, d1, hu, h6⟩ := Hv1.out.ev_at hlk
        have g0 := Ext.keeps hx d0
        have g1 := Ext.keeps hx d1
        have Hstep := Lib.hid (dcs_take hlk s)
        generalize l[k] = N at d0 d1 hu h6 Hstep g0 g1
        obtain ⟨a_, fs⟩ := N
        dsimp only at d0 d1 hu h6 g0 g1
        obtain ⟨Au, cu, rfl, _⟩ := hu.form
        obtain ⟨q, hq⟩ : ∃ q, q = s + (k : Int) := ⟨_, rfl⟩
        have hsk : IntKind.i64.wrap (s + (k : Int)) = q := by rw [IntKind.wrap_i64, hq]; omega
        rw [← hq] at Hstep
        have Hq : Hid (1 ≤ q ∧ q ≤ 2000000000000) := Lib.hid (by omega)
        clear hq
        have Hxd := Lib.hid (Ext.drew wr)
        have Hxa : Hid (Ext wr (wr.alloc (.cells #[.int .i64 q, .int .i64 a_, .slice Au fs.length cu] 93)).drew) := Lib.hid ((Ext.of_alloc _ _).trans (Ext.drew _))
        have hsv := SV.one_ wr #[.int .i64 q, .int .i64 a_, .slice Au fs.length cu] 93 3 rfl
        have hsv2 : SV (wr.alloc (.cells #[.int .i64 q, .int .i64 a_, .slice Au fs.length cu] 93)).drew (wr.heap.size + 1) 3 (.slice (some ⟨wr.heap.size, 0, none⟩) 1 1) 1 [.int .i64 q, .int .i64 a_, .slice Au fs.length cu] := hsv
        have Hsv := Lib.hid hsv2
        have hge := Hol.out.ge
        have hu3 := SL.keep (SL.keep hu (Sm.of_ext hx fun j hj => hj)) (Sm.of_ext Hxa.out fun j hj => Nat.lt_of_lt_of_le hj hsz)
        have hsz2 := Nat.le_trans hsz Hxa.out.size
        have hu4 := hu3.more fun j (hj : j < w1.heap.size) => (show j < w1.heap.size ∧ j < (wr.alloc (.cells #[.int .i64 q, .int .i64 a_, .slice Au fs.length cu] 93)).drew.heap.size ∧ some j ≠ (Value.slice Al L.length cl).ownBlock from ⟨hj, Nat.lt_of_lt_of_le hj hsz2, fun e => by have := hge j e.symm; omega⟩)
        have hrep : Reps (α := Doc) (wr.alloc (.cells #[.int .i64 q, .int .i64 a_, .slice Au fs.length cu] 93)).drew (fun j => j < w1.heap.size ∧ j < (wr.alloc (.cells #[.int .i64 q, .int .i64 a_, .slice Au fs.length cu] 93)).drew.heap.size ∧ some j ≠ (Value.slice Al L.length cl).ownBlock) [.int .i64 q, .int .i64 a_, .slice Au fs.length cu] [(q, a_, fs)] :=
          Reps.single (rep_doc (I6.mk (by have := Hq.out; omega)) h6 hu4)
        have Hrep := Lib.hid hrep
        have hLl : L.length + 1 ≤ 1000000000 := by omega
        have hbx := (Ext.trans hx Hxa.out).size
        have hS2 : ∀ W, Ext w1 W → W.cell? ⟨w.heap.size, 0, none⟩ = some (.int .i64 s) ∧ W.cell? ⟨w.heap.size, 1, none⟩ = some (.slice (some ad) l.length c) ∧ W.cell? (ad.add (k * 2)) = some (.int .i64 a_) ∧ W.cell? ⟨(ad.add (k * 2)).block, (ad.add (k * 2)).off + 1, none⟩ = some (.slice Au fs.length cu) := fun W h => ⟨(HS.out _ (Ext.trans Hx1.out h)).1, (HS.out _ (Ext.trans Hx1.out h)).2, Ext.keeps h d0, Ext.keeps h d1⟩
        have HS2 := Lib.hid hS2
        clear hx hu h6 hsv hsv2 hrep hge hS2 d0 d1 hu3 hu4
        go_wp2_with fail
        go_region_held3 (fun W => W.cell? ⟨w.heap.size, 0, none⟩ = some (.int .i64 s) ∧ W.cell? ⟨w.heap.size, 1, none⟩ = some (.slice (some ad) l.length c) ∧ W.cell? (ad.add (k * 2)) = some (.int .i64 a_) ∧ W.cell? ⟨(ad.add (k * 2)).block, (ad.add (k * 2)).off + 1, none⟩ = some (.slice Au fs.length cu))
          (first
            | exact HS2.out _ x6
            | exact HS2.out _ (Ext.trans Hx.out Hxa.out)
            | exact HS2.out _ (Ext.trans Hx.out Hxd.out)
            | fail)
          (first
            | (refine step_append_l _ (by rfl) (.tmp 15) (.tmp 26) 65 (by rfl) w1.heap.size 93 (fun k => k < w1.heap.size) (.agg #[.int .i64 0, .int .i64 0, .slice none 0 0]) 40 Try.underlying65 info_doc rfl (by decide) _ L (by rfl) (Hol.out.ext Hxa.out) _ _ [(q, a_, fs)] _ (by rfl) Hsv.out Hrep.out hLl (by decide) hbx ?_
               intro v6 w6 hown6 hg6 hat6
               have hk6 : Kept (fun j => w1.heap.size ≤ j) wr w6 := (Ext.kept Hxa.out _).trans (grown_kept hg6 fun r hr _ => Hol.out.ge r hr)
               have x6 : Ext w1 w6 := Below.trans Hx.out (hk6.below hsz fun j hj => hj))
            | fail)
        obtain ⟨A6, c6, rfl, _, _⟩ := hown6.form
        go_wp2_with fail
        go_roundw
        case rel => exact ⟨k + 1, L ++ [(q, a_, fs)], by go_num, by omega, by rw [List.length_append, HL.out]; rfl, by rw [Hstep.out, HLd.out], hown6, x6⟩
        case measure => simp only [intOf]; omega
      · have hkl : ¬(k : Int) < l.length := by omega
        have hfin := HLd.out
        rw [List.take_of_length_le (by omega)] at hfin
        have Hfin := Lib.hid hfin
        clear hfin hx
        go_wp2
        go_ret
        exact ⟨_, rfl, by rw [HR.out, ← Hfin.out]; exact (Hol.out.sl).more fun _ h => h, Ext.trans Hx0.out (Ext.trans Hx1.out Hx.out)⟩
  · have HR := Lib.hid (docsR_bad hE)
    have hE' : ((batE (s, l) : Int) != 0) = true := by rw [bne_iff_ne]; omega
    generalize batE (s, l) = E at hE'
    clear hE
    go_wp2
    go_ret
    exact ⟨_, rfl, by rw [HR.out]; exact SL.nil_ _ _, Ext.trans Hx0.out Hx1.out⟩

set_option maxHeartbeats 6400000 in
set_option maxRecDepth 100000 in
theorem evbatches_any (w : World) (s : Int) (v : Value) (l : List Ev) (hv : SL w (Bw w) v l) (hs : I6 s) :
    Calls Try.prog 8 #[.agg #[.int .i64 s, v]] w fun e w' => e = .returned (.bool true) ∧ Ext w w' := by
  obtain ⟨A, c, rfl, hc, hm⟩ := hv.form
  have Hx0 : Hid (Ext w (w.alloc (.cells #[.int .i64 s, .slice A l.length c] 24))) := Lib.hid (Ext.of_alloc _ _)
  have hS : ∀ W, Ext (w.alloc (.cells #[.int .i64 s, .slice A l.length c] 24)) W → W.cell? ⟨w.heap.size, 0, none⟩ = some (.int .i64 s) ∧ W.cell? ⟨w.heap.size, 1, none⟩ = some (.slice A l.length c) := fun W h =>
    ⟨Ext.keeps h (cell_new w #[.int .i64 s, .slice A l.length c] 24 0 (v := .int .i64 s) rfl), Ext.keeps h (cell_new w #[.int .i64 s, .slice A l.length c] 24 1 (v := .slice A l.length c) rfl)⟩
  have HS := Lib.hid hS
  have Hv := Lib.hid (hv.up Hx0.out)
  have Hs := Lib.hid hs
  clear hv hS hs hc hm
  go_enter Try.func8, Try.ntmps8
  go_wp2_with fail
  go_region_held3 (fun W => W.cell? ⟨w.heap.size, 0, none⟩ = some (.int .i64 s) ∧ W.cell? ⟨w.heap.size, 1, none⟩ = some (.slice A l.length c))
    (first
      | exact HS.out _ x6
      | exact HS.out _ x5
      | exact HS.out _ x4
      | exact HS.out _ x3
      | exact HS.out _ x2
      | exact HS.out _ x1
      | exact HS.out _ (Ext.drew _)
      | fail)
    (first
      | (go_at_call 11
         refine (awake_any w5).mono ?_
         rintro e w6 ⟨rfl, hx6⟩
         have x6 := Ext.trans x5 hx6)
      | (go_at_call 35
         refine (samedocs_any w4 u3 u4 _ _ (SL.up h3 hx4) h4).mono ?_
         rintro e w5 ⟨rfl, hx5⟩
         rw [decide_eq_true rfl]
         have x5 := Ext.trans x4 hx5)
      | (go_at_call 37
         refine (rdocs_any w3 s _ l (SL.up Hv.out x3) Hs.out).mono ?_
         rintro e w4 ⟨u4, rfl, h4, hx4⟩
         have x4 := Ext.trans x3 hx4)
      | (go_at_call 36
         refine (docs_any w2 s _ l (SL.up Hv.out x2) Hs.out).mono ?_
         rintro e w3 ⟨u3, rfl, h3, hx3⟩
         have x3 := Ext.trans x2 hx3)
      | (go_at_call 34
         refine (rcbatch_any w1 s _ l (SL.up Hv.out x1) Hs.out).mono ?_
         rintro e w2 ⟨rfl, hx2⟩
         have x2 := Ext.trans x1 hx2)
      | (go_at_call 33
         refine (cbatch_any _ s _ l (SL.up Hv.out (Ext.drew _)) Hs.out).mono ?_
         rintro e w1 ⟨rfl, hx1⟩
         have x1 := Ext.trans (Ext.drew _) hx1)
      | fail)
  have Hx6 := Lib.hid (Ext.trans Hx0.out x6)
  clear x1 x2 x3 x4 x5 x6 hx1 hx2 hx3 hx4 hx5 hx6 h3 h4
  go_wp2
  go_ret
  exact ⟨rfl, Hx6.out⟩
theorem evbatches_row (w : World) (v : Value) (x : Bat) {n : Nat} (o : ∃ cs, v = .agg cs ∧ cs.size = n) (h : Rep.r w (Bw w) v.cells.toList x) :
    Calls Try.prog 8 #[v] w fun e w' => e = .returned (.bool true) ∧ Ext w w' := by
  obtain ⟨u, rfl, h6, hu⟩ := bat_arg o h
  exact evbatches_any w x.1 u x.2 hu h6
end Go.Proofs.Ytbnjhpknagkiaaa
