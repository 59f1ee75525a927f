/-
  The law EventTerms: for whatever event it returns true.
  Conditions: none.
-/
import Derived.Test.YtbnjhpknagkiaaaNo
import Derived.Test.YtbnjhpknagkiaaaLgt
import Derived.Test.YtbnjhpknagkiaaaUo
import Derived.Test.YtbnjhpknagkiaaaEvarg
import Derived.Deep.RegionHeld3
import Derived.Deep.DrawnRows
namespace Go.Proofs.Ytbnjhpknagkiaaa
open Go.RowKit Go.Op

set_option maxHeartbeats 6400000 in
set_option maxRecDepth 100000 in
theorem evterms_any (w : World) (a : Int) (v : Value) (l : List Fld) (hv : SL w (Bw w) v l) :
    Calls Try.prog 5 #[.agg #[.int .i64 a, v]] w fun e w' => e = .returned (.bool true) ∧ Ext w w' := by
  obtain ⟨A, c, rfl, hc, hm⟩ := hv.form
  have Hx0 : Hid (Ext w (w.alloc (.cells #[.int .i64 a, .slice A l.length c] 40))) := Lib.hid (Ext.of_alloc _ _)
  have hS : ∀ W, Ext (w.alloc (.cells #[.int .i64 a, .slice A l.length c] 40)) W → W.cell? ⟨w.heap.size, 0, none⟩ = some (.int .i64 a) ∧ W.cell? ⟨w.heap.size, 1, none⟩ = some (.slice A l.length c) := fun W h =>
    ⟨Ext.keeps h (cell_new w #[.int .i64 a, .slice A l.length c] 40 0 (v := .int .i64 a) rfl), Ext.keeps h (cell_new w #[.int .i64 a, .slice A l.length c] 40 1 (v := .slice A l.length c) rfl)⟩
  have HS := Lib.hid hS
  have Hv := Lib.hid (hv.up Hx0.out)
  clear hv hS hc hm
  go_enter Try.func5, Try.ntmps5
  go_wp2_with fail
  refine (light_any _ a _ l Hv.out).mono ?_
  rintro e w1 ⟨R, rfl, _, hx⟩
  have Hx1 := Lib.hid hx
  obtain ⟨b0, b1⟩ := HS.out _ hx
  clear hx
  cases R with
  | false =>
    go_wp2_with fail
    refine (awake_any w1).mono ?_
    rintro e w2 ⟨rfl, hx⟩
    have Hx2 := Lib.hid (Ext.trans Hx0.out (Ext.trans Hx1.out hx))
    clear hx
    go_wp2
    go_ret
    exact ⟨rfl, Hx2.out⟩
  | true =>
    go_wp2_with fail
    refine (terms_any w1 a _ l (Hv.out.up Hx1.out)).mono ?_
    rintro e w2 ⟨u, rfl, hu, hx⟩
    have Hx2 := Lib.hid (Ext.trans Hx1.out hx)
    have Hu := Lib.hid hu
    clear hx hu b0 b1
    obtain ⟨b0, b1⟩ := HS.out _ Hx2.out
    go_wp2_with fail
    refine (rterms_any w2 a _ l (Hv.out.up Hx2.out)).mono ?_
    rintro e w3 ⟨k, rfl, hk, hx⟩
    have Hx3 := Lib.hid (Ext.trans Hx2.out hx)
    have hu := Hu.out.up hx
    have hbd := trmE_bd (a, l)
    generalize trmE (a, l) = L at hu hk hbd
    have hlen := tgT_len L
    obtain ⟨Au, cu, rfl, hcu, hmu⟩ := hu.form
    obtain ⟨Ak, ck, rfl, hck, hmk⟩ := hk.form
    rw [hlen] at hu hk ⊢
    have hL6 : L.length ≤ 100000 := hbd.1
    have HU := Lib.hid hu
    have HK := Lib.hid hk
    have Hlen := Lib.hid hlen
    clear hx hu hk b0 b1 hlen hcu hck hmu hmk hbd Hu
    go_wp2_with fail
    go_loopw [5] (fun iv wr => ∃ i : Nat, iv = .int .i64 i ∧ i ≤ L.length ∧ Ext w3 wr) (fun iv _ => L.length - (intOf iv).toNat)
    case atStart => exact ⟨0, rfl, Nat.zero_le _, Below.refl _ _⟩
    case round =>
      obtain ⟨i, rfl, hi, hx⟩ := hrel
      have Hx := Lib.hid hx
      by_cases hil : i < L.length
      · have hii : (i : Int) < L.length := by omega
        obtain ⟨ad, u, rfl, d0, d1, hu⟩ := (HU.out.up hx).trm_at (i := i) (by rw [Hlen.out]; exact hil)
        obtain ⟨ad', k, rfl, d0', d1', hk⟩ := (HK.out.up hx).trm_at (i := i) (by rw [Hlen.out]; exact hil)
        rw [List.getElem_map] at d0 d0' hu hk
        generalize L[i] = T at d0 d0' hu hk
        obtain ⟨t, ps⟩ := T
        simp only [tgT] at d0 d0' hu hk
        obtain ⟨Aq, cq, rfl, _⟩ := hu.form
        obtain ⟨Ar, cr, rfl, _⟩ := hk.form
        have Hu := Lib.hid hu
        have Hk := Lib.hid hk
        clear hu hk hx
        go_wp2_with fail
        go_region_held3 (fun W => W.cell? (ad.add (i * 2)) = some (.string ⟨t.toArray⟩) ∧ W.cell? ⟨(ad.add (i * 2)).block, (ad.add (i * 2)).off + 1, none⟩ = some (.slice Aq ps.length cq) ∧ W.cell? (ad'.add (i * 2)) = some (.string ⟨t.toArray⟩) ∧ W.cell? ⟨(ad'.add (i * 2)).block, (ad'.add (i * 2)).off + 1, none⟩ = some (.slice Ar ps.length cr))
          (first
            | exact ⟨d0, d1, d0', d1'⟩
            | exact ⟨Ext.keeps (Ext.drew _) d0, Ext.keeps (Ext.drew _) d1, Ext.keeps (Ext.drew _) d0', Ext.keeps (Ext.drew _) d1'⟩
            | exact ⟨Ext.keeps x5 d0, Ext.keeps x5 d1, Ext.keeps x5 d0', Ext.keeps x5 d1'⟩
            | fail)
          (first
            | (go_at_call 24
               refine (samei_any _ _ _ ps ps (Hu.out.up (Ext.drew _)) (Hk.out.up (Ext.drew _))).mono ?_
               rintro e w5 ⟨rfl, hx5⟩
               rw [decide_eq_true rfl]
               have x5 := Ext.trans (Ext.drew _) hx5)
            | fail)
        go_wp2
        exact ⟨⟨i + 1, by go_num, by omega, Ext.trans Hx.out x5⟩, by simp only [intOf]; omega⟩
      · have hii : ¬(i : Int) < L.length := by omega
        clear hx
        go_wp2_with fail
        refine (awake_any wr).mono ?_
        rintro e w5 ⟨rfl, hx5⟩
        go_wp2
        go_ret
        exact ⟨rfl, Ext.trans Hx0.out (Ext.trans Hx3.out (Ext.trans Hx.out hx5))⟩
theorem evterms_row (w : World) (v : Value) (x : Ev) {n : Nat} (o : ∃ cs, v = .agg cs ∧ cs.size = n) (h : Rep.r w (Bw w) v.cells.toList x) :
    Calls Try.prog 5 #[v] w fun e w' => e = .returned (.bool true) ∧ Ext w w' := by
  obtain ⟨u, rfl, _, hu⟩ := ev_arg o h
  exact evterms_any w _ u x.2 hu
end Go.Proofs.Ytbnjhpknagkiaaa
