/-
  Contract of the reference's SameDocs.
  Conditions: none.
-/
import Derived.Test.YtnajmpkdeenkbaaEh
import Derived.Deep.RegionHeld3
import Derived.Deep.DrawnRows
namespace Go.Proofs.Ytnajmpkdeenkbaa
open Go.RowKit Go.Op

set_option maxHeartbeats 3200000 in
set_option maxRecDepth 100000 in
theorem samedocs_any (w : World) (u v : Value) (l m : List Doc) (hu : SL w (Bw w) u l) (hv : SL w (Bw w) v m) :
    Calls Try.prog 16 #[u, v] w fun e w' => e = .returned (.bool (decide (l = m))) ∧ Ext w w' := by
  obtain ⟨A, c, rfl, hc, hm⟩ := hu.form
  obtain ⟨A', c', rfl, hc', hm'⟩ := hv.form
  have hml : (l.length : Int) ≤ 9223372036854775807 := by unfold maxLen at hm; omega
  have Hu := Lib.hid hu
  have Hv := Lib.hid hv
  clear hu hv hm hm'
  by_cases hl : l.length = m.length
  · have tl : ((l.length : Int) != (m.length : Int)) = false := by simp [hl]
    have Hl := Lib.hid hl
    clear hl
    go_enter Try.func16, Try.ntmps16
    go_wp2_with fail
    go_loopw [5] (fun i wr => ∃ k : Nat, i = .int .i64 k ∧ k ≤ l.length ∧ l.take k = m.take k ∧ Ext w wr) (fun i _ => l.length - (intOf i).toNat)
    case atStart => exact ⟨0, rfl, Nat.zero_le _, rfl, Below.refl _ _⟩
    case round =>
      obtain ⟨k, rfl, hk, ht, hx⟩ := hrel
      have Hx := Lib.hid hx
      have Ht := Lib.hid ht
      by_cases hlt : k < l.length
      · have hlt2 : k < m.length := by have := Hl.out; omega
        have hk2 : (k : Int) < (m.length : Int) := by omega
        obtain ⟨ad, u, rfl, _, hc0, hc1, hc2, hu, _⟩ := (Hu.out.up hx).doc_at hlt
        obtain ⟨ad2, u2, rfl, _, hd0, hd1, hd2, hv, _⟩ := (Hv.out.up hx).doc_at hlt2
        have hklt : (k : Int) < l.length := by omega
        have htl := take_nextE l hlt
        have htm := take_nextE m hlt2
        have hll : l = m → l[k] = m[k] := fun h => by subst h; rfl
        generalize l[k] = N at hc0 hc1 hc2 hu htl hll
        generalize m[k] = N2 at hd0 hd1 hd2 hv htm hll
        obtain ⟨d, a, ps⟩ := N
        obtain ⟨d2, a2, ps2⟩ := N2
        dsimp only at hc0 hc1 hc2 hu hd0 hd1 hd2 hv
        obtain ⟨Au, cu, rfl, _, _⟩ := hu.form
        obtain ⟨Av, cv, rfl, _, _⟩ := hv.form
        have HU := Lib.hid (hu.up (Ext.drew wr))
        have HV := Lib.hid (hv.up (Ext.drew wr))
        have Htl := Lib.hid htl
        have Htm := Lib.hid htm
        have Hll := Lib.hid hll
        have he := doc_eq d d2 (a, ps) (a2, ps2)
        have hR : decide (((d, a, ps) : Doc) = (d2, a2, ps2)) = true → ((d, a, ps) : Doc) = (d2, a2, ps2) := of_decide_eq_true
        have hR2 : decide (((d, a, ps) : Doc) = (d2, a2, ps2)) = false → ¬((d, a, ps) : Doc) = (d2, a2, ps2) := of_decide_eq_false
        generalize decide (((d, a, ps) : Doc) = (d2, a2, ps2)) = R at he hR hR2
        have HR := Lib.hid hR
        have HR2 := Lib.hid hR2
        clear hu hv hx ht htl htm hll hR hR2
        by_cases hab : d = d2
        · have t1 : (d != d2) = false := by simpa using hab
          have He2 := Lib.hid (show decide (((a, ps) : Ev) = (a2, ps2)) = R by rw [he, show (d == d2) = true by simpa using hab, Bool.true_and])
          clear hab he
          go_wp2_with fail
          go_region_held3 (fun W => W.cell? (ad.add (k * 3)) = some (.int .i64 d) ∧ W.cell? ⟨(ad.add (k * 3)).block, (ad.add (k * 3)).off + 1, none⟩ = some (.int .i64 a) ∧ W.cell? ⟨(ad.add (k * 3)).block, (ad.add (k * 3)).off + 2, none⟩ = some (.slice Au ps.length cu) ∧
              W.cell? (ad2.add (k * 3)) = some (.int .i64 d2) ∧ W.cell? ⟨(ad2.add (k * 3)).block, (ad2.add (k * 3)).off + 1, none⟩ = some (.int .i64 a2) ∧ W.cell? ⟨(ad2.add (k * 3)).block, (ad2.add (k * 3)).off + 2, none⟩ = some (.slice Av ps2.length cv))
            (first
              | exact ⟨Ext.keeps (Ext.drew _) hc0, Ext.keeps (Ext.drew _) hc1, Ext.keeps (Ext.drew _) hc2, Ext.keeps (Ext.drew _) hd0, Ext.keeps (Ext.drew _) hd1, Ext.keeps (Ext.drew _) hd2⟩
              | exact ⟨Ext.keeps x2 hc0, Ext.keeps x2 hc1, Ext.keeps x2 hc2, Ext.keeps x2 hd0, Ext.keeps x2 hd1, Ext.keeps x2 hd2⟩
              | fail)
            (first
              | (go_at_call 38
                 refine (rsame_any _ a a2 _ _ ps ps2 HU.out HV.out).mono ?_
                 rintro e w2 ⟨rfl, hx2⟩
                 rw [He2.out]
                 have x2 := Ext.trans (Ext.drew wr) hx2)
              | fail)
          have HX := Lib.hid (Ext.trans Hx.out x2)
          clear hx2 x2 He2 hc0 hc1 hc2 hd0 hd1 hd2
          cases hRb : R with
          | true =>
            have He := Lib.hid (HR.out hRb)
            clear HR HR2
            go_wp2
            exact ⟨⟨k + 1, rfl, by omega, by rw [Htl.out, Htm.out, Ht.out, He.out], HX.out⟩, by simp only [intOf]; omega⟩
          | false =>
            have He := Lib.hid (HR2.out hRb)
            clear HR HR2
            go_wp2
            go_ret
            exact ⟨by rw [decide_eq_false (fun h => He.out (Hll.out h))]; rfl, HX.out⟩
        · have t1 : (d != d2) = true := by simpa using hab
          have He := Lib.hid (HR2.out (by rw [he, show (d == d2) = false by simpa using hab, Bool.false_and]))
          clear hab he HR HR2
          go_wp2_with fail
          go_quiet (fail)
          all_goals go_wp2
          all_goals go_ret
          all_goals exact ⟨by rw [decide_eq_false (fun h => He.out (Hll.out h))]; rfl, Hx.out.drN _⟩
      · have hklt : ¬(k : Int) < l.length := by omega
        have hd : decide (l = m) = true := decide_eq_true (by
          have := Hl.out
          have h2 := Ht.out
          rw [List.take_of_length_le (by omega), List.take_of_length_le (by omega)] at h2
          exact h2)
        have Hd := Lib.hid hd
        clear hd hx ht
        go_wp2
        go_ret
        exact ⟨by rw [Hd.out]; rfl, Hx.out⟩
  · have tl : ((l.length : Int) != (m.length : Int)) = true := by rw [bne_iff_ne]; omega
    have hd : decide (l = m) = false := decide_eq_false (fun h => hl (by rw [h]))
    have Hd := Lib.hid hd
    clear hd hl
    go_enter Try.func16, Try.ntmps16
    go_wp2
    go_ret
    exact ⟨by rw [Hd.out]; rfl, Below.refl _ _⟩
end Go.Proofs.Ytnajmpkdeenkbaa
