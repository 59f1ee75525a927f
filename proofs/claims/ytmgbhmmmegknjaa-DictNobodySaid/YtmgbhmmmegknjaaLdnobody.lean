/-
  The law DictNobody returns true.
  Conditions: none.
-/
import Derived.Test.YtmgbhmmmegknjaaDy
namespace Go.Proofs.Ytmgbhmmmegknjaa
open Go.RowKit Go.Op

set_option maxHeartbeats 4000000 in
set_option maxRecDepth 100000 in
theorem dnobody_any (w : World) (s : List UInt8) (i : Int) (hi : I6 i) :
    Calls Try.prog 6 #[.string ⟨s.toArray⟩, .int .i64 i] w fun e w' => e = .returned (.bool true) ∧ Ext w w' := by
  obtain ⟨W0, hW0, hx0, hcell⟩ : ∃ W0 : World, W0 = ((w.alloc (.cells #[.slice none 0 0, .bool false] 54)).alloc (.cells #[.pointer none, .pointer (some ⟨w.heap.size, 0, none⟩)] 31)) ∧ Ext w W0 ∧
      ∀ k, k < 2 → ∃ p, W0.cell? ⟨w.heap.size + 1, k, none⟩ = some (.pointer p) ∧ DAny W0 (.pointer p) [] false := by
    refine ⟨_, rfl, Ext.al (Ext.of_alloc _ _) _, fun k hk => ?_⟩
    rcases (by omega : k = 0 ∨ k = 1) with rfl | rfl
    · have := cell_new (w.alloc (.cells #[.slice none 0 0, .bool false] 54)) #[.pointer none, .pointer (some ⟨w.heap.size, 0, none⟩)] 31 0 (v := .pointer none) rfl
      rw [World.size_alloc] at this
      exact ⟨_, this, .inr ⟨rfl, rfl, .inl rfl⟩⟩
    · have := cell_new (w.alloc (.cells #[.slice none 0 0, .bool false] 54)) #[.pointer none, .pointer (some ⟨w.heap.size, 0, none⟩)] 31 1 (v := .pointer (some ⟨w.heap.size, 0, none⟩)) rfl
      rw [World.size_alloc] at this
      exact ⟨_, this, .inr ⟨rfl, rfl, .inr ⟨w.heap.size, .slice none 0 0, rfl, DBox.ext (heap_alloc_new w _) (Ext.of_alloc _ _)⟩⟩⟩
  have HW0 := Lib.hid hW0
  have Hx0 := Lib.hid hx0
  have Hcell := Lib.hid hcell
  clear hW0 hx0 hcell
  have hi2 := hi.le
  go_enter Try.func6, Try.ntmps6
  go_wp2_with fail
  rw [← HW0.out]
  go_loopw [17] (fun i wr => ∃ k : Nat, i = .int .i64 k ∧ k ≤ 2 ∧ Ext W0 wr) (fun i _ => 2 - (intOf i).toNat)
  case atStart => exact ⟨0, rfl, by omega, Below.refl _ _⟩
  case round =>
    obtain ⟨k, rfl, hk, hx⟩ := hrel
    have Hx := Lib.hid hx
    clear hx
    by_cases hlt : k < 2
    · have hklt : (k : Int) < 2 := by omega
      obtain ⟨p, hc, hd⟩ := Hcell.out k hlt
      have hc1 := Ext.keeps Hx.out hc
      have Hd := Lib.hid (hd.ext Hx.out)
      clear hc hd
      go_wp2_with fail
      refine (at_any wr _ [] false i Hd.out hi).mono ?_
      rintro e w1 ⟨rfl, hx⟩
      have ha := atE_no (l := []) (i := i) (by simp)
      rw [ha]
      have Hx1 := Lib.hid (Ext.trans hx (Ext.of_alloc w1 (.cells #[.string ⟨#[]⟩, .int .i64 0, .int .i64 0, .int .i64 0] 42)))
      have Hd1 := Lib.hid (Hd.out.ext Hx1.out)
      simp only [entV, zeroE]
      clear hx ha hc1
      go_wp2_with fail
      refine (dget_any _ _ [] false s Hd1.out).mono ?_
      rintro e w2 ⟨rfl, hx⟩
      have hg : getE [] s = (zeroE, false) := rfl
      rw [hg]
      have Hx2 := Lib.hid (Ext.trans Hx1.out (Ext.trans hx (Ext.of_alloc w2 (.cells #[.string ⟨#[]⟩, .int .i64 0, .int .i64 0, .int .i64 0] 42))))
      have Hd2 := Lib.hid (Hd.out.ext Hx2.out)
      simp only [entV, zeroE]
      clear hx hg
      go_wp2_with fail
      refine (len_any _ _ [] false Hd2.out).mono ?_
      rintro e w3 ⟨rfl, hx⟩
      have Hx3 := Lib.hid (Ext.trans Hx2.out hx)
      have Hd3 := Lib.hid (Hd.out.ext Hx3.out)
      clear hx
      go_wp2_with fail
      refine (prefix_any w3 _ [] false s Hd3.out (fun h => by cases h)).mono ?_
      rintro e w4 ⟨v4, rfl, hv4, hx⟩
      obtain ⟨A4, c4, rfl, _, _⟩ := hv4.form
      have hp4 : (pfxE [] s).length = 0 := rfl
      rw [hp4]
      have Hx4 := Lib.hid (Ext.trans Hx3.out hx)
      have Hd4 := Lib.hid (Hd.out.ext Hx4.out)
      clear hx hv4 hp4
      go_wp2_with fail
      refine (all_any w4 _ [] false Hd4.out).mono ?_
      rintro e w5 ⟨v5, rfl, hv5, hx⟩
      obtain ⟨A5, c5, rfl, _, _⟩ := hv5.form
      have hp5 : ([] : List Ent).length = 0 := rfl
      rw [hp5]
      have Hx5 := Lib.hid (Ext.trans Hx4.out hx)
      have Hd5 := Lib.hid (Hd.out.ext Hx5.out)
      clear hx hv5 hp5
      go_wp2_with fail
      refine (floor_any w5 _ [] false s Hd5.out).mono ?_
      rintro e w6 ⟨q, rfl, hq, hx⟩
      obtain rfl : q = 0 := by have := hq.1; simp at this; exact this
      have Hx6 := Lib.hid (Ext.trans Hx.out (Ext.trans Hx5.out hx))
      clear hx hq
      go_wp2_with fail
      go_roundw
      case rel => exact ⟨k + 1, rfl, by omega, Hx6.out⟩
      case measure => simp only [intOf]; omega
    · have hklt : ¬(k : Int) < 2 := by omega
      go_wp2_with fail
      refine (awake_any wr).mono ?_
      rintro e w1 ⟨rfl, hx⟩
      have Hx1 := Lib.hid (Ext.trans Hx0.out (Ext.trans Hx.out hx))
      clear hx
      go_wp2
      go_ret
      exact ⟨rfl, Hx1.out⟩
theorem i6_wf_nobody {a : Int} (h : (Lit.int .i64 a).wf = true) : I6 a := by
  simp only [Lit.wf, Bool.and_eq_true, decide_eq_true_eq] at h
  exact I6.mk ⟨h.1, h.2⟩
theorem dnobody_row (w : World) (s : ByteArray) (i : Int) (hi : I6 i) :
    Calls Try.prog 6 #[.string s, .int .i64 i] w fun e w' => e = .returned (.bool true) ∧ Ext w w' := by
  have := dnobody_any w (sl s) i hi
  rw [sl_str] at this
  exact this

end Go.Proofs.Ytmgbhmmmegknjaa
