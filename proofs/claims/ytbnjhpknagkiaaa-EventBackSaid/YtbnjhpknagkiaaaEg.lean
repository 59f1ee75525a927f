/-
  Contract of the reference's Get.
  Conditions: at most 100,000 bytes.
-/
import Derived.Test.YtbnjhpknagkiaaaEf
namespace Go.Proofs.Ytbnjhpknagkiaaa
open Go.RowKit Go.Op

set_option maxHeartbeats 8000000 in
set_option maxRecDepth 100000 in
theorem rget_ev (n0 : Nat) (W : World) (v : Value) (bs : List UInt8) (hv : BS W n0 v bs) (hn : n0 ≤ W.heap.size) (hL : bs.length ≤ 100000) :
    Calls Try.prog 39 #[v] W fun e W' => EvIs n0 W.heap.size W' e (evG bs) ∧ Ext W W' := by
  have Hv := Lib.hid hv
  have hx0 : Ext W (W.alloc (.cells #[.int .i64 0, .slice none 0 0] 40)) := Ext.of_alloc _ _
  have HR0 : Hid (VBox (W.alloc (.cells #[.int .i64 0, .slice none 0 0] 40)) W.heap.size 0 (.slice none 0 0)) := Lib.hid (heap_alloc_new W _)
  have Hx0 := Lib.hid hx0
  clear hv hx0
  go_enter Try.func39, Try.ntmps39
  go_wp2_with fail
  refine (rgetint_any _ n0 v bs (Hv.out.ext hn Hx0.out) (Nat.le_trans hn Hx0.out.size) (by omega)).mono ?_
  rintro e w1 ⟨r1, rfl, hr1, hx1⟩
  have HX1 := Lib.hid (Ext.trans Hx0.out hx1)
  have HR1 := Lib.hid (HR0.out.ext hx1)
  have Hr1 := Lib.hid hr1
  clear hx1 hr1
  by_cases hE : vgE bs = 0
  · have hdf := evG_ok hE
    have hvi := viN_ok hE
    have hrl := vgRest_len bs
    have hi64 := zag_64 (vgN_64 bs)
    rw [hvi, hE]
    generalize zag (vgN bs) = at_ at hdf hi64
    generalize vgRest bs = q1 at hdf Hr1 hrl
    have Hdf := Lib.hid hdf
    have hlo := hi64.lo
    have hhi := hi64.hi
    clear hdf hvi hE hi64
    go_wp2_with fail
    refine (rget_any w1 n0 r1 q1 Hr1.out (Nat.le_trans hn HX1.out.size) (by omega)).mono ?_
    rintro e w2 ⟨r2, rfl, hr2, hx2⟩
    have HX2 := Lib.hid (Ext.trans HX1.out hx2)
    have HR2 := Lib.hid (HR1.out.ext hx2)
    have hrl2 := vgRest_len q1
    clear hx2
    obtain ⟨hE2, hle, hnum⟩ | ⟨hE2, hlt, hnum⟩ | ⟨hE2, hnum⟩ := num_is 16 q1
    · have hdf := Hdf.out
      rw [hnum] at hdf
      simp only at hdf
      rw [hE2]
      generalize vgN q1 = n at hle hdf
      generalize vgRest q1 = q2 at hr2 hdf hrl2
      have Hr2 := Lib.hid (hr2.ext (Nat.le_trans hn HX2.out.size) (Ext.of_alloc w2 (.cells #[.int .i64 at_, .slice none 0 0] 40)))
      have Hdf2 := Lib.hid hdf
      have hni : ¬(16 : Int) < (n : Int) := by omega
      have hni2 : (n : Int) ≤ 16 := by omega
      have HX3 := Lib.hid (Ext.trans HX2.out (Ext.of_alloc w2 (.cells #[.int .i64 at_, .slice none 0 0] 40)))
      have HR3 := Lib.hid (HR2.out.ext (Ext.of_alloc w2 (.cells #[.int .i64 at_, .slice none 0 0] 40)))
      have HV3 : Hid (VBox (w2.alloc (.cells #[.int .i64 at_, .slice none 0 0] 40)) w2.heap.size at_ (.slice none 0 0)) := Lib.hid (heap_alloc_new w2 _)
      have hw2 := HR2.out.lt
      have hsum : q2.length ≤ 100000 := by omega
      clear hdf hnum hE2 hr2 HR2
      go_wp2_with fail
      go_loopw [0, 9] (fun vr i wr => ∃ (k : Nat) (fs : List Fld) (r : List UInt8) (vf : Value), i = .int .i64 k ∧ k ≤ n ∧ BS wr n0 vr r ∧ r.length ≤ 100000 ∧ VBox wr W.heap.size 0 (.slice none 0 0) ∧ VBox wr w2.heap.size at_ vf ∧ OwnL wr (w2.heap.size + 1) 59 (fun _ => False) vf fs ∧ fs.length = k ∧ fldsR n [] q2 = fldsR (n - k) fs r ∧ Ext W wr) (fun _ i _ => n - (intOf i).toNat)
      case atStart => exact ⟨0, [], q2, _, rfl, Nat.zero_le _, Hr2.out, hsum, HR3.out, HV3.out, OwnL.nil_ _ _ _ _, rfl, rfl, HX3.out⟩
      case round =>
        obtain ⟨k, fs, r, vf, rfl, hk, hr, hrle, hR, hV, hol, hfl, hfr, hx⟩ := hrel
        have Hr := Lib.hid hr
        have HR := Lib.hid hR
        have HV := Lib.hid hV
        have Hol := Lib.hid hol
        have Hfl := Lib.hid hfl
        have Hx := Lib.hid hx
        obtain ⟨Al, cl, rfl, hcl, hml⟩ := hol.form
        have hszr := hx.size
        have hVlt := hV.lt
        by_cases hlt : k < n
        · have hklt : (k : Int) < n := by omega
          have hsucc := fldsR_succ (n - k - 1) fs r
          rw [show n - k - 1 + 1 = n - k from by omega, ← hfr] at hsucc
          have Hfr := Lib.hid hsucc
          clear hr hR hV hol hfl hx hfr hsucc
          go_wp2_with fail
          refine (rgettext_any wr n0 _ r 32 Hr.out (by omega) (by omega) ⟨by omega, by omega⟩).mono ?_
          rintro e w5 ⟨u5, rfl, hu5, hx5⟩
          have Hu5 := Lib.hid hu5
          have HX5 := Lib.hid hx5
          have hvr : (vtRest r 32).length ≤ 100000 := by
            have := vgRest_len r
            unfold vtRest
            split
            · rw [List.length_drop]; omega
            · simp
          clear hx5 hu5
          go_wp2_with fail
          refine (rgettext_any w5 n0 u5 (vtRest r 32) 4096 Hu5.out (by have := HX5.out.size; omega) (by omega) ⟨by omega, by omega⟩).mono ?_
          rintro e w7 ⟨u7, rfl, hu7, hx7⟩
          have Hu7 := Lib.hid hu7
          have HX7 := Lib.hid (Ext.trans HX5.out hx7)
          clear hx7 hu7
          obtain ⟨hE5, ht5⟩ | ⟨hE5, ht5⟩ := txt_is 32 r
          · have hfr := Hfr.out
            rw [ht5] at hfr
            simp only at hfr
            have hl5 := txt_len ht5
            rw [show ((32 : Nat) : Int) = 32 from rfl] at hE5 hfr hl5
            rw [hE5]
            generalize vtS r 32 = S5 at hfr hl5
            generalize vtRest r 32 = r5 at hfr hl5 Hu7 hvr
            have Hfr5 := Lib.hid hfr
            clear hfr ht5 hE5
            obtain ⟨hE7, ht7⟩ | ⟨hE7, ht7⟩ := txt_is 4096 r5
            · have hfr := Hfr5.out
              rw [ht7] at hfr
              simp only at hfr
              have hl7 := txt_len ht7
              rw [show ((4096 : Nat) : Int) = 4096 from rfl] at hE7 hfr hl7
              rw [hE7]
              generalize vtS r5 4096 = S7 at hfr hl7
              generalize vtRest r5 4096 = r7 at hfr hl7 Hu7
              have Hfr7 := Lib.hid hfr
              obtain ⟨b0, b1, k0, k1⟩ := (HV.out.ext HX7.out).cell
              have hol8 := Hol.out.ext (Ext.trans HX7.out (Ext.of_alloc w7 (.cells #[.string ⟨S5.toArray⟩, .string ⟨S7.toArray⟩] 59)))
              have hsv := SV.one_ w7 #[.string ⟨S5.toArray⟩, .string ⟨S7.toArray⟩] 59 2 rfl
              have hs7 := HX7.out.size
              have hrep : ∀ W' : World, Reps (α := Fld) W' (fun j => False ∧ j < W'.heap.size ∧ some j ≠ (Value.slice Al fs.length cl).ownBlock) [.string ⟨S5.toArray⟩, .string ⟨S7.toArray⟩] [(⟨S5⟩, ⟨S7⟩)] := fun W' => Reps.single ⟨[.string ⟨S5.toArray⟩], [.string ⟨S7.toArray⟩], rfl, ⟨rfl, by simp only [maxLen]; omega⟩, ⟨rfl, by simp only [maxLen]; omega⟩⟩
              have Hrep := Lib.hid hrep
              have Hsv := Lib.hid hsv
              have Hol8 := Lib.hid hol8
              have HR8 := Lib.hid (HR.out.ext (Ext.trans HX7.out (Ext.of_alloc w7 (.cells #[.string ⟨S5.toArray⟩, .string ⟨S7.toArray⟩] 59))))
              have HV8 := Lib.hid (HV.out.ext (Ext.trans HX7.out (Ext.of_alloc w7 (.cells #[.string ⟨S5.toArray⟩, .string ⟨S7.toArray⟩] 59))))
              have hfl17 : fs.length + 1 ≤ 1000000000 := by have := Hfl.out; omega
              clear hrep hsv hol8 hfr ht7 hE7
              go_wp2_with (at_builtin; go_loud (refine wpList_append_l _ rfl (.tmp 66) (.tmp 70) 38 rfl (w2.heap.size + 1) 59 (fun _ => False) (.agg #[.string ⟨#[]⟩, .string ⟨#[]⟩]) 32 Try.underlying38 info_fld rfl (by decide) (.slice Al fs.length cl) fs rfl Hol8.out (w7.heap.size + 1) (.slice (some ⟨w7.heap.size, 0, none⟩) 1 1) [(⟨S5⟩, ⟨S7⟩)] [.string ⟨S5.toArray⟩, .string ⟨S7.toArray⟩] rfl Hsv.out (Hrep.out _) hfl17 (by omega) (by simp; omega) ?_; intro v10 w10 hown10 hg10 hat10; generalize hps : fs ++ [((⟨S5⟩, ⟨S7⟩) : Fld)] = PS at hown10; have Hps := Lib.hid hps; obtain ⟨A10, c10, rfl, _, _⟩ := hown10.form; have hlt8 : w2.heap.size < (World.alloc w7 (.cells #[.string ⟨S5.toArray⟩, .string ⟨S7.toArray⟩] 59)).heap.size := (by simp; omega); have hR10 : VBox w10 W.heap.size 0 (.slice none 0 0) := (hg10.block W.heap.size (by omega) (fun e => by have := Hol.out.ge _ e.symm; omega)).trans HR8.out; have hV10 : VBox w10 w2.heap.size at_ (.slice Al fs.length cl) := (hg10.block w2.heap.size hlt8 (fun e => by have := Hol.out.ge _ e.symm; omega)).trans HV8.out; have hk10 : Kept (fun j => w2.heap.size ≤ j) w7 w10 := (Ext.kept (Ext.of_alloc _ _) _).trans (grown_kept hg10 fun r hr _ => by have := Hol.out.ge r hr; omega); obtain ⟨z0, z1, y0, y1⟩ := hV10.cell; have Hown10 := Lib.hid hown10; have HR10 := Lib.hid hR10; have HV10 := Lib.hid hV10; have Hk10 := Lib.hid hk10; clear hown10 hg10 hat10 hR10 hV10 hk10 hps))
              go_roundw
              case rel =>
                have hk11 := Kept.setCell (fun j => j = w2.heap.size) w10 ⟨w2.heap.size, 1, none⟩ (.slice A10 PS.length c10) rfl
                have hs10 := Hk10.out.size
                have hx10 : Ext W w10 := Below.trans (Ext.trans Hx.out HX7.out) (Hk10.out.below (by omega) fun j hj => by omega)
                refine ⟨k + 1, PS, r7, _, rfl, by omega, ?_, by omega, (hk11.block _ HR10.out.lt (by omega)).trans HR10.out, HV10.out.set1 _, Hown10.out.kpt hk11 (fun j hj => .inl (by omega)) (fun j hj => hj.elim), by rw [← Hps.out, List.length_append, Hfl.out]; rfl, ?_, Ext.put hx10 hk11 (by omega)⟩
                · exact (Hu7.out.kept (by omega) Hk10.out (fun j hj h => by omega)).kept (by omega) hk11 (fun j hj h => by omega)
                · rw [Hfr7.out, show n - k - 1 = n - (k + 1) from by omega, Hps.out]
              case measure => simp only [intOf]; omega
            · have hdf := Hdf2.out
              have hfr := Hfr5.out
              rw [ht7] at hfr
              simp only at hfr
              rw [hfr] at hdf
              have Hdf7 := Lib.hid hdf
              rw [show ((4096 : Nat) : Int) = 4096 from rfl] at hE7
              have hE' : ((vtE r5 4096 : Int) != 0) = true := by rw [bne_iff_ne]; omega
              generalize vtE r5 4096 = E at hE'
              clear hdf hfr ht7 hE7
              obtain ⟨c0, c1, f0, f1⟩ := (HR.out.ext HX7.out).cell
              go_wp2
              have hf := (HR.out.ext HX7.out).set2 (a' := 0) (v' := .slice none 0 0)
              obtain ⟨e0, e1, _⟩ := hf.cell
              refine bodyPost_ret (v := .tuple #[.agg #[.int .i64 0, .slice none 0 0], .slice none 0 0, .int .i64 100]) (by simp [results, Try.f39, go_sem, e0, e1]) rfl ⟨by rw [Hdf7.out]; rfl, ?_⟩
              exact Ext.put (Ext.trans Hx.out HX7.out) (kept2 _ _ _ _) (Nat.le_refl _)
          · have hdf := Hdf2.out
            have hfr := Hfr.out
            rw [ht5] at hfr
            simp only at hfr
            rw [hfr] at hdf
            have Hdf5 := Lib.hid hdf
            rw [show ((32 : Nat) : Int) = 32 from rfl] at hE5
            have hE' : ((vtE r 32 : Int) != 0) = true := by rw [bne_iff_ne]; omega
            generalize vtE r 32 = E at hE'
            clear hdf hfr ht5 hE5
            obtain ⟨c0, c1, f0, f1⟩ := (HR.out.ext HX7.out).cell
            go_wp2
            have hf := (HR.out.ext HX7.out).set2 (a' := 0) (v' := .slice none 0 0)
            obtain ⟨e0, e1, _⟩ := hf.cell
            refine bodyPost_ret (v := .tuple #[.agg #[.int .i64 0, .slice none 0 0], .slice none 0 0, .int .i64 100]) (by simp [results, Try.f39, go_sem, e0, e1]) rfl ⟨by rw [Hdf5.out]; rfl, ?_⟩
            exact Ext.put (Ext.trans Hx.out HX7.out) (kept2 _ _ _ _) (Nat.le_refl _)
        · have hklt : ¬(k : Int) < n := by omega
          obtain rfl : k = n := by omega
          rw [Nat.sub_self, fldsR_zero] at hfr
          have hdf := Hdf2.out
          rw [hfr] at hdf
          simp only at hdf
          have Hdf3 := Lib.hid hdf
          have Hsl := Lib.hid hol.sl
          have Hso := Lib.hid (hol.sl_own fun _ _ _ _ h => reps_flds h)
          obtain ⟨c0, c1, f0, f1⟩ := hV.cell
          clear hr hR hV hol hfl hx hfr hdf
          go_wp2_with fail
          refine (rcheck_any wr at_ _ fs Hsl.out).mono ?_
          rintro e w5 ⟨rfl, hx5⟩
          have HX5 := Lib.hid (Ext.trans Hx.out hx5)
          have HR5 := Lib.hid (HR.out.ext hx5)
          have HV5 := Lib.hid (HV.out.ext hx5)
          have Hr5 := Lib.hid (Hr.out.ext (by omega) hx5)
          have Hso5 := Lib.hid ((Hso.out.keep (Sm.of_ext hx5 fun j hj => hj.2)).more fun j hj => (show w2.heap.size + 1 ≤ j ∧ j < w5.heap.size from ⟨hj.1, Nat.lt_of_lt_of_le hj.2 hx5.size⟩))
          have hs5 := hx5.size
          clear hx5 c0 c1 f0 f1
          by_cases hev : evE (at_, fs) = 0
          · have hdf := Hdf3.out
            rw [if_pos hev] at hdf
            have Hdf4 := Lib.hid hdf
            rw [hev]
            obtain ⟨c0, c1, f0, f1⟩ := HR5.out.cell
            obtain ⟨d0, d1, g0, g1⟩ := HV5.out.cell
            clear hdf hev
            go_wp2
            have hf := HR5.out.set2 (a' := at_) (v' := .slice Al fs.length cl)
            obtain ⟨e0, e1, _⟩ := hf.cell
            have hk := kept2 w5 W.heap.size (.int .i64 at_) (.slice Al fs.length cl)
            refine bodyPost_ret (v := .tuple #[.agg #[.int .i64 at_, .slice Al fs.length cl], _, .int .i64 0]) (by simp [results, Try.f39, go_sem, e0, e1]; rfl) rfl ⟨by rw [Hdf4.out]; exact ⟨_, _, rfl, Hr5.out.kept (by omega) hk (fun j hj h => by omega), (Hso5.out.keep (Sm.of_kept hk fun j hj => ⟨hj.2, fun e => by have := hj.1; omega⟩)).more fun j hj => ⟨by omega, Nat.lt_of_lt_of_le hj.2 hk.size⟩⟩, Ext.put HX5.out hk (Nat.le_refl _)⟩
          · have hdf := Hdf3.out
            rw [if_neg hev] at hdf
            have Hdf4 := Lib.hid hdf
            have hE' : ((evE (at_, fs) : Int) != 0) = true := by rw [bne_iff_ne]; omega
            generalize evE (at_, fs) = E at hE'
            clear hdf hev
            obtain ⟨c0, c1, f0, f1⟩ := (HR5.out).cell
            go_wp2
            have hf := (HR5.out).set2 (a' := 0) (v' := .slice none 0 0)
            obtain ⟨e0, e1, _⟩ := hf.cell
            refine bodyPost_ret (v := .tuple #[.agg #[.int .i64 0, .slice none 0 0], .slice none 0 0, .int .i64 100]) (by simp [results, Try.f39, go_sem, e0, e1]) rfl ⟨by rw [Hdf4.out]; rfl, ?_⟩
            exact Ext.put (HX5.out) (kept2 _ _ _ _) (Nat.le_refl _)
    · have hdf := Hdf.out
      rw [hnum] at hdf
      have Hdf2 := Lib.hid hdf
      have hni : (16 : Int) < (vgN q1 : Int) := by omega
      rw [hE2]
      generalize vgN q1 = n at hni
      clear hdf hnum hE2 hr2 hlt
      obtain ⟨c0, c1, f0, f1⟩ := (HR2.out).cell
      go_wp2
      have hf := (HR2.out).set2 (a' := 0) (v' := .slice none 0 0)
      obtain ⟨e0, e1, _⟩ := hf.cell
      refine bodyPost_ret (v := .tuple #[.agg #[.int .i64 0, .slice none 0 0], .slice none 0 0, .int .i64 100]) (by simp [results, Try.f39, go_sem, e0, e1]) rfl ⟨by rw [Hdf2.out]; rfl, ?_⟩
      exact Ext.put (HX2.out) (kept2 _ _ _ _) (Nat.le_refl _)
    · have hdf := Hdf.out
      rw [hnum] at hdf
      have Hdf2 := Lib.hid hdf
      have hE' : ((vgE q1 : Int) != 0) = true := by rw [bne_iff_ne]; omega
      generalize vgE q1 = E at hE'
      clear hdf hnum hE2 hr2
      obtain ⟨c0, c1, f0, f1⟩ := (HR2.out).cell
      go_wp2
      have hf := (HR2.out).set2 (a' := 0) (v' := .slice none 0 0)
      obtain ⟨e0, e1, _⟩ := hf.cell
      refine bodyPost_ret (v := .tuple #[.agg #[.int .i64 0, .slice none 0 0], .slice none 0 0, .int .i64 100]) (by simp [results, Try.f39, go_sem, e0, e1]) rfl ⟨by rw [Hdf2.out]; rfl, ?_⟩
      exact Ext.put (HX2.out) (kept2 _ _ _ _) (Nat.le_refl _)
  · have Hdf := Lib.hid (evG_err hE)
    have hE' : ((vgE bs : Int) != 0) = true := by rw [bne_iff_ne]; omega
    generalize vgE bs = E at hE'
    clear hE
    obtain ⟨c0, c1, f0, f1⟩ := (HR1.out).cell
    go_wp2
    have hf := (HR1.out).set2 (a' := 0) (v' := .slice none 0 0)
    obtain ⟨e0, e1, _⟩ := hf.cell
    refine bodyPost_ret (v := .tuple #[.agg #[.int .i64 0, .slice none 0 0], .slice none 0 0, .int .i64 100]) (by simp [results, Try.f39, go_sem, e0, e1]) rfl ⟨by rw [Hdf.out]; rfl, ?_⟩
    exact Ext.put (HX1.out) (kept2 _ _ _ _) (Nat.le_refl _)

end Go.Proofs.Ytbnjhpknagkiaaa
