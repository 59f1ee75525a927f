/-
  FrameForms: the law's contract: it answers true and leaves all old memory alone.
  Conditions: none.
-/
import Derived.Test.YtgipbkfpfidpmaaFc
namespace Go.Proofs.Ytgipbkfpfidpmaa
open Go.RowKit

set_option maxHeartbeats 4000000 in
set_option maxRecDepth 100000 in
theorem forms_any (w : World) (va vb : Value) (as0 bs0 : List UInt8) (n : Int) (ha : BS w w.heap.size va as0) (hb : BS w w.heap.size vb bs0) (hn : -9223372036854775808 ≤ n ∧ n ≤ 9223372036854775807) :
    Calls Try.prog 3 #[va, vb, .int .i64 n] w fun e w' => e = .returned (.bool true) ∧ Ext w w' := by
  go_enter Try.func3, Try.ntmps3
  go_wp2_with fail
  refine (cut_any w _ va as0 ha).mono ?_
  rintro e w' ⟨a, rfl, ha, rfl⟩
  go_wp2_with fail
  refine (cut_any w _ vb bs0 hb).mono ?_
  rintro e w' ⟨b, rfl, hb, rfl⟩
  have la : (as0.take 400).length ≤ 400 := by rw [List.length_take]; omega
  have lb : (bs0.take 400).length ≤ 400 := by rw [List.length_take]; omega
  generalize as0.take 400 = xs at ha la
  generalize bs0.take 400 = ps at hb lb
  obtain ⟨Aa, ca, rfl⟩ := ha.form
  obtain ⟨Ab, cb, rfl⟩ := hb.form
  have Ha := Lib.hid ha
  have Hb := Lib.hid hb
  clear ha hb
  go_wp2_with fail
  refine (fput_any w _ _ xs ps Ha.out Hb.out (by omega) (by omega)).mono ?_
  rintro e w1 ⟨x, rfl, hox, hx1⟩
  go_wp2_with fail
  refine (rfput_any w1 _ _ xs ps (Ha.out.up hx1) (Hb.out.up hx1) (by omega) (by omega)).mono ?_
  rintro e w2 ⟨y, rfl, hoy, hx2⟩
  have h2 := hx1.trans hx2
  go_wp2_with fail
  refine (fget_any w2 _ xs (Ha.out.up h2) (by omega)).mono ?_
  rintro e w3 ⟨p, r, rfl, hp, hr, hx3⟩
  have h3 := h2.trans hx3
  go_wp2_with fail
  refine (rfget_any w3 _ xs (Ha.out.up h3) (by omega)).mono ?_
  rintro e w4 ⟨q, l, rfl, hq, hl, hx4⟩
  have h4 := h3.trans hx4
  obtain ⟨Ax, cx, rfl⟩ := (Own.bs hox).form
  have t1 := str_of (Own.ext hox (hx2.trans (hx3.trans hx4))) _ rfl
  have t2 := str_of (Own.ext hoy (hx3.trans hx4)) _ rfl
  have t3 := str_of_bs (hp.up hx4) _ rfl
  have t4 := str_of_bs hq _ rfl
  have t5 := str_of_bs (hr.up hx4) _ rfl
  have t6 := str_of_bs hl _ rfl
  have lx : (xs ++ fr ps).length = xs.length + ((enc ps.length).length + 4 + ps.length) := by unfold fr; simp [be4]; omega
  have hu := enc_len10 (U64.mk (show ps.length < _ by omega))
  have H4 := Lib.hid h4
  have lF : (xs ++ fr ps).length ≤ 2000 := by omega
  generalize xs ++ fr ps = F at hox hoy t1 t2 lx lF
  have Lx := Lib.hid lx
  clear lx
  generalize fgE xs = E
  generalize fgP xs = P at hp hq t3 t4
  generalize fgR xs = R at hr hl t5 t6
  clear hox hoy hp hq hr hl hx1 hx2 hx3 hx4 h2 h3 h4
  have f1 := fun w => fsize_any w n hn
  have f2 := fun w => rfsize_any w n hn
  generalize (if n < 0 ∨ 16777216 < n then 0 else (enc n.toNat).length + 4 + n : Int) = S at f1 f2
  have F1 := Lib.hid f1
  have F2 := Lib.hid f2
  clear f1 f2
  go_wp2_with fail
  refine (F1.out _).mono ?_
  rintro e w' ⟨rfl, rfl⟩
  go_wp2_with fail
  refine (F2.out _).mono ?_
  rintro e w5 ⟨rfl, hx5⟩
  have hs := fsize_any w5 ps.length (by omega)
  have hif : (if (ps.length : Int) < 0 ∨ 16777216 < (ps.length : Int) then 0 else ((enc (ps.length : Int).toNat).length : Int) + 4 + ps.length) = (F.length : Int) - xs.length := by
    rw [if_neg (by omega), Int.toNat_natCast, Lx.out]
    omega
  rw [hif] at hs
  have Hs := Lib.hid hs
  clear hs hif
  go_wp2_with fail
  refine Hs.out.mono ?_
  rintro e w' ⟨rfl, rfl⟩
  go_wp2_with fail
  refine (awake_any _).mono ?_
  rintro e w6 ⟨rfl, hx6⟩
  go_wp2
  go_ret
  exact ⟨rfl, (H4.out.trans hx5).trans hx6⟩

end Go.Proofs.Ytgipbkfpfidpmaa
