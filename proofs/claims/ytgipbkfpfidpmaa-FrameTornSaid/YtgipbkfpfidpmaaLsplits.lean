/-
  FrameSplits: the law's contract: it answers true and leaves all old memory alone.
  Conditions: none.
-/
import Derived.Test.YtgipbkfpfidpmaaFj
namespace Go.Proofs.Ytgipbkfpfidpmaa
open Go.RowKit

theorem fewl_le (l : List (List UInt8)) : (∀ p ∈ fewl l, p.length ≤ 1000) ∧ (fewl l).length ≤ 500 := by
  unfold fewl
  constructor
  · intro p hp
    obtain ⟨q, _, rfl⟩ := List.mem_map.1 hp
    rw [List.length_take]
    omega
  · rw [List.length_map, List.length_take]
    omega

set_option maxHeartbeats 4000000 in
set_option maxRecDepth 100000 in
theorem splits_any (w : World) (va vl : Value) (as0 : List UInt8) (l0 : List (List UInt8)) (ha : BS w w.heap.size va as0) (hl : BBS w w.heap.size vl l0) :
    Calls Try.prog 6 #[va, vl] w fun e w' => e = .returned (.bool true) ∧ Ext w w' := by
  have Hl := Lib.hid hl
  obtain ⟨Al, cl, rfl, _, _⟩ := hl.form
  clear hl
  go_enter Try.func6, Try.ntmps6
  go_wp2_with fail
  refine (cut_any w _ va as0 ha).mono ?_
  rintro e w' ⟨a, rfl, ha, rfl⟩
  have la : (as0.take 400).length ≤ 400 := by rw [List.length_take]; omega
  generalize as0.take 400 = xs at ha la
  obtain ⟨Aa, ca, rfl⟩ := ha.form
  have Ha := Lib.hid ha
  clear ha
  go_wp2_with fail
  refine (few_any w _ l0 Hl.out).mono ?_
  rintro e w1 ⟨v1, rfl, hf, hx1⟩
  obtain ⟨hf1, hf2⟩ := fewl_le l0
  generalize fewl l0 = l at hf hf1 hf2
  have Hf := Lib.hid hf
  have Hf1 := Lib.hid hf1
  obtain ⟨A1, c1, rfl, _, _⟩ := hf.form
  clear hf hf1
  go_wp2_with fail
  refine (split_any w1 _ xs (Ha.out.up hx1) (by omega)).mono ?_
  rintro e w2 ⟨x, rfl, hx, hx2⟩
  have h2 := hx1.trans hx2
  go_wp2_with fail
  refine (rsplit_any w2 _ xs (Ha.out.up h2) (by omega)).mono ?_
  rintro e w3 ⟨y, rfl, hy, hx3⟩
  have h3 := h2.trans hx3
  have Hx := Lib.hid hx
  have Hy := Lib.hid hy
  obtain ⟨Ax, cx, rfl, _, _⟩ := hx.form
  obtain ⟨Ay, cy, rfl, _, _⟩ := hy.form
  clear hx hy
  go_wp2_with fail
  refine (join_any w3 _ l ((Hf.out.up hx2).up hx3) Hf1.out hf2).mono ?_
  rintro e w4 ⟨u, rfl, hu, hx4⟩
  go_wp2_with fail
  refine (rjoin_any w4 _ l (((Hf.out.up hx2).up hx3).up hx4) Hf1.out hf2).mono ?_
  rintro e w5 ⟨v, rfl, hv, hx5⟩
  have h5 := (h3.trans hx4).trans hx5
  obtain ⟨Au, cu, rfl⟩ := hu.form
  obtain ⟨Av, cv, rfl⟩ := hv.form
  have Hu := Lib.hid (hu.up hx5)
  have Hv := Lib.hid hv
  have H5 := Lib.hid h5
  have HX := Lib.hid (((Hx.out.up hx3).up hx4).up hx5)
  have HY := Lib.hid ((Hy.out.up hx4).up hx5)
  clear hu hv hx1 hx2 hx3 hx4 hx5 h2 h3 h5
  generalize sp xs = S at HX HY
  generalize frs l = F at Hu Hv
  obtain ⟨S1, S2, S3⟩ := S
  go_wp2_with fail
  refine (rsame_any w5 _ _ S1 S1 HX.out HY.out).mono ?_
  rintro e w6 ⟨rfl, hx6⟩
  rw [show decide (S1 = S1) = true from decide_eq_true rfl]
  have t1 := str_of_bs (Hu.out.up hx6) _ rfl
  have t2 := str_of_bs (Hv.out.up hx6) _ rfl
  go_wp2_with fail
  refine (awake_any _).mono ?_
  rintro e w7 ⟨rfl, hx7⟩
  go_wp2
  go_ret
  exact ⟨rfl, (H5.out.trans hx6).trans hx7⟩

end Go.Proofs.Ytgipbkfpfidpmaa
