/-
  CrcSums: the law's contract: it answers true and leaves all old memory alone.
  Conditions: none.
-/
import Derived.Test.YtohocioglinknaaCc
namespace Go.Proofs.Ytohocioglinknaa
open Go.RowKit

/-- three slices as0 one of slices -/
theorem three (w : World) (a b c : Value) (xs ys zs : List UInt8) (ha : BS w w.heap.size a xs) (hb : BS w w.heap.size b ys) (hc : BS w w.heap.size c zs) :
    BBS (w.alloc (.cells #[a, b, c] 22)) (w.heap.size + 1) (.slice (some ⟨w.heap.size, 0, none⟩) 3 3) [xs, ys, zs] :=
  BBS.lit w w.heap.size #[a, b, c] _ [xs, ys, zs] 3 rfl rfl (Nat.le_refl _) (by simp [maxLen]) (by
    intro i hi
    match i, hi with
    | 0, _ => exact ⟨_, rfl, ha⟩
    | 1, _ => exact ⟨_, rfl, hb⟩
    | 2, _ => exact ⟨_, rfl, hc⟩)

set_option maxHeartbeats 4000000 in
set_option maxRecDepth 100000 in
theorem sums_any (w : World) (va vb vc : Value) (as0 bs0 cs0 : List UInt8) (s : Nat) (ha : BS w w.heap.size va as0) (hb : BS w w.heap.size vb bs0) (hc : BS w w.heap.size vc cs0) (hs : U32 s) :
    Calls Try.prog 3 #[va, vb, vc, .int .u32 s] w fun e w' => e = .returned (.bool true) ∧ Ext w w' := by
  go_enter Try.func3, Try.ntmps3
  go_wp2_with fail
  refine (cut_any w _ va as0 ha).mono ?_
  rintro e w' ⟨a, rfl, ha, rfl⟩
  go_wp2_with fail
  refine (cut_any w _ vb bs0 hb).mono ?_
  rintro e w' ⟨b, rfl, hb, rfl⟩
  go_wp2_with fail
  refine (cut_any w _ vc cs0 hc).mono ?_
  rintro e w' ⟨c, rfl, hc, rfl⟩
  have la : (as0.take 3000).length ≤ 3000 := by rw [List.length_take]; omega
  have lb : (bs0.take 3000).length ≤ 3000 := by rw [List.length_take]; omega
  have lc : (cs0.take 3000).length ≤ 3000 := by rw [List.length_take]; omega
  generalize as0.take 3000 = xs at ha la
  generalize bs0.take 3000 = ys at hb lb
  generalize cs0.take 3000 = zs at hc lc
  obtain ⟨Aa, ca, rfl⟩ := ha.form
  obtain ⟨Ab, cb, rfl⟩ := hb.form
  obtain ⟨Ac, cc, rfl⟩ := hc.form
  have hall : ∀ b ∈ [xs, ys, zs], b.length ≤ 100000000 := by
    intro b hb
    simp only [List.mem_cons, List.not_mem_nil, or_false] at hb
    rcases hb with rfl | rfl | rfl <;> omega
  have Hall := Lib.hid hall
  clear hall
  go_wp2_with fail
  refine (sum_any (w.alloc (.cells #[.slice Aa xs.length ca, .slice Ab ys.length cb, .slice Ac zs.length cc] 22)) (.slice (some ⟨w.heap.size, 0, none⟩) 3 3) [xs, ys, zs] (by simpa using three w _ _ _ xs ys zs ha hb hc) Hall.out (by simp)).mono ?_
  rintro e w1 ⟨rfl, hx1⟩
  have e1 := (Ext.of_alloc w _).trans hx1
  have up : ∀ {v : Value} {l : List UInt8}, BS w w.heap.size v l → BS w1 w1.heap.size v l := fun h => (h.ext (Nat.le_refl _) e1).more e1.size
  have ha1 := up ha
  have hb1 := up hb
  have hc1 := up hc
  have E1 := Lib.hid e1
  clear up hx1 e1
  go_wp2_with fail
  refine (rsum_any (w1.alloc (.cells #[.slice Aa xs.length ca, .slice Ab ys.length cb, .slice Ac zs.length cc] 22)) (.slice (some ⟨w1.heap.size, 0, none⟩) 3 3) [xs, ys, zs] (by simpa using three w1 _ _ _ xs ys zs ha1 hb1 hc1) Hall.out (by simp)).mono ?_
  rintro e w2 ⟨rfl, hw2⟩
  have e2 : Ext w1 w2 := hw2 ▸ Ext.of_alloc w1 _
  have E2 := Lib.hid e2
  have ha2 := (ha1.ext (Nat.le_refl _) e2).more e2.size
  clear hw2 e2
  go_wp2_with fail
  refine (next_any w2 _ _ s xs hs ha2 (Nat.le_refl _) (by omega)).mono ?_
  rintro e w3 ⟨rfl, hx3⟩
  go_wp2_with fail
  refine (rnext_any w3 _ _ s xs hs (ha2.ext (Nat.le_refl _) hx3) (by omega)).mono ?_
  rintro e w' ⟨rfl, rfl⟩
  go_wp2_with fail
  refine (sum_any w3 _ [] (BBS.nil_ _ _) (by simp) (by simp)).mono ?_
  rintro e w4 ⟨rfl, hx4⟩
  have h0 : csumTo 0 [] = 0 := rfl
  go_wp2_with fail
  refine (awake_any w4).mono ?_
  rintro e w5 ⟨rfl, hx5⟩
  go_wp2
  go_ret
  exact ⟨rfl, ((E1.out.trans E2.out).trans hx3).trans (hx4.trans hx5)⟩

end Go.Proofs.Ytohocioglinknaa
