/-
  Contracts of the reference's SameInts and of the law's awake.
  Conditions: none.
-/
import Derived.Test.YtbnjhpknagkiaaaUl
import Derived.BigQuiet
namespace Go.Proofs.Ytbnjhpknagkiaaa
open Go.RowKit Go.Op

set_option maxHeartbeats 1600000 in
set_option maxRecDepth 100000 in
theorem samei_any (w : World) (u v : Value) (xs ys : List Int) (hu : SL w (Bw w) u xs) (hv : SL w (Bw w) v ys) :
    Calls Try.prog 24 #[u, v] w fun e w' => e = .returned (.bool (decide (xs = ys))) ∧ Ext w w' := by
  obtain ⟨A, c, rfl, hc, hm⟩ := hu.form
  obtain ⟨A', c', rfl, hc', hm'⟩ := hv.form
  unfold maxLen at hm
  have Hu := Lib.hid hu
  have Hv := Lib.hid hv
  clear hu hv
  by_cases hl : xs.length = ys.length
  · have tl : ((xs.length : Int) != (ys.length : Int)) = false := by simp [hl]
    have hle : xs.length ≤ ys.length := by omega
    have hge : ys.length ≤ xs.length := by omega
    clear hl
    go_enter Try.func24, Try.ntmps24
    go_wp2_with fail
    go_loopw [5] (fun i wr => ∃ k : Nat, i = .int .i64 k ∧ k ≤ xs.length ∧ xs.take k = ys.take k ∧ ∃ q, wr = w.drewN q) (fun i _ => xs.length - (intOf i).toNat)
    case atStart => exact ⟨0, rfl, Nat.zero_le _, rfl, 0, rfl⟩
    case round =>
      obtain ⟨k, rfl, hk, heq, q, rfl⟩ := hrel
      have Heq := Lib.hid heq
      clear heq
      by_cases hlt : k < xs.length
      · obtain ⟨ad, rfl, _, hx, _⟩ := Hu.out.int_at' hlt
        obtain ⟨ad', rfl, _, hx', _⟩ := Hv.out.int_at' (show k < ys.length by omega)
        have Hsn := Lib.hid (List.take_succ_eq_append_getElem (l := xs) hlt)
        have Hsn' := Lib.hid (List.take_succ_eq_append_getElem (l := ys) (show k < ys.length by omega))
        by_cases hz : xs[k] = ys[k]
        · have tz : (xs[k] != ys[k]) = false := by simp [hz]
          have Hz := Lib.hid hz
          clear hz
          generalize xs[k] = x at hx Hsn tz Hz
          generalize ys[k] = y at hx' Hsn' tz Hz
          go_wp2
          go_quiet (fail)
          go_wp2
          go_roundw
          case rel => exact ⟨k + 1, by go_num, by omega, by rw [Hsn.out, Hsn'.out, Heq.out, Hz.out], _, rfl⟩
          case measure => simp [intOf]; omega
        · have tz : (xs[k] != ys[k]) = true := by simpa using hz
          have hne : decide (xs = ys) = false := by
            rw [decide_eq_false_iff_not]
            rintro rfl
            exact hz rfl
          have Hne := Lib.hid hne
          clear hz hne
          generalize xs[k] = x at hx Hsn tz
          generalize ys[k] = y at hx' Hsn' tz
          go_wp2
          go_quiet (fail)
          go_wp2
          go_ret
          exact ⟨by rw [Hne.out]; rfl, (Ext.drewN _ _).trans (Ext.drewN _ _)⟩
      · have he : decide (xs = ys) = true := by
          have := Heq.out
          rw [List.take_of_length_le (by omega), List.take_of_length_le (by omega)] at this
          simpa using this
        have He := Lib.hid he
        clear he
        go_wp2
        go_ret
        exact ⟨by rw [He.out]; rfl, Ext.drewN _ _⟩
  · have tl : ((xs.length : Int) != (ys.length : Int)) = true := by rw [bne_iff_ne]; omega
    have hne : decide (xs = ys) = false := by
      rw [decide_eq_false_iff_not]
      rintro rfl
      exact hl rfl
    rw [hne]
    clear hl hne
    go_enter Try.func24, Try.ntmps24
    go_wp2
    go_ret
    exact ⟨rfl, Below.refl _ _⟩

/-- the page's example -/
def pgF : List Fld := [(⟨[109, 115, 103]⟩, ⟨[97, 32, 98, 32, 97]⟩), (⟨[109, 115, 103]⟩, ⟨[98]⟩)]
theorem pg_terms : termsL pgF = [([109, 115, 103, 58, 97], [0, 2]), ([109, 115, 103, 58, 98], [1, 67])] := by decide
theorem pg_E : evE (0, pgF) = 0 := by decide
theorem pg_bad : evE (0, [(⟨[]⟩, ⟨[]⟩)]) = 100 := by decide
theorem pg_sl (w : World) : SL (w.alloc (.cells #[.string ⟨#[109, 115, 103]⟩, .string ⟨#[97, 32, 98, 32, 97]⟩, .string ⟨#[109, 115, 103]⟩, .string ⟨#[98]⟩] 59)) (Bw (w.alloc (.cells #[.string ⟨#[109, 115, 103]⟩, .string ⟨#[97, 32, 98, 32, 97]⟩, .string ⟨#[109, 115, 103]⟩, .string ⟨#[98]⟩] 59))) (.slice (some ⟨w.heap.size, 0, none⟩) 2 2) pgF := by
  refine SL.newL w _ _ (l := pgF) (S := fun _ => False) 2 rfl (by simp [maxLen]) ?_ (fun _ h => h.elim)
  exact ⟨[.string ⟨#[109, 115, 103]⟩, .string ⟨#[97, 32, 98, 32, 97]⟩], [.string ⟨#[109, 115, 103]⟩, .string ⟨#[98]⟩], rfl, ⟨[_], [_], rfl, ⟨rfl, by simp [maxLen]⟩, ⟨rfl, by simp [maxLen]⟩⟩,
    [.string ⟨#[109, 115, 103]⟩, .string ⟨#[98]⟩], [], rfl, ⟨[_], [_], rfl, ⟨rfl, by simp [maxLen]⟩, ⟨rfl, by simp [maxLen]⟩⟩, rfl⟩
theorem two_sl (w : World) (x y : Int) (hx : I6 x) (hy : I6 y) : SL (w.alloc (.cells #[.int .i64 x, .int .i64 y] 3)) (Bw (w.alloc (.cells #[.int .i64 x, .int .i64 y] 3))) (.slice (some ⟨w.heap.size, 0, none⟩) 2 2) [x, y] := by
  refine SL.newL w _ _ (l := [x, y]) (S := fun _ => False) 2 rfl (by simp [maxLen]) ?_ (fun _ h => h.elim)
  exact ⟨[.int .i64 x], [.int .i64 y], rfl, ⟨rfl, hx⟩, [.int .i64 y], [], rfl, ⟨rfl, hy⟩, rfl⟩
theorem bad_sl (w : World) : SL (w.alloc (.cells #[.string ⟨#[]⟩, .string ⟨#[]⟩] 59)) (Bw (w.alloc (.cells #[.string ⟨#[]⟩, .string ⟨#[]⟩] 59))) (.slice (some ⟨w.heap.size, 0, none⟩) 1 1) [((⟨[]⟩, ⟨[]⟩) : Fld)] := by
  refine SL.newL w _ _ (l := [((⟨[]⟩, ⟨[]⟩) : Fld)]) (S := fun _ => False) 1 rfl (by simp [maxLen]) ?_ (fun _ h => h.elim)
  exact ⟨[.string ⟨#[]⟩, .string ⟨#[]⟩], [], rfl, ⟨[_], [_], rfl, ⟨rfl, by simp [maxLen]⟩, ⟨rfl, by simp [maxLen]⟩⟩, rfl⟩

set_option maxHeartbeats 3200000 in
set_option maxRecDepth 100000 in
theorem awake_any (w : World) : Calls Try.prog 11 #[] w fun e w' => e = .returned (.bool true) ∧ Ext w w' := by
  have Hx0 := Lib.hid (Ext.of_alloc w (.cells #[.string ⟨#[109, 115, 103]⟩, .string ⟨#[97, 32, 98, 32, 97]⟩, .string ⟨#[109, 115, 103]⟩, .string ⟨#[98]⟩] 59))
  go_enter Try.func11, Try.ntmps11
  go_wp2_with fail
  refine (terms_ok _ 0 _ pgF (pg_sl w) pg_E).mono ?_
  rintro e w1 ⟨u, rfl, hu, hx⟩
  rw [pg_terms] at hu
  have hu2 : SL w1 (Bw w1) u [((⟨[109, 115, 103, 58, 97]⟩ : Tx), ([0, 2] : List Int)), (⟨[109, 115, 103, 58, 98]⟩, [1, 67])] := hu
  obtain ⟨Au, cu, rfl, _⟩ := hu2.form
  obtain ⟨ad, u0, rfl, q0, q1, hs0⟩ := hu2.trm_at (show 0 < [((⟨[109, 115, 103, 58, 97]⟩ : Tx), ([0, 2] : List Int)), (⟨[109, 115, 103, 58, 98]⟩, [1, 67])].length by decide)
  obtain ⟨ad', u1, had, r0, r1, hs1⟩ := hu2.trm_at (show 1 < [((⟨[109, 115, 103, 58, 97]⟩ : Tx), ([0, 2] : List Int)), (⟨[109, 115, 103, 58, 98]⟩, [1, 67])].length by decide)
  obtain rfl : ad = ad' := by injection had
  have ha : ad.add (0 * 2) = ad := by simp [Addr.add]
  rw [ha] at q0 q1
  simp only [List.getElem_cons_zero, List.getElem_cons_succ, Nat.one_mul] at q0 q1 r0 r1 hs0 hs1
  have hl2 : [((⟨[109, 115, 103, 58, 97]⟩ : Tx), ([0, 2] : List Int)), (⟨[109, 115, 103, 58, 98]⟩, [1, 67])].length = 2 := rfl
  rw [hl2]
  have Hx1 := Lib.hid (Ext.trans Hx0.out hx)
  have Hs0 := Lib.hid hs0
  have Hs1 := Lib.hid hs1
  obtain ⟨A0, c0, rfl, _⟩ := hs0.form
  obtain ⟨A1, c1, rfl, _⟩ := hs1.form
  clear hu hu2 hx hs0 hs1 ha hl2 had
  have hy1 := Ext.of_alloc w1 (.cells #[.int .i64 0, .int .i64 2] 3)
  go_wp2_with fail
  refine (samei_any _ _ _ [0, 2] [0, 2] (Hs0.out.up hy1) (two_sl w1 0 2 (I6.mk (by decide)) (I6.mk (by decide)))).mono ?_
  rintro e w2 ⟨rfl, hx2⟩
  rw [decide_eq_true rfl]
  have hx12 := Ext.trans hy1 hx2
  have r0 := Ext.keeps hx12 r0
  have r1 := Ext.keeps hx12 r1
  have Hs2 := Lib.hid (Hs1.out.up hx12)
  have Hx2 := Lib.hid (Ext.trans Hx1.out hx12)
  have hy2 := Ext.of_alloc w2 (.cells #[.int .i64 1, .int .i64 67] 3)
  have ha2 : ad.add 2 = ⟨ad.block, ad.off + 2, none⟩ := by simp [Addr.add]
  rw [ha2] at r0 r1
  have r1' : w2.cell? ⟨ad.block, ad.off + 3, none⟩ = some (.slice A1 2 c1) := r1
  clear q0 q1 hx2 hx12 hy1 ha2
  go_wp2_with fail
  refine (samei_any _ _ _ [1, 67] [1, 67] (Hs2.out.up hy2) (two_sl w2 1 67 (I6.mk (by decide)) (I6.mk (by decide)))).mono ?_
  rintro e w3 ⟨rfl, hx3⟩
  rw [decide_eq_true rfl]
  have Hx3 := Lib.hid (Ext.trans Hx2.out (Ext.trans hy2 hx3))
  have hy3 := Ext.of_alloc w3 (.cells #[.string ⟨#[]⟩, .string ⟨#[]⟩] 59)
  clear r0 r1 hx3 hy2
  go_wp2_with fail
  refine (check_any _ 0 _ [(⟨[]⟩, ⟨[]⟩)] (bad_sl w3)).mono ?_
  rintro e w4 ⟨rfl, hx4⟩
  rw [pg_bad]
  have Hx4 := Lib.hid (Ext.trans Hx3.out (Ext.trans hy3 hx4))
  clear hx4 hy3
  go_wp2
  go_ret
  exact ⟨rfl, Hx4.out⟩
end Go.Proofs.Ytbnjhpknagkiaaa
