/-
  FrameBounds: the law's contract: it answers true and leaves all old memory alone.
  Conditions: none.
-/
import Derived.Test.YtgipbkfpfidpmaaFc
import Derived.Laws.OwnMore
namespace Go.Proofs.Ytgipbkfpfidpmaa
open Go.RowKit

set_option maxHeartbeats 1600000 in
set_option maxRecDepth 100000 in
theorem join_long (w : World) (g n c : Nat) (A : Option Addr) (h0 : w.cell? ⟨g, 0, none⟩ = some (.slice none 0 0)) (h1 : w.cell? ⟨g, 1, none⟩ = some (.slice A n c)) (hn : 16777216 < n) :
    Calls Try.prog 17 #[.slice (some ⟨g, 0, none⟩) 2 2] w fun e w' => e = .returned (.tuple #[.slice none 0 0, .int .i64 2]) ∧ Ext w w' := by
  have hg := World.block_lt_of_cell? _ _ h0
  have H0 := Lib.hid h0
  have H1 := Lib.hid h1
  clear h0 h1
  go_enter Try.func17, Try.ntmps17
  go_wp2_with fail
  go_loopw [4, 11] (fun b i wr => ∃ (k : Nat) (bs : List UInt8), i = .int .i64 k ∧ k ≤ 1 ∧ BS wr wr.heap.size b bs ∧ bs.length ≤ 100 * k ∧ Ext w wr) (fun _ i _ => 2 - (intOf i).toNat)
  case atStart => exact ⟨0, [], rfl, by decide, BS.nil_ _ _, by simp, Below.refl _ _⟩
  case round =>
    obtain ⟨k, bs, rfl, hk, hb, hl, hx⟩ := hrel
    have c0 := (hx.cell (p := ⟨g, 0, none⟩) hg).trans H0.out
    have c1 := (hx.cell (p := ⟨g, 1, none⟩) hg).trans H1.out
    have Hb := Lib.hid hb
    have Hx := Lib.hid hx
    clear hb hx
    by_cases hk0 : k = 0
    · subst hk0
      go_wp2_with fail
      refine (fput_any wr _ _ bs [] Hb.out (BS.nil_ _ _) (by omega) (by simp)).mono ?_
      rintro e w1 ⟨v1, rfl, hown, hx1⟩
      have hfl : (bs ++ fr []).length ≤ 100 := by
        rw [List.length_append, show (fr []).length = 5 from by decide +kernel]
        omega
      have Hb1 := Lib.hid (Own.bs hown)
      have Hx1 := Lib.hid (Hx.out.trans hx1)
      generalize bs ++ fr [] = bs1 at Hb1 hfl
      clear hown hx1 c0 c1
      go_wp2
      exact ⟨⟨1, bs1, rfl, by decide, Hb1.out, by omega, Hx1.out⟩, by simp [intOf]⟩
    · have hk1 : k = 1 := by omega
      subst hk1
      go_wp2_with fail
      refine (fput_long wr _ _ A n c rfl hn).mono ?_
      rintro e w1 ⟨rfl, rfl⟩
      go_wp2
      go_ret2
      exact ⟨rfl, Hx.out⟩

theorem ex_big : ∀ n, 1 ≤ n → n ≤ 5 → fgE [UInt8.ofNat (128 + n), 128, 128, 8, 1, 2, 3, 4] = 40
  | 1, _, _ => by decide +kernel
  | 2, _, _ => by decide +kernel
  | 3, _, _ => by decide +kernel
  | 4, _, _ => by decide +kernel
  | 5, _, _ => by decide +kernel
  | 0, h, _ => by omega
  | n + 6, _, h => by omega
theorem ex_most : fgE [128, 128, 128, 8, 1, 2, 3, 4] = 41 := by decide +kernel
theorem ex_mlen : (enc 16777216).length = 4 := by decide +kernel
theorem ex_msize (w : World) : Calls Try.prog 14 #[.int .i64 16777216] w fun e w' => e = .returned (.int .i64 16777224) ∧ w = w' := by
  have h := fsize_any w 16777216 (by omega)
  rw [if_neg (by decide), show ((16777216 : Int)).toNat = 16777216 from rfl, ex_mlen] at h
  exact h
theorem ex_lsize (w : World) (n : Nat) (h1 : 1 ≤ n) (h5 : n ≤ 5) : Calls Try.prog 14 #[.int .i64 (16777216 + n)] w fun e w' => e = .returned (.int .i64 0) ∧ w = w' := by
  have h := fsize_any w (16777216 + n) (by omega)
  rw [if_pos (by omega)] at h
  exact h

set_option maxHeartbeats 1600000 in
set_option maxRecDepth 100000 in
theorem bounds_any (w : World) (b : UInt8) : Calls Try.prog 5 #[.int .u8 b.toNat] w fun e w' => e = .returned (.bool true) ∧ Ext w w' := by
  have hb := b.toNat_lt
  obtain ⟨n, hn, h1, h5⟩ : ∃ n : Nat, 1 + (b.toNat : Int) % 5 = (n : Int) ∧ 1 ≤ n ∧ n ≤ 5 := ⟨1 + b.toNat % 5, by omega, by omega, by omega⟩
  obtain ⟨i0, hi0, hz0, hz1, hz2⟩ := info_parts info_u8
  have mk : ∀ W : World, ∃ W', (Instr.makeSlice 22 (.int .i64 (16777216 + (n : Int))) (.int .i64 (16777216 + (n : Int)))).run Try.prog W = .ok (.slice (some ⟨W.heap.size, 0, none⟩) (16777216 + n) (16777216 + n)) W' ∧ Ext W W' := by
    intro W
    obtain ⟨W', h1, _, h3⟩ := run_make_full (P := Try.prog) W W.heap.size 22 5 i0 _ 1 Try.underlying22 hi0 hz0 hz1 .i64 .i64 (16777216 + n) (by rw [hz2]; omega) (by unfold maxLen; omega) (Nat.le_refl _)
    refine ⟨W', ?_, (Below.refl _ _).grown h3 (Nat.le_refl _) (by simp)⟩
    rw [show (16777216 + (n : Int)) = ((16777216 + n : Nat) : Int) from by omega]
    exact h1
  have Mk := Lib.hid mk
  obtain ⟨w1, hm1, hx1⟩ := mk w
  have Hx1 := Lib.hid hx1
  clear hi0 hz0 hz1 hz2 mk hx1
  go_enter Try.func5, Try.ntmps5
  go_wp2_with fail
  refine (fput_long w1 _ _ _ (16777216 + n) _ rfl (by omega)).mono ?_
  rintro e w' ⟨rfl, rfl⟩
  obtain ⟨w2, hm2, hx2⟩ := Mk.out w1
  have Hx2 := Lib.hid hx2
  clear hm1 hx2
  go_wp2_with fail
  have hx3 : Ext w1 (w2.alloc (.cells #[.slice none 0 0, .slice (some ⟨w1.heap.size, 0, none⟩) (16777216 + n) (16777216 + n)] 22)) := Hx2.out.trans (Ext.of_alloc _ _)
  refine (join_long (w2.alloc (.cells #[.slice none 0 0, .slice (some ⟨w1.heap.size, 0, none⟩) (16777216 + n) (16777216 + n)] 22)) w2.heap.size (16777216 + n) (16777216 + n) (some ⟨w1.heap.size, 0, none⟩) (by rw [World.cell?_alloc_at _ _ _ _ rfl]; rfl) (by rw [World.cell?_alloc_at _ _ _ _ rfl]; rfl) (by omega)).mono ?_
  rintro e w3 ⟨rfl, hx4⟩
  have Hx4 := Lib.hid ((Hx1.out.trans hx3).trans hx4)
  clear hm2 hx3 hx4
  have hg := ex_big n h1 h5
  obtain ⟨X, hX⟩ : ∃ X : UInt8, X = UInt8.ofNat (128 + n) := ⟨_, rfl⟩
  have hXn : X.toNat = 128 + n := by rw [hX, UInt8.toNat_ofNat']; omega
  rw [← hX] at hg
  have hb8 := BS.lit w3 #[.int .u8 ((128 : Int) + (n : Int)), .int .u8 128, .int .u8 128, .int .u8 8, .int .u8 1, .int .u8 2, .int .u8 3, .int .u8 4] [X, 128, 128, 8, 1, 2, 3, 4] (by simp [bv, hXn]) 8 rfl
  have hcall := fget_any (w3.alloc (.cells #[.int .u8 ((128 : Int) + (n : Int)), .int .u8 128, .int .u8 128, .int .u8 8, .int .u8 1, .int .u8 2, .int .u8 3, .int .u8 4] 5)) _ _ (by simpa using hb8) (by simp)
  rw [hg] at hcall
  have Hcall := Lib.hid hcall
  clear hcall hb8 hg hXn hX
  go_wp2_with fail
  refine Hcall.out.mono ?_
  rintro e w4 ⟨p4, r4, rfl, _, _, hx5⟩
  have Hx5 := Lib.hid ((Hx4.out.trans (Ext.of_alloc _ _)).trans hx5)
  have hb9 := BS.lit w4 #[.int .u8 128, .int .u8 128, .int .u8 128, .int .u8 8, .int .u8 1, .int .u8 2, .int .u8 3, .int .u8 4] [128, 128, 128, 8, 1, 2, 3, 4] rfl 8 rfl
  have hcall := fget_any (w4.alloc (.cells #[.int .u8 128, .int .u8 128, .int .u8 128, .int .u8 8, .int .u8 1, .int .u8 2, .int .u8 3, .int .u8 4] 5)) _ _ (by simpa using hb9) (by simp)
  rw [ex_most] at hcall
  have Hcall2 := Lib.hid hcall
  clear hcall hb9 hx5
  go_wp2_with fail
  refine Hcall2.out.mono ?_
  rintro e w5 ⟨p5, r5, rfl, _, _, hx6⟩
  have Hx6 := Lib.hid ((Hx5.out.trans (Ext.of_alloc _ _)).trans hx6)
  clear hx6
  go_wp2_with fail
  refine (ex_msize _).mono ?_
  rintro e w' ⟨rfl, rfl⟩
  go_wp2_with fail
  refine (ex_lsize _ n h1 h5).mono ?_
  rintro e w' ⟨rfl, rfl⟩
  go_wp2_with fail
  refine (awake_any _).mono ?_
  rintro e w6 ⟨rfl, hx7⟩
  go_wp2
  go_ret
  exact ⟨rfl, Hx6.out.trans hx7⟩

end Go.Proofs.Ytgipbkfpfidpmaa
