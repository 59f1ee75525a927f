/-
  Contracts of the law's 'cut' and 'awake'.
  Conditions: none.
-/
import Derived.Test.YtgipbkfpfidpmaaFi
namespace Go.Proofs.Ytgipbkfpfidpmaa
open Go.RowKit

set_option maxHeartbeats 400000 in
set_option maxRecDepth 100000 in
theorem cut_any (w : World) (B : Nat) (v : Value) (bs : List UInt8) (h : BS w B v bs) :
    Calls Try.prog 9 #[v] w fun e w' => ∃ v', e = .returned v' ∧ BS w B v' (bs.take 400) ∧ w = w' := by
  obtain ⟨A, c, rfl, hc, hm, hnil, hr⟩ := h
  have hbs := Lib.hid (show BS w B (.slice A bs.length c) bs from ⟨A, c, rfl, hc, hm, hnil, hr⟩)
  clear hnil hr
  by_cases hl : 400 < bs.length
  · go_enter Try.func9, Try.ntmps9
    go_wp2
    go_ret
    exact ⟨_, rfl, hbs.out.take_ (by omega), rfl⟩
  · go_enter Try.func9, Try.ntmps9
    go_wp2
    go_ret
    refine ⟨_, rfl, ?_, rfl⟩
    rw [List.take_of_length_le (by omega)]
    exact hbs.out

theorem ex_put : [7] ++ fr [] = [7, 0, 210, 2, 239, 141] := by decide +kernel
theorem ex_getE : fgE [0, 210, 2, 239, 141, 33] = 0 := by decide +kernel
theorem ex_getP : fgP [0, 210, 2, 239, 141, 33] = [] := by decide +kernel
theorem ex_getR : fgR [0, 210, 2, 239, 141, 33] = [33] := by decide +kernel
theorem ex_size : (enc (0 : Int).toNat).length = 1 := by decide +kernel

theorem ex_put_call (w : World) : Calls Try.prog 10 #[.slice (some ⟨w.heap.size, 0, none⟩) 1 1, .slice none 0 0] (w.alloc (.cells #[.int .u8 7] 5))
    fun e w' => ∃ v', e = .returned (.tuple #[v', .int .i64 0]) ∧ Own w' (w.heap.size + 1) v' [7, 0, 210, 2, 239, 141] ∧ Ext w w' := by
  have hb := BS.lit w #[.int .u8 7] [7] rfl 1 rfl
  have h := fput_any (w.alloc (.cells #[.int .u8 7] 5)) _ (.slice none 0 0) [7] [] (by simpa using hb) (BS.nil_ _ _) (by decide) (by decide)
  rw [ex_put] at h
  refine h.mono ?_
  rintro e w' ⟨v', he, ho, hx⟩
  exact ⟨v', he, by simpa using ho, (Ext.of_alloc _ _).trans hx⟩
theorem ex_get_call (w : World) : Calls Try.prog 12 #[.slice (some ⟨w.heap.size, 0, none⟩) 6 6]
    (w.alloc (.cells #[.int .u8 0, .int .u8 210, .int .u8 2, .int .u8 239, .int .u8 141, .int .u8 33] 5 (6, 7)))
    fun e w' => ∃ A c r, e = .returned (.tuple #[.slice A 0 c, r, .int .i64 0]) ∧ BS w' w'.heap.size r [33] ∧ Ext w w' := by
  have hb := BS.mark w #[.int .u8 0, .int .u8 210, .int .u8 2, .int .u8 239, .int .u8 141, .int .u8 33] (6, 7) [0, 210, 2, 239, 141, 33] rfl 6 rfl
  have h := fget_any (w.alloc (.cells #[.int .u8 0, .int .u8 210, .int .u8 2, .int .u8 239, .int .u8 141, .int .u8 33] 5 (6, 7))) _ [0, 210, 2, 239, 141, 33] (by simpa using hb) (by decide)
  rw [ex_getE, ex_getP, ex_getR] at h
  refine h.mono ?_
  rintro e w' ⟨p, r, he, hp, hr, hx⟩
  obtain ⟨A, c, rfl⟩ := hp.form
  exact ⟨A, c, r, he, hr, (Ext.of_alloc _ _).trans hx⟩
theorem ex_size_call (w : World) : Calls Try.prog 14 #[.int .i64 0] w fun e w' => e = .returned (.int .i64 5) ∧ w = w' := by
  have h := fsize_any w 0 (by omega)
  rw [if_neg (by decide), ex_size] at h
  exact h

set_option maxHeartbeats 1600000 in
set_option maxRecDepth 100000 in
theorem awake_any (w : World) : Calls Try.prog 16 #[] w fun e w' => e = .returned (.bool true) ∧ Ext w w' := by
  have kc := fun (w : World) (C : Array Value) (n c : Nat) => Lib.run_convert_bytes_const (P := Try.prog) w 22 5 C n c Try.underlying22 Try.underlying5
  go_enter Try.func16, Try.ntmps16
  go_wp2_with fail
  refine (ex_put_call w).mono ?_
  rintro e w1 ⟨v1, rfl, hown1, hx1⟩
  go_wp2_with fail
  refine (ex_get_call w1).mono ?_
  rintro e w2 ⟨A2, c2, r2, rfl, hr2, hx2⟩
  have hs1 := str_of (Own.ext hown1 hx2) ⟨#[7, 0, 210, 2, 239, 141]⟩ rfl
  have hs2 := str_of_bs hr2 ⟨#[33]⟩ rfl
  have Hx := Lib.hid (hx1.trans hx2)
  clear hown1 hr2 hx1 hx2 kc
  go_wp2_with fail
  refine (ex_size_call _).mono ?_
  rintro e w' ⟨rfl, rfl⟩
  go_wp2
  go_ret
  exact ⟨rfl, Hx.out⟩

end Go.Proofs.Ytgipbkfpfidpmaa
