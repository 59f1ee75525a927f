/-
  Contracts of slices.Grow (of nil) and slices.Concat, at bytes.
  Conditions: rows of bytes of at most 50,000,000 together.
-/
import Derived.Test.YtgipbkfpfidpmaaBb
import Derived.Test.YtgipbkfpfidpmaaBl
import Derived.Lib.AppendZeros
namespace Go.Proofs.Ytgipbkfpfidpmaa
open Go.RowKit

set_option maxHeartbeats 1600000 in
set_option maxRecDepth 100000 in
theorem grow_any (w : World) (n : Nat) (hn : n ≤ 100000000) :
    Calls Try.prog 35 #[.slice none 0 0, .int .i64 n] w fun e w' => ∃ v', e = .returned v' ∧ Own w' w.heap.size v' [] ∧ Ext w w' := by
  by_cases h0 : n = 0
  · subst h0
    go_enter Try.func35, Try.ntmps35
    go_wp2
    go_ret
    exact ⟨_, rfl, Own.nil_ _ _, Below.refl _ _⟩
  · obtain ⟨i0, hi0, hz0, hz1, hz2⟩ := info_parts info_u8
    have h1 : (0 : Int) < (n : Int) := by omega
    have hr := Lib.run_append_nil_zeros (P := Try.prog) w 22 3 22 5 i0 _ .i64 .i64 Try.underlying22 Try.underlying3 hi0 hz0 n (by omega) (by omega) (by omega) (by rw [hz2]; omega)
    have hg := grownCap_ge w n 0 5
    have hg2 := grownCap_le_maxLen w n 0 5 (by unfold maxLen; omega)
    generalize hG : grownCap w n 0 5 = G at hr hg hg2
    have Hr := Lib.hid hr
    have Hg2 := Lib.hid hg2
    have hcap : (G : Int) ≤ 9223372036854775807 := by unfold maxLen at hg2; omega
    clear hr hg2 hi0 hz0 hz1 hz2 hG
    go_enter Try.func35, Try.ntmps35
    go_wp2_with (at_builtin; refine Lib.wpList_append_run _ rfl (.tmp 20) (.tmp 21) 22 3 rfl _ _ rfl rfl _ _ Hr.out ?_)
    go_ret
    refine ⟨_, rfl, ⟨rfl, .inr ⟨w.heap.size, G, Builtin.zeroCells (Value.int .u8 0).cells n ++ Builtin.zeroCells (Value.int .u8 0).cells (G - n), rfl, Nat.le_refl _, ?_, Nat.zero_le _, Hg2.out, ?_, rfl⟩⟩, (Ext.drew w).trans (Ext.of_alloc _ _)⟩
    · exact heap_alloc_new w.drew _
    · rw [Array.size_append, size_zeroCells, size_zeroCells, Nat.mul_one, show (Value.int .u8 0).cells.size = 1 from rfl]
      omega

/-- how many bytes there are -/
def flen (l : List (List UInt8)) : Nat := l.flatten.length
theorem flen_take_succ {l : List (List UInt8)} {k : Nat} (hk : k < l.length) : flen (l.take (k + 1)) = flen (l.take k) + l[k].length := by
  unfold flen
  rw [List.take_succ_eq_append_getElem hk, List.flatten_append, List.length_append]
  simp
theorem flen_take_le (l : List (List UInt8)) (k : Nat) : flen (l.take k) ≤ flen l := by
  unfold flen
  conv => rhs; rw [← List.take_append_drop k l]
  rw [List.flatten_append, List.length_append]
  omega
theorem flat_take_succ {l : List (List UInt8)} {k : Nat} (hk : k < l.length) : (l.take (k + 1)).flatten = (l.take k).flatten ++ l[k] := by
  rw [List.take_succ_eq_append_getElem hk, List.flatten_append]
  simp

set_option maxHeartbeats 1600000 in
set_option maxRecDepth 100000 in
theorem concat_any (w : World) (v : Value) (l : List (List UInt8)) (hv : BBS w w.heap.size v l) (hl : l.length ≤ 1000) (hf : flen l ≤ 50000000) :
    Calls Try.prog 25 #[v] w fun e w' => ∃ v', e = .returned v' ∧ Own w' w.heap.size v' l.flatten ∧ Ext w w' := by
  have Hv := Lib.hid hv
  obtain ⟨A, c, rfl, hc, hm⟩ := hv.form
  clear hv hm
  go_enter Try.func25, Try.ntmps25
  go_wp2_with fail
  go_loop [3, 11] (fun x i => ∃ k : Nat, i = .int .i64 k ∧ k ≤ l.length ∧ x = .int .i64 (flen (l.take k))) (fun _ i => l.length - (intOf i).toNat)
  case atStart => exact ⟨0, rfl, Nat.zero_le _, rfl⟩
  case round =>
    obtain ⟨k, rfl, hk, rfl⟩ := hrel
    by_cases hlt : k < l.length
    · obtain ⟨ad, u, rfl, had, hcell, hbs⟩ := Hv.out.at_ hlt
      have hs := flen_take_succ hlt
      have hle := flen_take_le l (k + 1)
      obtain ⟨Au, cu, rfl⟩ := hbs.form
      generalize l[k].length = m at hs hcell
      generalize flen (l.take k) = f at hs
      go_wp2
      go_round
      case rel => exact ⟨k + 1, by go_num, by omega, by rw [hs]; rfl⟩
      case measure => simp [intOf]; omega
    · have hkl : k = l.length := by omega
      have hfl : flen (l.take k) = flen l := by rw [hkl, List.take_length]
      rw [hfl]
      have hg := grow_any w (flen l) (by omega)
      have Hg := Lib.hid hg
      clear hg
      go_wp2_with fail
      refine Hg.out.mono ?_
      rintro e w1 ⟨v1, rfl, hown1, hx1⟩
      have Ho1 := Lib.hid hown1
      have Hx1 := Lib.hid hx1
      clear hown1 hx1 Hg hfl hkl hlt hk
      go_wp2_with fail
      go_loopw [6, 27] (fun x i wr => ∃ k : Nat, i = .int .i64 k ∧ k ≤ l.length ∧ Own wr w.heap.size x (l.take k).flatten ∧ Ext w wr) (fun _ i _ => l.length - (intOf i).toNat)
      case atStart => exact ⟨0, rfl, Nat.zero_le _, Ho1.out, Hx1.out⟩
      case round =>
        obtain ⟨k, rfl, hk, hown, hx⟩ := hrel
        by_cases hlt : k < l.length
        · obtain ⟨ad, u, rfl, had, hcell, hbs⟩ := (Hv.out.ext (Nat.le_refl _) hx).at_ hlt
          have hs := flen_take_succ hlt
          have hle := flen_take_le l (k + 1)
          have hft := flat_take_succ hlt
          have e1 : (l.take k).flatten.length = flen (l.take k) := rfl
          generalize l[k] = m at hs hcell hbs hft
          generalize (l.take k).flatten = F at hown e1 hft
          have Hown := Lib.hid hown
          have Hbs := Lib.hid hbs
          have Hx := Lib.hid hx
          have Hft := Lib.hid hft
          clear hown hbs hx hft
          go_wp2_with (at_builtin; refine wpList_append_bytes _ rfl (.tmp 31) (.tmp 32) rfl w.heap.size u6 F rfl Hown.out w.heap.size u m rfl Hbs.out (by omega) Hx.out.size ?_; intro v2 w2 hown2 hg2 _)
          have hx2 : Ext w w2 := Hx.out.grown hg2 Hx.out.size (own_ge Hown.out)
          rw [← Hft.out] at hown2
          go_wp2
          exact ⟨⟨k + 1, rfl, by omega, hown2, hx2⟩, by simp only [intOf]; omega⟩
        · have hkl : k = l.length := by omega
          rw [hkl, List.take_length] at hown
          have Hown := Lib.hid hown
          have Hx := Lib.hid hx
          clear hown hx
          go_wp2
          go_ret
          exact ⟨_, rfl, Hown.out, Hx.out⟩

end Go.Proofs.Ytgipbkfpfidpmaa
