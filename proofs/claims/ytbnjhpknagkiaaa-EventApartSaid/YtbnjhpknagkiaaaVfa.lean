/-
  Contracts of varint.PutInt, varint.GetInt, and their references (as Vf, without law02's 'cut').
  Conditions: a row of bytes of at most 1,000,000 (cut: any).
-/
import Derived.Test.YtbnjhpknagkiaaaVba
import Derived.Test.YtbnjhpknagkiaaaVd
import Derived.Test.YtbnjhpknagkiaaaVe
import Derived.Test.YtbnjhpknagkiaaaVn
namespace Go.Proofs.Ytbnjhpknagkiaaa
open Go.RowKit

set_option maxHeartbeats 400000 in
set_option maxRecDepth 100000 in
theorem zigzag_any (w : World) (n : Int) (hn : I64 n) :
    Calls Try.prog 76 #[.int .i64 n] w fun e w' => e = .returned (.int .u64 (zig n)) ∧ w = w' := by
  by_cases h0 : 0 ≤ n
  all_goals go_enter Try.func76, Try.ntmps76
  all_goals go_wp2
  all_goals go_ret
  · exact ⟨ret_int (zig_r0 hn h0), rfl⟩
  · exact ⟨ret_int (zig_r1 hn (by omega)), rfl⟩

set_option maxHeartbeats 400000 in
set_option maxRecDepth 100000 in
theorem back_any (w : World) (u : Nat) (hu : U64 u) :
    Calls Try.prog 77 #[.int .u64 u] w fun e w' => e = .returned (.int .i64 (zag u)) ∧ w = w' := by
  by_cases h0 : u % 2 = 0
  all_goals go_enter Try.func77, Try.ntmps77
  all_goals go_wp2
  all_goals go_ret
  · exact ⟨ret_int (zag_r0 hu h0), rfl⟩
  · exact ⟨ret_int (zag_r1 hu h0), rfl⟩

set_option maxHeartbeats 400000 in
set_option maxRecDepth 100000 in
theorem putint_any (w : World) (B : Nat) (v : Value) (bs : List UInt8) (n : Int) (hv : BS w B v bs) (hB : B ≤ w.heap.size) (hl : bs.length ≤ 1000000) (hn : I64 n) :
    Calls Try.prog 64 #[v, .int .i64 n] w fun e w' => ∃ v', e = .returned v' ∧ Own w' w.heap.size v' (bs ++ enc (zig n)) ∧ Ext w w' := by
  by_cases h0 : n < 0
  all_goals go_enter Try.func64, Try.ntmps64
  all_goals go_wp2_with fail
  · rw [zig_p1 hn h0]
    refine (put_any w B v bs (zig n) hv hB hl (zig_64 hn)).mono ?_
    rintro e w1 ⟨v1, rfl, hown1, hb1⟩
    go_wp2
    go_ret
    exact ⟨_, rfl, hown1, hb1⟩
  · rw [zig_p0 hn (by omega)]
    refine (put_any w B v bs (zig n) hv hB hl (zig_64 hn)).mono ?_
    rintro e w1 ⟨v1, rfl, hown1, hb1⟩
    go_wp2
    go_ret
    exact ⟨_, rfl, hown1, hb1⟩

set_option maxHeartbeats 400000 in
set_option maxRecDepth 100000 in
theorem rint_any (w : World) (n : Int) (hn : I64 n) :
    Calls Try.prog 59 #[.int .i64 n] w fun e w' => ∃ v, e = .returned v ∧ Own w' w.heap.size v (enc (zig n)) ∧ Ext w w' := by
  go_enter Try.func59, Try.ntmps59
  go_wp2_with fail
  refine (zigzag_any _ n hn).mono ?_
  rintro e w1 ⟨rfl, rfl⟩
  go_wp2_with fail
  refine (bytes_any _ (zig n) _ (Nat.le_refl _) (zig_64 hn)).mono ?_
  rintro e w1 ⟨v1, rfl, hown1, hb1⟩
  go_wp2
  go_ret
  exact ⟨_, rfl, hown1, hb1⟩

/-- what GetInt hands back: its number, and why there is none -/
def viN (bs : List UInt8) : Int := if vgE bs = 0 then zag (vgN bs) else 0
theorem viN_err {bs : List UInt8} (h : vgE bs ≠ 0) : viN bs = 0 := by unfold viN; rw [if_neg h]
theorem viN_ok {bs : List UInt8} (h : vgE bs = 0) : viN bs = zag (vgN bs) := by unfold viN; rw [if_pos h]
theorem viN_64 (bs : List UInt8) : I64 (viN bs) := by
  by_cases h : vgE bs = 0
  · rw [viN_ok h]; exact zag_64 (vgN_64 bs)
  · rw [viN_err h]; unfold I64; omega
theorem rest_err {bs : List UInt8} (h : vgE bs ≠ 0) : vgRest bs = [] := by
  unfold vgRest vgE at *
  rw [if_neg h]
theorem ret3_ {a b : Int} {k j : IntKind} {r : Value} {a' b' : Int} (ha : a = a') (hb : b = b') : Ending.returned (.tuple #[.int k a, r, .int j b]) = .returned (.tuple #[.int k a', r, .int j b']) := by rw [ha, hb]

set_option maxHeartbeats 800000 in
set_option maxRecDepth 100000 in
theorem getint_any (w : World) (B : Nat) (v : Value) (bs : List UInt8) (hv : BS w B v bs) (hB : B ≤ w.heap.size) (hl : bs.length ≤ 1000000) :
    Calls Try.prog 45 #[v] w fun e w' =>
      ∃ r, e = .returned (.tuple #[.int .i64 (viN bs), r, .int .i64 (vgE bs)]) ∧ BS w' B r (vgRest bs) ∧ Ext w w' := by
  have hU := vgN_64 bs
  by_cases h0 : vgE bs = 0
  · have t0 : (((vgE bs : Nat) : Int) != 0) = false := by simp [h0]
    have H0 := Lib.hid h0
    clear h0
    by_cases h2 : vgN bs % 2 = 0
    · have t2 := odd_0 hU h2
      have H2 := Lib.hid h2
      clear h2
      go_enter Try.func45, Try.ntmps45
      go_wp2_with fail
      refine (get_any w B v bs hv hB hl).mono ?_
      rintro e w1 ⟨r, rfl, hr, hx⟩
      go_wp2
      go_ret3
      exact ⟨_, ret3_ (by rw [viN_ok H0.out]; exact zag_p0 hU H2.out) (by rw [H0.out]; rfl), hr, hx⟩
    · have t2 := odd_1 hU h2
      have H2 := Lib.hid h2
      clear h2
      go_enter Try.func45, Try.ntmps45
      go_wp2_with fail
      refine (get_any w B v bs hv hB hl).mono ?_
      rintro e w1 ⟨r, rfl, hr, hx⟩
      go_wp2
      go_ret3
      exact ⟨_, ret3_ (by rw [viN_ok H0.out]; exact zag_p1 hU H2.out) (by rw [H0.out]; rfl), hr, hx⟩
  · have t0 : (((vgE bs : Nat) : Int) != 0) = true := by simpa using h0
    have H0 := Lib.hid h0
    clear h0
    go_enter Try.func45, Try.ntmps45
    go_wp2_with fail
    refine (get_any w B v bs hv hB hl).mono ?_
    rintro e w1 ⟨r, rfl, hr, hx⟩
    go_wp2
    go_ret3
    exact ⟨_, ret3_ (viN_err H0.out).symm rfl, by rw [rest_err H0.out]; exact BS.nil_ _ _, hx⟩

set_option maxHeartbeats 800000 in
set_option maxRecDepth 100000 in
theorem rgetint_any (w : World) (B : Nat) (v : Value) (bs : List UInt8) (hv : BS w B v bs) (hB : B ≤ w.heap.size) (hl : bs.length ≤ 1000000) :
    Calls Try.prog 61 #[v] w fun e w' =>
      ∃ r, e = .returned (.tuple #[.int .i64 (viN bs), r, .int .i64 (vgE bs)]) ∧ BS w' B r (vgRest bs) ∧ Ext w w' := by
  have hU := vgN_64 bs
  by_cases h0 : vgE bs = 0
  · have t0 : (((vgE bs : Nat) : Int) != 0) = false := by simp [h0]
    have H0 := Lib.hid h0
    clear h0
    go_enter Try.func61, Try.ntmps61
    go_wp2_with fail
    refine (rget_any w B v bs hv hB hl).mono ?_
    rintro e w1 ⟨r, rfl, hr, hx⟩
    go_wp2_with fail
    refine (back_any _ _ hU).mono ?_
    rintro e w2 ⟨rfl, rfl⟩
    go_wp2
    go_ret3
    exact ⟨_, ret3_ (by rw [viN_ok H0.out]) (by rw [H0.out]; rfl), hr, hx⟩
  · have t0 : (((vgE bs : Nat) : Int) != 0) = true := by simpa using h0
    have H0 := Lib.hid h0
    clear h0
    go_enter Try.func61, Try.ntmps61
    go_wp2_with fail
    refine (rget_any w B v bs hv hB hl).mono ?_
    rintro e w1 ⟨r, rfl, hr, hx⟩
    go_wp2
    go_ret3
    exact ⟨_, ret3_ (viN_err H0.out).symm rfl, by rw [rest_err H0.out]; exact BS.nil_ _ _, hx⟩

end Go.Proofs.Ytbnjhpknagkiaaa
