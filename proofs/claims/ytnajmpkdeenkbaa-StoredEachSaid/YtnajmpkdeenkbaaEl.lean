/-
  slices.Chunk over docs: the maker, and the iterator under any body that keeps its two boxes.
  Conditions: those of each statement.
-/
import Derived.Test.YtnajmpkdeenkbaaEh
import Derived.Test.YtnajmpkdeenkbaaRl
namespace Go.Proofs.Ytnajmpkdeenkbaa
open Go.RowKit
attribute [local go_sem] Oper.semAt_some

theorem SL.mid_ {α : Type} [Rep α] {w : World} {S : Nat → Prop} {A : Option Addr} {c : Nat} {l : List α} (h : SL w S (.slice A l.length c) l) {i n : Nat} (hi : i + n ≤ l.length) (hn : 0 < n) (hm : n ≤ maxLen) :
    SL w S (.slice (A.map (·.add (i * Rep.n α))) n n) ((l.drop i).take n) := by
  have h1 := h.cut_ (k := i) (by omega)
  obtain ⟨A', c', e, hc, _⟩ := h.form
  simp only [Value.slice.injEq] at e
  obtain ⟨rfl, _, rfl⟩ := e
  rw [if_neg (by omega)] at h1
  have h2 := (show SL w S (.slice (A.map (·.add (i * Rep.n α))) (l.drop i).length (c - i)) (l.drop i) by rw [List.length_drop]; exact h1).take_ (k := n) (by rw [List.length_drop]; omega)
  obtain ⟨A2, c2, xs, e, k1, k2, k3, k4, k5⟩ := h2
  have e2 : ((l.drop i).take n).length = n := by rw [List.length_take, List.length_drop]; omega
  rw [e2] at e k1 k4
  simp only [Value.slice.injEq] at e
  obtain ⟨rfl, _, rfl⟩ := e
  refine ⟨_, n, xs, by rw [e2], by omega, hm, fun h => ?_, by rw [e2]; exact k4, k5⟩
  have := k3 h
  omega

set_option maxHeartbeats 400000 in
theorem chunk_any (w : World) (A : Option Addr) (n c : Nat) :
    Calls Try.prog 48 #[.slice A n c, .int .i64 16] w fun e w' => e = .returned (.func (.func 61) #[] #[.pointer (some ⟨w.heap.size, 0, none⟩), .pointer (some ⟨w.heap.size + 1, 0, none⟩)]) ∧
      w' = (w.alloc (.cells #[.slice A n c] 22)).alloc (.cells #[.int .i64 16] 3) := by
  go_enter Try.func48, Try.ntmps48
  go_wp2
  go_ret
  exact ⟨rfl, rfl⟩

/-- the k-th piece of a slice -/
def piece (A : Option Addr) (len size k : Nat) : Value := .slice (A.map (·.add (16 * k * size))) (min 16 (len - 16 * k)) (min 16 (len - 16 * k))

set_option maxHeartbeats 1600000 in
set_option maxRecDepth 100000 in
theorem chunk1_in (J : Nat → World → Prop) (l Bs : Nat) (A : Option Addr) (len c : Nat) (hA : 0 < len → ∃ ad, A = some ad) (hlc : len ≤ c) (hlen : len ≤ 1000000000) (hcm : c ≤ maxLen)
    (hbox : ∀ k W, J k W → Boxed W Bs 22 (.slice A len c) ∧ Boxed W (Bs + 1) 3 (.int .i64 16)) (hJd : ∀ k W, J k W → J k W.drew)
    (hY : ∀ k W1, 16 * k < len → J k W1 → YieldAt Fence.wide (2 - 1) Try.prog l #[piece A len 3 k] W1 fun e W' => e = .returned (.bool true) ∧ J (k + 1) W') (W : World) (h0 : J 0 W) :
    CallsIn Fence.wide 2 Try.prog 61 #[.func (.yield l) #[] #[], .pointer (some ⟨Bs, 0, none⟩), .pointer (some ⟨Bs + 1, 0, none⟩)] W fun e W' => (∃ v, e = .returned v) ∧ ∃ k, J k W' ∧ len ≤ 16 * k := by
  refine callsIn_of_wp Try.func61 rfl trivial ?_ rfl
  simp only [Try.ntmps61, List.size_toArray, List.length_cons, List.length_nil, Nat.reduceAdd, Nat.reduceSub, Array.replicate_succ, Array.replicate_zero, List.push_toArray, List.append_toArray, List.nil_append, List.cons_append]
  have Hbox := Lib.hid hbox
  have HA := Lib.hid hA
  clear hA
  have HJd := Lib.hid hJd
  have HY := Lib.hid hY
  clear hbox hJd hY
  unfold maxLen at hcm
  gi_wp2_with fail
  gi_loopw [4] (fun i wr => ∃ k : Nat, i = .int .i64 (16 * k : Nat) ∧ 16 * k ≤ len + 16 ∧ J k wr) (fun i _ => len + 16 - (intOf i).toNat)
  case atStart => exact ⟨0, rfl, by omega, h0⟩
  case round =>
    obtain ⟨k, rfl, hk, hj⟩ := hrel
    obtain ⟨hb1, hb2⟩ := Hbox.out k wr hj
    have hc1 := hb1.cell
    have hc2 := hb2.cell
    have HJ := Lib.hid hj
    clear hb1 hb2 hj
    by_cases hlt : 16 * k < len
    · obtain ⟨ad, rfl⟩ := HA.out (by omega)
      have hlt' : ((16 * k : Nat) : Int) < len := by omega
      have hmx : Try.prog.follows .mixedOrders = true := by kernel_rfl
      have hc1' : wr.drew.cell? ⟨Bs, 0, none⟩ = some (.slice (some ad) len c) := hc1
      have hc2' : wr.drew.cell? ⟨Bs + 1, 0, none⟩ = some (.int .i64 16) := hc2
      obtain ⟨fn, tmps, assign, body, hy, hR⟩ := HY.out k wr.drew hlt (HJd.out k wr HJ.out)
      have hnk : 16 * k ≤ 1000000000 := by omega
      by_cases h32 : len - 16 * k < 16
      · have h32' : ((len - 16 * k : Nat) : Int) < 16 := by omega
        have hmn : min (16 : Int) ((len - 16 * k : Nat) : Int) = ((len - 16 * k : Nat) : Int) := Int.min_eq_right (by omega)
        have hm1 : (16 * (k : Int) + ((len - 16 * k : Nat) : Int)).toNat - 16 * k = len - 16 * k := by omega
        have hp : piece (some ad) len 3 k = .slice (some (ad.add (16 * k * 3))) (len - 16 * k) (len - 16 * k) := by unfold piece; rw [Nat.min_eq_right (by omega)]; rfl
        rw [hp] at hy
        clear hp
        gi_wp2
        gi_region_with_o (fail)
        all_goals gi_wp2
        all_goals refine hR.mono ?_
        all_goals rintro e W3 ⟨rfl, hJ3⟩
        all_goals have hd2 := (Hbox.out _ _ hJ3).2.cell
        all_goals gi_wp2
        all_goals refine ⟨⟨k + 1, congrArg (Value.int .i64) (by omega), by omega, hJ3⟩, by simp only [intOf]; omega⟩
      · have h32' : (16 : Int) ≤ ((len - 16 * k : Nat) : Int) := by omega
        have hmn : min (16 : Int) ((len - 16 * k : Nat) : Int) = 16 := Int.min_eq_left (by omega)
        have hm1 : (16 * (k : Int) + 16).toNat - 16 * k = 16 := by omega
        have hp : piece (some ad) len 3 k = .slice (some (ad.add (16 * k * 3))) 16 16 := by unfold piece; rw [Nat.min_eq_left (by omega)]; rfl
        rw [hp] at hy
        clear hp
        gi_wp2
        gi_region_with_o (fail)
        all_goals gi_wp2
        all_goals refine hR.mono ?_
        all_goals rintro e W3 ⟨rfl, hJ3⟩
        all_goals have hd2 := (Hbox.out _ _ hJ3).2.cell
        all_goals gi_wp2
        all_goals refine ⟨⟨k + 1, congrArg (Value.int .i64) (by omega), by omega, hJ3⟩, by simp only [intOf]; omega⟩
    · have hlt' : ¬((16 * k : Nat) : Int) < len := by omega
      gi_wp2
      go_end0
      exact ⟨⟨_, rfl⟩, k, HJ.out, by omega⟩

end Go.Proofs.Ytnajmpkdeenkbaa
