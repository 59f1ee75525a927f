/-
  Contracts of the reference's get and of slices.Equal over bytes.
  Conditions: at most 1,000,000 bytes.
-/
import Derived.Test.YtnajmpkdeenkbaaEh
import Derived.Test.YtnajmpkdeenkbaaVd
import Derived.BigQuiet
namespace Go.Proofs.Ytnajmpkdeenkbaa
open Go.RowKit Go.Op

/-- a number of at most so much, by the reference -/
def NumIs (n0 : Nat) (W' : World) (e : Ending) : Option (Nat × List UInt8) → Prop
  | none => e = .returned (.tuple #[.int .i64 0, .slice none 0 0, .bool false])
  | some (n, r) => ∃ u, e = .returned (.tuple #[.int .i64 n, u, .bool true]) ∧ BS W' n0 u r
set_option maxHeartbeats 1600000 in
set_option maxRecDepth 100000 in
theorem rnum_any (n0 : Nat) (W : World) (v : Value) (bs : List UInt8) (b : Nat) (hv : BS W n0 v bs) (hn : n0 ≤ W.heap.size) (hL : bs.length ≤ 1000000) (hb : b ≤ 9223372036854775807) :
    Calls Try.prog 36 #[v, .int .i64 b] W fun e W' => NumIs n0 W' e (num b bs) ∧ Ext W W' := by
  have Hv := Lib.hid hv
  have hb' : (b : Int) ≤ 9223372036854775807 := by omega
  clear hv
  go_enter Try.func36, Try.ntmps36
  go_wp2_with fail
  refine (rget_any W n0 v bs Hv.out hn (by omega)).mono ?_
  rintro e w1 ⟨r, rfl, hr, hx1⟩
  have Hr := Lib.hid hr
  have hN := (vgN_64 bs).lt
  have Hx1 := Lib.hid hx1
  clear hx1 hr
  by_cases hE : vgE bs = 0
  · by_cases hle : vgN bs ≤ b
    · have hnum : num b bs = some (vgN bs, vgRest bs) := if_pos ⟨hE, hle⟩
      rw [hE]
      generalize vgN bs = N at hN hle hnum
      have hle' : ¬(b : Int) < (N : Int) := by omega
      have hN' : (N : Int) ≤ 9223372036854775807 := by omega
      have Hnum := Lib.hid hnum
      clear hnum hE
      go_wp2
      go_ret3
      rw [Hnum.out]
      exact ⟨⟨_, rfl, Hr.out⟩, Hx1.out⟩
    · have hnum : num b bs = none := if_neg (fun h => hle h.2)
      rw [hE]
      generalize vgN bs = N at hN hle
      have hle' : (b : Int) < (N : Int) := by omega
      have Hnum := Lib.hid hnum
      clear hnum hE
      go_wp2
      go_ret3
      rw [Hnum.out]
      exact ⟨rfl, Hx1.out⟩
  · have hnum : num b bs = none := if_neg (fun h => hE h.1)
    have hE' : ((vgE bs : Int) != 0) = true := by rw [bne_iff_ne]; omega
    generalize vgE bs = E at hE'
    have Hnum := Lib.hid hnum
    clear hnum hE
    go_wp2
    go_ret3
    rw [Hnum.out]
    exact ⟨rfl, Hx1.out⟩
theorem SL.byte_at {w : World} {S : Nat → Prop} {A : Option Addr} {c n : Nat} {l : List UInt8} (h : SL w S (.slice A n c) l) {i : Nat} (hi : i < l.length) : ∃ ad, A = some ad ∧ S ad.block ∧ w.cell? (ad.add i) = some (.int .u8 ((l[i]).toNat : Int)) := by
  obtain ⟨ad, cs, rfl, hS, e, hc⟩ := h.at_ hi
  have e' : cs = [.int .u8 ((l[i]).toNat : Int)] := e
  subst e'
  have := hc 0 _ rfl
  simp only [Rep.n, Nat.mul_one, Nat.add_zero] at this
  exact ⟨ad, rfl, hS, this⟩

set_option maxHeartbeats 1600000 in
set_option maxRecDepth 100000 in
theorem equalb_any (w : World) (u v : Value) (xs ys : List UInt8) (hu : SL w (Bw w) u xs) (hv : SL w (Bw w) v ys) :
    Calls Try.prog 35 #[u, v] w fun e w' => e = .returned (.bool (decide (xs = ys))) ∧ Ext w w' := by
  obtain ⟨A, c, rfl, hc, hm⟩ := hu.form
  obtain ⟨A', c', rfl, hc', hm'⟩ := hv.form
  unfold maxLen at hm
  have Hu := Lib.hid hu
  have Hv := Lib.hid hv
  clear hu hv
  by_cases hl : xs.length = ys.length
  · have tl : ((xs.length : Int) != (ys.length : Int)) = false := by simp [hl]
    have hle : xs.length ≤ ys.length := by omega
    have hge : ys.length ≤ xs.length := by omega
    clear hl
    go_enter Try.func35, Try.ntmps35
    go_wp2_with fail
    go_loopw [13] (fun i wr => ∃ k : Nat, i = .int .i64 k ∧ k ≤ xs.length ∧ xs.take k = ys.take k ∧ ∃ q, wr = w.drewN q) (fun i _ => xs.length - (intOf i).toNat)
    case atStart => exact ⟨0, rfl, Nat.zero_le _, rfl, 0, rfl⟩
    case round =>
      obtain ⟨k, rfl, hk, heq, q, rfl⟩ := hrel
      have Heq := Lib.hid heq
      clear heq
      by_cases hlt : k < xs.length
      · obtain ⟨ad, rfl, _, hx⟩ := Hu.out.byte_at hlt
        obtain ⟨ad', rfl, _, hx'⟩ := Hv.out.byte_at (show k < ys.length by omega)
        have Hsn := Lib.hid (take_nextE xs hlt)
        have Hsn' := Lib.hid (take_nextE ys (show k < ys.length by omega))
        by_cases hz : xs[k] = ys[k]
        · have tz : (((xs[k]).toNat : Int) != ((ys[k]).toNat : Int)) = false := by simp [hz]
          have Hz := Lib.hid hz
          clear hz
          generalize xs[k] = x at hx Hsn tz Hz
          generalize ys[k] = y at hx' Hsn' tz Hz
          go_wp2
          go_quiet (fail)
          go_wp2
          go_roundw
          case rel => exact ⟨k + 1, by go_num, by omega, by rw [Hsn.out, Hsn'.out, Heq.out, Hz.out], _, rfl⟩
          case measure => simp [intOf]; omega
        · have tz : (((xs[k]).toNat : Int) != ((ys[k]).toNat : Int)) = true := by
            rw [bne_iff_ne]
            intro h
            exact hz (UInt8.toNat_inj.1 (by omega))
          have hne : decide (xs = ys) = false := by
            rw [decide_eq_false_iff_not]
            rintro rfl
            exact hz rfl
          have Hne := Lib.hid hne
          clear hz hne
          generalize xs[k] = x at hx Hsn tz
          generalize ys[k] = y at hx' Hsn' tz
          go_wp2
          go_quiet (fail)
          go_wp2
          go_ret
          exact ⟨by rw [Hne.out]; rfl, (Ext.drewN _ _).trans (Ext.drewN _ _)⟩
      · have he : decide (xs = ys) = true := by
          have := Heq.out
          rw [List.take_of_length_le (by omega), List.take_of_length_le (by omega)] at this
          simpa using this
        have He := Lib.hid he
        clear he
        go_wp2
        go_ret
        exact ⟨by rw [He.out]; rfl, Ext.drewN _ _⟩
  · have tl : ((xs.length : Int) != (ys.length : Int)) = true := by rw [bne_iff_ne]; omega
    have hne : decide (xs = ys) = false := by
      rw [decide_eq_false_iff_not]
      rintro rfl
      exact hl rfl
    rw [hne]
    clear hl hne
    go_enter Try.func35, Try.ntmps35
    go_wp2
    go_ret
    exact ⟨rfl, Below.refl _ _⟩

end Go.Proofs.Ytnajmpkdeenkbaa
