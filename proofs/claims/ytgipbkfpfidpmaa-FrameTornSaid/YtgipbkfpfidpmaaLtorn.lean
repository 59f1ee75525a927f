/-
  FrameTorn: the law's contract: it answers true and leaves all old memory alone.
  Conditions: none.
-/
import Derived.Test.YtgipbkfpfidpmaaLsplits
import Derived.Test.YtgipbkfpfidpmaaLfback
import Derived.Test.YtgipbkfpfidpmaaFu
import Derived.Test.YtgipbkfpfidpmaaOpenc
namespace Go.Proofs.Ytgipbkfpfidpmaa
open Go.RowKit

theorem rsize_fr (w : World) (p : List UInt8) (h : p.length ≤ 1000) :
    Calls Try.prog 15 #[.int .i64 p.length] w fun e w' => e = .returned (.int .i64 (fr p).length) ∧ Ext w w' := by
  have hs := rfsize_any w p.length (by omega)
  have lx : (fr p).length = (enc p.length).length + 4 + p.length := by unfold fr; simp [be4]; omega
  have hif : (if (p.length : Int) < 0 ∨ 16777216 < (p.length : Int) then 0 else ((enc (p.length : Int).toNat).length : Int) + 4 + p.length) = ((fr p).length : Int) := by
    rw [if_neg (by omega), Int.toNat_natCast, lx]
    omega
  rw [hif] at hs
  exact hs

set_option maxHeartbeats 8000000 in
set_option maxRecDepth 100000 in
theorem torn_any (w : World) (vl : Value) (l0 : List (List UInt8)) (at_ : Nat) (hat : at_ < 65536) (hl : BBS w w.heap.size vl l0) :
    Calls Try.prog 8 #[vl, .int .u16 at_] w fun e w' => e = .returned (.bool true) ∧ Ext w w' := by
  have Hl := Lib.hid hl
  clear hl
  go_enter Try.func8, Try.ntmps8
  go_wp2_with fail
  refine (few_any w _ l0 Hl.out).mono ?_
  rintro e w1 ⟨v1, rfl, hf, hx1⟩
  obtain ⟨hf1, hf2⟩ := fewl_le l0
  generalize fewl l0 = l at hf hf1 hf2
  have Hf := Lib.hid hf
  have Hf1 := Lib.hid hf1
  clear hf hf1
  go_wp2_with fail
  refine (join_any w1 _ l Hf.out Hf1.out hf2).mono ?_
  rintro e w2 ⟨vx, rfl, hX, hx2⟩
  have hF := frs_len l Hf1.out
  obtain ⟨A1, c1, rfl, hc1, _⟩ := Hf.out.form
  obtain ⟨Ax, cx, rfl⟩ := hX.form
  obtain ⟨k, hk1, hk2⟩ : ∃ k : Nat, k = at_ % ((frs l).length + 1) ∧ k ≤ (frs l).length := ⟨_, rfl, by have := Nat.mod_lt at_ (show 0 < (frs l).length + 1 by omega); omega⟩
  have hcx : (frs l).length ≤ cx := by
    obtain ⟨A', c', hv, e1, _⟩ := hX
    simp only [Value.slice.injEq] at hv
    omega
  have hX1 := hX.take_ hk2
  have hlen : ((frs l).take k).length = k := by rw [List.length_take]; omega
  obtain ⟨j, hj, i1, i2, i3, i4⟩ := spl_torn l k k (fun p hp => by have := Hf1.out p hp; omega) hk2 (Nat.le_refl _)
  have hsp : sp ((frs l).take k) = spl k ((frs l).take k) := by unfold sp; rw [hlen]
  have hkm : ((at_ : Int).tmod ((frs l).length + 1)) = (k : Int) := by
    rw [hk1]
    have : ((frs l).length : Int) + 1 = (((frs l).length + 1 : Nat) : Int) := by omega
    rw [this, Int.tmod_eq_emod_of_nonneg (by omega)]
    rfl
  have Hsplit := Lib.hid (split_any w2 (.slice Ax k cx) ((frs l).take k) (by simpa [hlen] using hX1) (by omega))
  rw [hsp, hlen] at Hsplit
  have hfj := frs_len (l.take j) (fun p hp => Hf1.out p (List.mem_of_mem_take hp))
  generalize spl k ((frs l).take k) = S at i1 i2 i3 Hsplit
  obtain ⟨S1, S2, S3⟩ := S
  dsimp only at i1 i2 i3 Hsplit
  subst i1
  have hx12 := hx1.trans hx2
  have H12 := Lib.hid hx12
  have Hf2 := Lib.hid (Hf.out.up hx2)
  have Hkm := Lib.hid hkm
  have hkcx : k ≤ cx := by omega
  have I3 := Lib.hid i3
  have I4 := Lib.hid i4
  clear i3 i4
  clear hX hX1 hlen hsp hx1 hx2 hx12 hk1 hcx
  go_wp2_with fail
  refine Hsplit.out.mono ?_
  rintro e w3 ⟨vm, rfl, hm, hx3⟩
  have hkj : (k : Int) - (S2 : Int) = ((frs (l.take j)).length : Nat) := by omega
  rw [hkj]
  obtain ⟨Am, cm, rfl, hcm, _⟩ := hm.form
  have hjl : (l.take j).length = j := by rw [List.length_take]; omega
  rw [hjl] at hcm ⊢
  have Hm := Lib.hid hm
  have H3 := Lib.hid (H12.out.trans hx3)
  have Hf3 := Lib.hid (Hf2.out.up hx3)
  have htk : BBS w3 w3.heap.size (.slice A1 j c1) (l.take j) := Hf3.out.take_ hj
  have Htk := Lib.hid htk
  have hjc : j ≤ c1 := by omega
  have hjn : decide (l.length < j) = false := by rw [decide_eq_false_iff_not]; omega
  have hnk : decide (k < (frs (l.take j)).length) = false := by rw [decide_eq_false_iff_not]; omega
  clear hm hx3 htk Hf Hsplit hkj
  go_wp2_with fail
  have hsame := rsame_any w3 _ _ (l.take j) (l.take j) Hm.out Htk.out
  rw [hjl] at hsame
  refine hsame.mono ?_
  rintro e w4 ⟨rfl, hx4⟩
  rw [show decide (l.take j = l.take j) = true from decide_eq_true rfl]
  have H4 := Lib.hid (H3.out.trans hx4)
  have Hf4 := Lib.hid (Hf3.out.up hx4)
  clear hsame hx4
  go_wp2_with fail
  go_loopw [11, 12] (fun s i wr => ∃ q : Nat, i = .int .i64 q ∧ q ≤ j ∧ s = .int .i64 (frs (l.take q)).length ∧ Ext w4 wr) (fun _ i _ => j - (intOf i).toNat)
  case atStart => exact ⟨0, rfl, Nat.zero_le _, by simp [frs], Below.refl _ _⟩
  case round =>
    obtain ⟨q, rfl, hq, rfl, hx⟩ := hrel
    have Hx := Lib.hid hx
    by_cases hlt : q < j
    · obtain ⟨ad, u, rfl, had, hcell, hbs⟩ := (Hf4.out.up hx).at_ (show q < l.length by omega)
      obtain ⟨Au, cu, rfl⟩ := hbs.form
      have hpl := Hf1.out l[q] (List.getElem_mem (by omega))
      have hstep : (frs (l.take (q + 1))).length = (frs (l.take q)).length + (fr l[q]).length := by rw [frs_take_succ (by omega), List.length_append]
      have hbd := frs_len (l.take (q + 1)) (fun p hp => Hf1.out p (List.mem_of_mem_take hp))
      rw [List.length_take] at hbd
      have hql : (q : Int) < l.length := by omega
      have hqj : (q : Int) < j := by omega
      have Hstep := Lib.hid hstep
      clear hbs hx hstep
      go_wp2_with fail
      refine (rsize_fr wr l[q] hpl).mono ?_
      rintro e w5 ⟨rfl, hx5⟩
      have Hx5 := Lib.hid (Hx.out.trans hx5)
      have hz : (frs (l.take q)).length + (fr l[q]).length ≤ 1000000 := by have := Hstep.out; omega
      clear hx5
      go_wp2
      go_roundw
      case rel => exact ⟨q + 1, rfl, by omega, by rw [Hstep.out]; rfl, Hx5.out⟩
      case measure => simp only [intOf]; omega
    · obtain rfl : q = j := by omega
      have hqq : ¬((q : Int) < (q : Int)) := by omega
      clear hx
      have h0n : ((frs (l.take q)).length : Int) = (k : Int) ↔ S2 = 0 := by omega
      by_cases hlt2 : q < l.length
      · have hql : (q : Int) < l.length := by omega
        obtain ⟨ad, u, rfl, had, hcell, hbs⟩ := (Hf4.out.up Hx.out).at_ hlt2
        obtain ⟨Au, cu, rfl⟩ := hbs.form
        have hpl := Hf1.out l[q] (List.getElem_mem (by omega))
        have hstep : (frs (l.take (q + 1))).length = (frs (l.take q)).length + (fr l[q]).length := by rw [frs_take_succ (by omega), List.length_append]
        have hbd := frs_len (l.take (q + 1)) (fun p hp => Hf1.out p (List.mem_of_mem_take hp))
        rw [List.length_take] at hbd
        have h4 := I4.out hlt2
        have hz : (frs (l.take q)).length + (fr l[q]).length ≤ 1000000 := by omega
        have hzk : ¬(((frs (l.take q)).length : Int) + ((fr l[q]).length : Int) ≤ (k : Int)) := by omega
        clear hbs hstep hbd h4
        go_wp2_with fail
        refine (rsize_fr wr l[q] hpl).mono ?_
        rintro e w5 ⟨rfl, hx5⟩
        have Hx5 := Lib.hid (Hx.out.trans hx5)
        clear hx5
        by_cases hS : S2 = 0
        · have hS3 : S3 = 0 := by rw [I3.out, if_pos hS]
          subst hS3
          have hnk2 : ((frs (l.take q)).length : Int) = (k : Int) := h0n.2 hS
          go_wp2_with fail
          refine (awake_any _).mono ?_
          rintro e w6 ⟨rfl, hx6⟩
          go_wp2
          go_ret
          exact ⟨rfl, (H4.out.trans Hx5.out).trans hx6⟩
        · have hS3 : S3 = 41 := by rw [I3.out, if_neg hS]
          subst hS3
          have hnk2 : (((frs (l.take q)).length : Int) == (k : Int)) = false := by
            rw [beq_eq_false_iff_ne]
            exact fun h => hS (h0n.1 h)
          go_wp2_with fail
          refine (awake_any _).mono ?_
          rintro e w6 ⟨rfl, hx6⟩
          go_wp2
          go_ret
          exact ⟨rfl, (H4.out.trans Hx5.out).trans hx6⟩
      · have hql : ¬((q : Int) < l.length) := by omega
        by_cases hS : S2 = 0
        · have hS3 : S3 = 0 := by rw [I3.out, if_pos hS]
          subst hS3
          have hnk2 : ((frs (l.take q)).length : Int) = (k : Int) := h0n.2 hS
          go_wp2_with fail
          refine (awake_any _).mono ?_
          rintro e w6 ⟨rfl, hx6⟩
          go_wp2
          go_ret
          exact ⟨rfl, (H4.out.trans Hx.out).trans hx6⟩
        · have hS3 : S3 = 41 := by rw [I3.out, if_neg hS]
          subst hS3
          have hnk2 : (((frs (l.take q)).length : Int) == (k : Int)) = false := by
            rw [beq_eq_false_iff_ne]
            exact fun h => hS (h0n.1 h)
          go_wp2_with fail
          refine (awake_any _).mono ?_
          rintro e w6 ⟨rfl, hx6⟩
          go_wp2
          go_ret
          exact ⟨rfl, (H4.out.trans Hx.out).trans hx6⟩

theorem torn_row (w : World) (vl : Value) (l0 : List (List UInt8)) (a : Int) (wa : (Lit.int .u16 a).wf = true) (hl : BBS w w.heap.size vl l0) :
    Calls Try.prog 8 #[vl, .int .u16 a] w fun e w' => e = .returned (.bool true) ∧ Ext w w' := by
  obtain ⟨n, rfl, hn⟩ := u16_of_wf wa
  exact torn_any w vl l0 n hn hl

end Go.Proofs.Ytgipbkfpfidpmaa
