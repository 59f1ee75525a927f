/-
  Contract of utf.Decode.
  Conditions: none.
-/
import Derived.Test.YtbnjhpknagkiaaaNb
namespace Go.Proofs.Ytbnjhpknagkiaaa
open Go.RowKit Go.Op

/-- bytes of a part of a text -/
theorem conv_part (w : World) (s : List UInt8) (lo hi : Nat) (hlo : lo ≤ hi) (hhi : hi ≤ s.length) : ∃ W1 cap, (convert 9 25 (.string ((ByteArray.mk s.toArray).extract lo hi))).run Try.prog w = .ok (.slice (some ⟨w.heap.size, 0, none⟩) (hi - lo) cap) W1 ∧ Ext w W1 ∧
    (∀ k (h : lo + k < hi), W1.cell? ⟨w.heap.size, k, none⟩ = some (.int .u8 ((s[lo + k]'(by omega)).toNat : Int))) := by
  have hx : (ByteArray.mk s.toArray).extract lo hi = ⟨((s.drop lo).take (hi - lo)).toArray⟩ := by
    apply ByteArray.ext
    simp [ByteArray.data_extract, List.extract_eq_take_drop]
  obtain ⟨W1, cap, h1, h2, h3⟩ := conv_bytes w ((s.drop lo).take (hi - lo))
  have hl : ((s.drop lo).take (hi - lo)).length = hi - lo := by rw [List.length_take, List.length_drop]; omega
  rw [← hx, hl] at h1
  refine ⟨W1, cap, h1, h2, fun k h => ?_⟩
  have := h3 k (by omega)
  rw [this]
  simp

abbrev frmV : Value := .agg #[.int .i64 2, .int .u8 224, .int .u8 192, .int .i64 128, .int .i64 2047, .int .i64 (-1), .int .i64 3, .int .u8 240, .int .u8 224, .int .i64 2048, .int .i64 65535, .int .i64 (-1), .int .i64 4, .int .u8 248, .int .u8 240, .int .i64 65536, .int .i64 1114111, .int .i64 (-1)]
theorem frm0 (W : World) : (Instr.index 127 (.agg #[.int .i64 2, .int .u8 224, .int .u8 192, .int .i64 128, .int .i64 2047, .int .i64 (-1), .int .i64 3, .int .u8 240, .int .u8 224, .int .i64 2048, .int .i64 65535, .int .i64 (-1), .int .i64 4, .int .u8 248, .int .u8 240, .int .i64 65536, .int .i64 1114111, .int .i64 (-1)]) (.int .i64 0)).run Try.prog W = .ok (.agg #[.int .i64 2, .int .u8 224, .int .u8 192, .int .i64 128, .int .i64 2047, .int .i64 (-1)]) W := by kernel_rfl
theorem frm1 (W : World) : (Instr.index 127 (.agg #[.int .i64 2, .int .u8 224, .int .u8 192, .int .i64 128, .int .i64 2047, .int .i64 (-1), .int .i64 3, .int .u8 240, .int .u8 224, .int .i64 2048, .int .i64 65535, .int .i64 (-1), .int .i64 4, .int .u8 248, .int .u8 240, .int .i64 65536, .int .i64 1114111, .int .i64 (-1)]) (.int .i64 1)).run Try.prog W = .ok (.agg #[.int .i64 3, .int .u8 240, .int .u8 224, .int .i64 2048, .int .i64 65535, .int .i64 (-1)]) W := by kernel_rfl
theorem frm2 (W : World) : (Instr.index 127 (.agg #[.int .i64 2, .int .u8 224, .int .u8 192, .int .i64 128, .int .i64 2047, .int .i64 (-1), .int .i64 3, .int .u8 240, .int .u8 224, .int .i64 2048, .int .i64 65535, .int .i64 (-1), .int .i64 4, .int .u8 248, .int .u8 240, .int .i64 65536, .int .i64 1114111, .int .i64 (-1)]) (.int .i64 2)).run Try.prog W = .ok (.agg #[.int .i64 4, .int .u8 248, .int .u8 240, .int .i64 65536, .int .i64 1114111, .int .i64 (-1)]) W := by kernel_rfl

set_option maxHeartbeats 6400000 in
set_option maxRecDepth 100000 in
theorem decode_2 (w : World) (s : List UInt8) (k : Nat) (hk : k + 1 < s.length) (h2 : (s[k]'(by omega)).toNat / 32 = 6) (hl : s.length ≤ 1000000) :
    Calls Try.prog 78 #[.string ⟨s.toArray⟩, .int .i64 k] w fun e w' => e = .returned (.tuple #[.int .i64 ((decN (s[k]'(by omega)).toNat (s.drop (k + 1))).1 : Int), .int .i64 ((decN (s[k]'(by omega)).toNat (s.drop (k + 1))).2 : Int)]) ∧ Ext w w' := by
  have hsz : (ByteArray.mk s.toArray).size = s.length := by show s.toArray.size = _; simp
  have hk0 : decide ((k : Int) < 0) = false := decide_eq_false (by omega)
  have hk1 : decide ((s.length : Int) ≤ k) = false := decide_eq_false (by omega)
  have hb := ba_lt (l := s) (k := k) (by omega)
  have hbv := ba_at (l := s) (k := k) (by omega)
  have hdr : s.drop (k + 1) = (s[k + 1]'(by omega)) :: s.drop (k + 2) := by
    rw [List.drop_eq_getElem_cons (show k + 1 < s.length by omega)]
  have hlt := (s[k]'(by omega)).toNat_lt
  have hxlt := (s[k + 1]'(by omega)).toNat_lt
  have i0 := frm0
  have i1 := frm1
  have i2 := frm2
  have hres := decN_2 (s[k + 1]'(by omega)) (s.drop (k + 2)) h2
  rw [hdr]
  generalize decN (s[k]'(by omega)).toNat ((s[k + 1]'(by omega)) :: s.drop (k + 2)) = R at hres ⊢
  clear hdr
  generalize hcc : (s[k]'(by omega)).toNat = c at h2 hlt hres
  have hcv : (((ByteArray.mk s.toArray)[k]'hb).toNat : Int) = (c : Nat) := by rw [hbv, hcc]
  have hc1 : ¬(c : Int) < 128 := by omega
  have hm0 : (bits .and .u8 (c : Int) 224 != 192) = false := by rw [and224 c hlt]; simp <;> omega
  have hm1 : (bits .and .u8 (c : Int) 240 != 224) = true := by rw [and240 c hlt]; simp <;> omega
  have hm2 : (bits .and .u8 (c : Int) 248 != 240) = true := by rw [and248 c hlt]; simp <;> omega
  have hn0 := not224 c hlt
  go_enter Try.func78, Try.ntmps78
  go_wp2_with fail
  refine (forms_any w).mono ?_
  rintro e w1 ⟨rfl, hx1⟩
  go_wp2_with fail
  obtain ⟨W0, hW0⟩ : ∃ W0, W0 = w1 := ⟨_, rfl⟩
  have hx0 : Ext w W0 := by rw [hW0]; exact hx1
  have hs0 : W0.heap.size = w1.heap.size := by simp only [hW0]
  obtain ⟨W1, cap, hcv2, hx2, hcell⟩ := conv_part (W0.alloc (.cells #[.int .i64 2, .int .u8 224, .int .u8 192, .int .i64 128, .int .i64 2047, .int .i64 (-1)] 126)) s (k + 1) (k + 2) (by omega) (by omega)
  have q0 := hcell 0 (by omega)
  have f0 := Ext.keeps hx2 (cell_new W0 #[.int .i64 2, .int .u8 224, .int .u8 192, .int .i64 128, .int .i64 2047, .int .i64 (-1)] 126 0 rfl)
  have f3 := Ext.keeps hx2 (cell_new W0 #[.int .i64 2, .int .u8 224, .int .u8 192, .int .i64 128, .int .i64 2047, .int .i64 (-1)] 126 3 rfl)
  have f4 := Ext.keeps hx2 (cell_new W0 #[.int .i64 2, .int .u8 224, .int .u8 192, .int .i64 128, .int .i64 2047, .int .i64 (-1)] 126 4 rfl)
  have f5 := Ext.keeps hx2 (cell_new W0 #[.int .i64 2, .int .u8 224, .int .u8 192, .int .i64 128, .int .i64 2047, .int .i64 (-1)] 126 5 rfl)
  have Hx2 := Lib.hid (Ext.trans (Ext.al hx0 _) hx2)
  simp only [Nat.add_zero, World.size_alloc, hs0] at q0 hcv2 f0 f3 f4 f5
  rw [show k + 2 - (k + 1) = 1 by omega, hW0] at hcv2
  clear hx1 hx2 hcell hx0 hs0 hW0
  generalize (s[k + 1]'(by omega)).toNat = x at q0 hxlt hres
  obtain ⟨e1, he1⟩ : ∃ e1 : Nat, e1 = c % 32 * 64 + x % 64 := ⟨_, rfl⟩
  have hr1 : bits .or .i64 ((c : Int) % 32 * 64) ((x : Int) % 64) = (e1 : Int) := by
    have := or6 (c % 32) x (by omega)
    rw [he1, ← this]
    congr 1
  have hE : d2 c x = e1 := by unfold d2; omega
  rw [hE] at hres
  have hbd : e1 < 2048 := by omega
  have hb1 := hbd
  clear hE he1
  refine wp_loop_rounds 4 ?_
  rw [rounds_succ]
  go_wp2_with fail
  refine wp_loop_rounds 2 ?_
  rw [rounds_succ]
  by_cases hx : x / 64 = 2
  · have hok0 : (bits .and .u8 (x : Int) 192 == 128) = true := by rw [and192 x hxlt]; simp; omega
    have Hx := Lib.hid hx
    clear hx
    go_wp2_with fail
    rw [rounds_succ]
    by_cases hd : 128 ≤ e1 ∧ e1 ≤ 2047
    · have hin : inS 128 2047 (-1) (e1 : Int) = true := by simp only [inS, Bool.and_eq_true, decide_eq_true_eq, bne_iff_ne]; omega
      have hhf : (decide ((55296 : Int) ≤ (e1 : Int)) && decide ((e1 : Int) ≤ 57343)) = false := by
        rw [← Bool.not_eq_true, Bool.and_eq_true, decide_eq_true_eq, decide_eq_true_eq]
        omega
      rw [if_pos ⟨Hx.out, hd.1⟩] at hres
      have Hr := Lib.hid hres
      have Hd := Lib.hid hd
      clear hres hd
      go_wp2_with fail
      refine (in_any _ 128 2047 (-1) _).mono ?_
      rintro e w3 ⟨rfl, hx3⟩
      have g0 := Ext.keeps hx3 f0
      have Hx3 := Lib.hid (Ext.trans Hx2.out hx3)
      rw [hin]
      clear hx3
      go_wp2_with fail
      refine (half_any _ _).mono ?_
      rintro e w4 ⟨rfl, rfl⟩
      rw [hhf]
      go_wp2_with fail
      go_quiet (fail)
      go_wp2
      go_ret2
      exact ⟨by rw [Hr.out]; rfl, Ext.trans Hx3.out (Ext.drewN _ _)⟩
    · have hin : inS 128 2047 (-1) (e1 : Int) = false := by
        unfold inS
        rw [← Bool.not_eq_true]
        simp only [Bool.and_eq_true, decide_eq_true_eq, bne_iff_ne]
        omega
      rw [if_neg (fun h => hd ⟨h.2, by omega⟩)] at hres
      have Hr := Lib.hid hres
      have Hd := Lib.hid hd
      clear hres hd
      go_wp2_with fail
      refine (in_any _ 128 2047 (-1) _).mono ?_
      rintro e w3 ⟨rfl, hx3⟩
      have Hx3 := Lib.hid (Ext.trans Hx2.out hx3)
      rw [hin]
      clear hx3
      go_wp2_with fail
      rw [rounds_succ]
      go_wp2_with fail
      rw [rounds_succ]
      go_wp2_with fail
      rw [rounds_succ]
      go_wp2
      go_ret2
      exact ⟨by rw [Hr.out]; rfl, (Ext.al (Ext.al Hx3.out _) _)⟩
  · have hok0 : (bits .and .u8 (x : Int) 192 == 128) = false := by rw [and192 x hxlt]; simp; omega
    rw [if_neg (fun h => hx h.1)] at hres
    have Hr := Lib.hid hres
    have Hx := Lib.hid hx
    clear hres hx
    go_wp2_with fail
    rw [rounds_succ]
    go_wp2_with fail
    rw [rounds_succ]
    go_wp2_with fail
    rw [rounds_succ]
    go_wp2_with fail
    rw [rounds_succ]
    go_wp2
    go_ret2
    exact ⟨by rw [Hr.out]; rfl, (Ext.al (Ext.al Hx2.out _) _)⟩
set_option maxHeartbeats 6400000 in
set_option maxRecDepth 100000 in
theorem decode_3 (w : World) (s : List UInt8) (k : Nat) (hk : k + 2 < s.length) (h2 : (s[k]'(by omega)).toNat / 16 = 14) (hl : s.length ≤ 1000000) :
    Calls Try.prog 78 #[.string ⟨s.toArray⟩, .int .i64 k] w fun e w' => e = .returned (.tuple #[.int .i64 ((decN (s[k]'(by omega)).toNat (s.drop (k + 1))).1 : Int), .int .i64 ((decN (s[k]'(by omega)).toNat (s.drop (k + 1))).2 : Int)]) ∧ Ext w w' := by
  have hsz : (ByteArray.mk s.toArray).size = s.length := by show s.toArray.size = _; simp
  have hk0 : decide ((k : Int) < 0) = false := decide_eq_false (by omega)
  have hk1 : decide ((s.length : Int) ≤ k) = false := decide_eq_false (by omega)
  have hb := ba_lt (l := s) (k := k) (by omega)
  have hbv := ba_at (l := s) (k := k) (by omega)
  have hdr : s.drop (k + 1) = (s[k + 1]'(by omega)) :: (s[k + 2]'(by omega)) :: s.drop (k + 3) := by
    rw [List.drop_eq_getElem_cons (show k + 1 < s.length by omega), List.drop_eq_getElem_cons (show k + 2 < s.length by omega)]
  have hlt := (s[k]'(by omega)).toNat_lt
  have hxlt := (s[k + 1]'(by omega)).toNat_lt
  have hylt := (s[k + 2]'(by omega)).toNat_lt
  have i0 := frm0
  have i1 := frm1
  have i2 := frm2
  have hres := decN_3 (s[k + 1]'(by omega)) (s[k + 2]'(by omega)) (s.drop (k + 3)) h2
  rw [hdr]
  generalize decN (s[k]'(by omega)).toNat ((s[k + 1]'(by omega)) :: (s[k + 2]'(by omega)) :: s.drop (k + 3)) = R at hres ⊢
  clear hdr
  generalize hcc : (s[k]'(by omega)).toNat = c at h2 hlt hres
  have hcv : (((ByteArray.mk s.toArray)[k]'hb).toNat : Int) = (c : Nat) := by rw [hbv, hcc]
  have hc1 : ¬(c : Int) < 128 := by omega
  have hm0 : (bits .and .u8 (c : Int) 224 != 192) = true := by rw [and224 c hlt]; simp <;> omega
  have hm1 : (bits .and .u8 (c : Int) 240 != 224) = false := by rw [and240 c hlt]; simp <;> omega
  have hm2 : (bits .and .u8 (c : Int) 248 != 240) = true := by rw [and248 c hlt]; simp <;> omega
  have hn0 := not240 c hlt
  go_enter Try.func78, Try.ntmps78
  go_wp2_with fail
  refine (forms_any w).mono ?_
  rintro e w1 ⟨rfl, hx1⟩
  go_wp2_with fail
  obtain ⟨W0, hW0⟩ : ∃ W0, W0 = (w1.alloc (.cells #[.int .i64 2, .int .u8 224, .int .u8 192, .int .i64 128, .int .i64 2047, .int .i64 (-1)] 126)) := ⟨_, rfl⟩
  have hx0 : Ext w W0 := by rw [hW0]; exact (Ext.al hx1 _)
  have hs0 : W0.heap.size = w1.heap.size + 1 := by simp only [hW0, World.size_alloc]
  obtain ⟨W1, cap, hcv2, hx2, hcell⟩ := conv_part (W0.alloc (.cells #[.int .i64 3, .int .u8 240, .int .u8 224, .int .i64 2048, .int .i64 65535, .int .i64 (-1)] 126)) s (k + 1) (k + 3) (by omega) (by omega)
  have q0 := hcell 0 (by omega)
  have q1 := hcell 1 (by omega)
  have f0 := Ext.keeps hx2 (cell_new W0 #[.int .i64 3, .int .u8 240, .int .u8 224, .int .i64 2048, .int .i64 65535, .int .i64 (-1)] 126 0 rfl)
  have f3 := Ext.keeps hx2 (cell_new W0 #[.int .i64 3, .int .u8 240, .int .u8 224, .int .i64 2048, .int .i64 65535, .int .i64 (-1)] 126 3 rfl)
  have f4 := Ext.keeps hx2 (cell_new W0 #[.int .i64 3, .int .u8 240, .int .u8 224, .int .i64 2048, .int .i64 65535, .int .i64 (-1)] 126 4 rfl)
  have f5 := Ext.keeps hx2 (cell_new W0 #[.int .i64 3, .int .u8 240, .int .u8 224, .int .i64 2048, .int .i64 65535, .int .i64 (-1)] 126 5 rfl)
  have Hx2 := Lib.hid (Ext.trans (Ext.al hx0 _) hx2)
  simp only [Nat.add_zero, World.size_alloc, hs0] at q0 q1 hcv2 f0 f3 f4 f5
  rw [show k + 3 - (k + 1) = 2 by omega, hW0] at hcv2
  clear hx1 hx2 hcell hx0 hs0 hW0
  generalize (s[k + 1]'(by omega)).toNat = x at q0 hxlt hres
  generalize (s[k + 2]'(by omega)).toNat = y at q1 hylt hres
  obtain ⟨e1, he1⟩ : ∃ e1 : Nat, e1 = c % 16 * 64 + x % 64 := ⟨_, rfl⟩
  have hr1 : bits .or .i64 ((c : Int) % 16 * 64) ((x : Int) % 64) = (e1 : Int) := by
    have := or6 (c % 16) x (by omega)
    rw [he1, ← this]
    congr 1
  obtain ⟨e2, he2⟩ : ∃ e2 : Nat, e2 = e1 * 64 + y % 64 := ⟨_, rfl⟩
  have hr2 : bits .or .i64 ((e1 : Int) * 64) ((y : Int) % 64) = (e2 : Int) := by
    have := or6 (e1) y (by omega)
    rw [he2, ← this]
    congr 1
  have hE : d3 c x y = e2 := by unfold d3; omega
  rw [hE] at hres
  have hbd : e1 < 1024 ∧ e2 < 65536 := by omega
  obtain ⟨hb1, hb2⟩ := hbd
  clear hE he1 he2
  refine wp_loop_rounds 4 ?_
  rw [rounds_succ]
  go_wp2_with fail
  rw [rounds_succ]
  go_wp2_with fail
  refine wp_loop_rounds 3 ?_
  rw [rounds_succ]
  by_cases hx : x / 64 = 2
  · have hok0 : (bits .and .u8 (x : Int) 192 == 128) = true := by rw [and192 x hxlt]; simp; omega
    have Hx := Lib.hid hx
    clear hx
    go_wp2_with fail
    rw [rounds_succ]
    by_cases hy : y / 64 = 2
    · have hok1 : (bits .and .u8 (y : Int) 192 == 128) = true := by rw [and192 y hylt]; simp; omega
      have Hy := Lib.hid hy
      clear hy
      go_wp2_with fail
      rw [rounds_succ]
      by_cases hd : 2048 ≤ e2 ∧ e2 ≤ 65535
      · have hin : inS 2048 65535 (-1) (e2 : Int) = true := by simp only [inS, Bool.and_eq_true, decide_eq_true_eq, bne_iff_ne]; omega
        by_cases hh : 55296 ≤ e2 ∧ e2 ≤ 57343
        · have hhf : (decide ((55296 : Int) ≤ (e2 : Int)) && decide ((e2 : Int) ≤ 57343)) = true := by rw [decide_eq_true (by omega), decide_eq_true (by omega)]; rfl
          rw [if_neg (fun h => h.2.2.2 hh)] at hres
          clear hh
          have Hr := Lib.hid hres
          have Hd := Lib.hid hd
          clear hres hd
          go_wp2_with fail
          refine (in_any _ 2048 65535 (-1) _).mono ?_
          rintro e w3 ⟨rfl, hx3⟩
          have g0 := Ext.keeps hx3 f0
          have Hx3 := Lib.hid (Ext.trans Hx2.out hx3)
          rw [hin]
          clear hx3
          go_wp2_with fail
          refine (half_any _ _).mono ?_
          rintro e w4 ⟨rfl, rfl⟩
          rw [hhf]
          go_wp2_with fail
          rw [rounds_succ]
          go_wp2_with fail
          rw [rounds_succ]
          go_wp2
          go_ret2
          exact ⟨by rw [Hr.out]; rfl, (Ext.al Hx3.out _)⟩
        · have hhf : (decide ((55296 : Int) ≤ (e2 : Int)) && decide ((e2 : Int) ≤ 57343)) = false := by
            rw [← Bool.not_eq_true, Bool.and_eq_true, decide_eq_true_eq, decide_eq_true_eq]
            omega
          rw [if_pos ⟨Hx.out, Hy.out, hd.1, hh⟩] at hres
          clear hh
          have Hr := Lib.hid hres
          have Hd := Lib.hid hd
          clear hres hd
          go_wp2_with fail
          refine (in_any _ 2048 65535 (-1) _).mono ?_
          rintro e w3 ⟨rfl, hx3⟩
          have g0 := Ext.keeps hx3 f0
          have Hx3 := Lib.hid (Ext.trans Hx2.out hx3)
          rw [hin]
          clear hx3
          go_wp2_with fail
          refine (half_any _ _).mono ?_
          rintro e w4 ⟨rfl, rfl⟩
          rw [hhf]
          go_wp2_with fail
          go_quiet (fail)
          go_wp2
          go_ret2
          exact ⟨by rw [Hr.out]; rfl, Ext.trans Hx3.out (Ext.drewN _ _)⟩
      · have hin : inS 2048 65535 (-1) (e2 : Int) = false := by
          unfold inS
          rw [← Bool.not_eq_true]
          simp only [Bool.and_eq_true, decide_eq_true_eq, bne_iff_ne]
          omega
        rw [if_neg (fun h => hd ⟨h.2.2.1, by omega⟩)] at hres
        have Hr := Lib.hid hres
        have Hd := Lib.hid hd
        clear hres hd
        go_wp2_with fail
        refine (in_any _ 2048 65535 (-1) _).mono ?_
        rintro e w3 ⟨rfl, hx3⟩
        have Hx3 := Lib.hid (Ext.trans Hx2.out hx3)
        rw [hin]
        clear hx3
        go_wp2_with fail
        rw [rounds_succ]
        go_wp2_with fail
        rw [rounds_succ]
        go_wp2
        go_ret2
        exact ⟨by rw [Hr.out]; rfl, (Ext.al Hx3.out _)⟩
    · have hok1 : (bits .and .u8 (y : Int) 192 == 128) = false := by rw [and192 y hylt]; simp; omega
      rw [if_neg (fun h => hy h.2.1)] at hres
      have Hr := Lib.hid hres
      have Hy := Lib.hid hy
      clear hres hy
      go_wp2_with fail
      rw [rounds_succ]
      go_wp2_with fail
      rw [rounds_succ]
      go_wp2_with fail
      rw [rounds_succ]
      go_wp2
      go_ret2
      exact ⟨by rw [Hr.out]; rfl, (Ext.al Hx2.out _)⟩
  · have hok0 : (bits .and .u8 (x : Int) 192 == 128) = false := by rw [and192 x hxlt]; simp; omega
    rw [if_neg (fun h => hx h.1)] at hres
    have Hr := Lib.hid hres
    have Hx := Lib.hid hx
    clear hres hx
    go_wp2_with fail
    rw [rounds_succ]
    go_wp2_with fail
    rw [rounds_succ]
    go_wp2_with fail
    rw [rounds_succ]
    go_wp2_with fail
    rw [rounds_succ]
    go_wp2
    go_ret2
    exact ⟨by rw [Hr.out]; rfl, (Ext.al Hx2.out _)⟩
set_option maxHeartbeats 6400000 in
set_option maxRecDepth 100000 in
theorem decode_4 (w : World) (s : List UInt8) (k : Nat) (hk : k + 3 < s.length) (h2 : (s[k]'(by omega)).toNat / 8 = 30) (hl : s.length ≤ 1000000) :
    Calls Try.prog 78 #[.string ⟨s.toArray⟩, .int .i64 k] w fun e w' => e = .returned (.tuple #[.int .i64 ((decN (s[k]'(by omega)).toNat (s.drop (k + 1))).1 : Int), .int .i64 ((decN (s[k]'(by omega)).toNat (s.drop (k + 1))).2 : Int)]) ∧ Ext w w' := by
  have hsz : (ByteArray.mk s.toArray).size = s.length := by show s.toArray.size = _; simp
  have hk0 : decide ((k : Int) < 0) = false := decide_eq_false (by omega)
  have hk1 : decide ((s.length : Int) ≤ k) = false := decide_eq_false (by omega)
  have hb := ba_lt (l := s) (k := k) (by omega)
  have hbv := ba_at (l := s) (k := k) (by omega)
  have hdr : s.drop (k + 1) = (s[k + 1]'(by omega)) :: (s[k + 2]'(by omega)) :: (s[k + 3]'(by omega)) :: s.drop (k + 4) := by
    rw [List.drop_eq_getElem_cons (show k + 1 < s.length by omega), List.drop_eq_getElem_cons (show k + 2 < s.length by omega), List.drop_eq_getElem_cons (show k + 3 < s.length by omega)]
  have hlt := (s[k]'(by omega)).toNat_lt
  have hxlt := (s[k + 1]'(by omega)).toNat_lt
  have hylt := (s[k + 2]'(by omega)).toNat_lt
  have hzlt := (s[k + 3]'(by omega)).toNat_lt
  have i0 := frm0
  have i1 := frm1
  have i2 := frm2
  have hres := decN_4 (s[k + 1]'(by omega)) (s[k + 2]'(by omega)) (s[k + 3]'(by omega)) (s.drop (k + 4)) h2
  rw [hdr]
  generalize decN (s[k]'(by omega)).toNat ((s[k + 1]'(by omega)) :: (s[k + 2]'(by omega)) :: (s[k + 3]'(by omega)) :: s.drop (k + 4)) = R at hres ⊢
  clear hdr
  generalize hcc : (s[k]'(by omega)).toNat = c at h2 hlt hres
  have hcv : (((ByteArray.mk s.toArray)[k]'hb).toNat : Int) = (c : Nat) := by rw [hbv, hcc]
  have hc1 : ¬(c : Int) < 128 := by omega
  have hm0 : (bits .and .u8 (c : Int) 224 != 192) = true := by rw [and224 c hlt]; simp <;> omega
  have hm1 : (bits .and .u8 (c : Int) 240 != 224) = true := by rw [and240 c hlt]; simp <;> omega
  have hm2 : (bits .and .u8 (c : Int) 248 != 240) = false := by rw [and248 c hlt]; simp <;> omega
  have hn0 := not248 c hlt
  go_enter Try.func78, Try.ntmps78
  go_wp2_with fail
  refine (forms_any w).mono ?_
  rintro e w1 ⟨rfl, hx1⟩
  go_wp2_with fail
  obtain ⟨W0, hW0⟩ : ∃ W0, W0 = ((w1.alloc (.cells #[.int .i64 2, .int .u8 224, .int .u8 192, .int .i64 128, .int .i64 2047, .int .i64 (-1)] 126)).alloc (.cells #[.int .i64 3, .int .u8 240, .int .u8 224, .int .i64 2048, .int .i64 65535, .int .i64 (-1)] 126)) := ⟨_, rfl⟩
  have hx0 : Ext w W0 := by rw [hW0]; exact (Ext.al (Ext.al hx1 _) _)
  have hs0 : W0.heap.size = w1.heap.size + 1 + 1 := by simp only [hW0, World.size_alloc]
  obtain ⟨W1, cap, hcv2, hx2, hcell⟩ := conv_part (W0.alloc (.cells #[.int .i64 4, .int .u8 248, .int .u8 240, .int .i64 65536, .int .i64 1114111, .int .i64 (-1)] 126)) s (k + 1) (k + 4) (by omega) (by omega)
  have q0 := hcell 0 (by omega)
  have q1 := hcell 1 (by omega)
  have q2 := hcell 2 (by omega)
  have f0 := Ext.keeps hx2 (cell_new W0 #[.int .i64 4, .int .u8 248, .int .u8 240, .int .i64 65536, .int .i64 1114111, .int .i64 (-1)] 126 0 rfl)
  have f3 := Ext.keeps hx2 (cell_new W0 #[.int .i64 4, .int .u8 248, .int .u8 240, .int .i64 65536, .int .i64 1114111, .int .i64 (-1)] 126 3 rfl)
  have f4 := Ext.keeps hx2 (cell_new W0 #[.int .i64 4, .int .u8 248, .int .u8 240, .int .i64 65536, .int .i64 1114111, .int .i64 (-1)] 126 4 rfl)
  have f5 := Ext.keeps hx2 (cell_new W0 #[.int .i64 4, .int .u8 248, .int .u8 240, .int .i64 65536, .int .i64 1114111, .int .i64 (-1)] 126 5 rfl)
  have Hx2 := Lib.hid (Ext.trans (Ext.al hx0 _) hx2)
  simp only [Nat.add_zero, World.size_alloc, hs0] at q0 q1 q2 hcv2 f0 f3 f4 f5
  rw [show k + 4 - (k + 1) = 3 by omega, hW0] at hcv2
  clear hx1 hx2 hcell hx0 hs0 hW0
  generalize (s[k + 1]'(by omega)).toNat = x at q0 hxlt hres
  generalize (s[k + 2]'(by omega)).toNat = y at q1 hylt hres
  generalize (s[k + 3]'(by omega)).toNat = z at q2 hzlt hres
  obtain ⟨e1, he1⟩ : ∃ e1 : Nat, e1 = c % 8 * 64 + x % 64 := ⟨_, rfl⟩
  have hr1 : bits .or .i64 ((c : Int) % 8 * 64) ((x : Int) % 64) = (e1 : Int) := by
    have := or6 (c % 8) x (by omega)
    rw [he1, ← this]
    congr 1
  obtain ⟨e2, he2⟩ : ∃ e2 : Nat, e2 = e1 * 64 + y % 64 := ⟨_, rfl⟩
  have hr2 : bits .or .i64 ((e1 : Int) * 64) ((y : Int) % 64) = (e2 : Int) := by
    have := or6 (e1) y (by omega)
    rw [he2, ← this]
    congr 1
  obtain ⟨e3, he3⟩ : ∃ e3 : Nat, e3 = e2 * 64 + z % 64 := ⟨_, rfl⟩
  have hr3 : bits .or .i64 ((e2 : Int) * 64) ((z : Int) % 64) = (e3 : Int) := by
    have := or6 (e2) z (by omega)
    rw [he3, ← this]
    congr 1
  have hE : d4 c x y z = e3 := by unfold d4; omega
  rw [hE] at hres
  have hbd : e1 < 512 ∧ e2 < 32768 ∧ e3 < 2097152 := by omega
  obtain ⟨hb1, hb2, hb3⟩ := hbd
  clear hE he1 he2 he3
  refine wp_loop_rounds 4 ?_
  rw [rounds_succ]
  go_wp2_with fail
  rw [rounds_succ]
  go_wp2_with fail
  rw [rounds_succ]
  go_wp2_with fail
  refine wp_loop_rounds 4 ?_
  rw [rounds_succ]
  by_cases hx : x / 64 = 2
  · have hok0 : (bits .and .u8 (x : Int) 192 == 128) = true := by rw [and192 x hxlt]; simp; omega
    have Hx := Lib.hid hx
    clear hx
    go_wp2_with fail
    rw [rounds_succ]
    by_cases hy : y / 64 = 2
    · have hok1 : (bits .and .u8 (y : Int) 192 == 128) = true := by rw [and192 y hylt]; simp; omega
      have Hy := Lib.hid hy
      clear hy
      go_wp2_with fail
      rw [rounds_succ]
      by_cases hz : z / 64 = 2
      · have hok2 : (bits .and .u8 (z : Int) 192 == 128) = true := by rw [and192 z hzlt]; simp; omega
        have Hz := Lib.hid hz
        clear hz
        go_wp2_with fail
        rw [rounds_succ]
        by_cases hd : 65536 ≤ e3 ∧ e3 ≤ 1114111
        · have hin : inS 65536 1114111 (-1) (e3 : Int) = true := by simp only [inS, Bool.and_eq_true, decide_eq_true_eq, bne_iff_ne]; omega
          have hhf : (decide ((55296 : Int) ≤ (e3 : Int)) && decide ((e3 : Int) ≤ 57343)) = false := by
            rw [← Bool.not_eq_true, Bool.and_eq_true, decide_eq_true_eq, decide_eq_true_eq]
            omega
          rw [if_pos ⟨Hx.out, Hy.out, Hz.out, hd.1, hd.2⟩] at hres
          have Hr := Lib.hid hres
          have Hd := Lib.hid hd
          clear hres hd
          go_wp2_with fail
          refine (in_any _ 65536 1114111 (-1) _).mono ?_
          rintro e w3 ⟨rfl, hx3⟩
          have g0 := Ext.keeps hx3 f0
          have Hx3 := Lib.hid (Ext.trans Hx2.out hx3)
          rw [hin]
          clear hx3
          go_wp2_with fail
          refine (half_any _ _).mono ?_
          rintro e w4 ⟨rfl, rfl⟩
          rw [hhf]
          go_wp2_with fail
          go_quiet (fail)
          go_wp2
          go_ret2
          exact ⟨by rw [Hr.out]; rfl, Ext.trans Hx3.out (Ext.drewN _ _)⟩
        · have hin : inS 65536 1114111 (-1) (e3 : Int) = false := by
            unfold inS
            rw [← Bool.not_eq_true]
            simp only [Bool.and_eq_true, decide_eq_true_eq, bne_iff_ne]
            omega
          rw [if_neg (fun h => hd ⟨h.2.2.2.1, h.2.2.2.2⟩)] at hres
          have Hr := Lib.hid hres
          have Hd := Lib.hid hd
          clear hres hd
          go_wp2_with fail
          refine (in_any _ 65536 1114111 (-1) _).mono ?_
          rintro e w3 ⟨rfl, hx3⟩
          have Hx3 := Lib.hid (Ext.trans Hx2.out hx3)
          rw [hin]
          clear hx3
          go_wp2_with fail
          rw [rounds_succ]
          go_wp2
          go_ret2
          exact ⟨by rw [Hr.out]; rfl, Hx3.out⟩
      · have hok2 : (bits .and .u8 (z : Int) 192 == 128) = false := by rw [and192 z hzlt]; simp; omega
        rw [if_neg (fun h => hz h.2.2.1)] at hres
        have Hr := Lib.hid hres
        have Hz := Lib.hid hz
        clear hres hz
        go_wp2_with fail
        rw [rounds_succ]
        go_wp2_with fail
        rw [rounds_succ]
        go_wp2
        go_ret2
        exact ⟨by rw [Hr.out]; rfl, Hx2.out⟩
    · have hok1 : (bits .and .u8 (y : Int) 192 == 128) = false := by rw [and192 y hylt]; simp; omega
      rw [if_neg (fun h => hy h.2.1)] at hres
      have Hr := Lib.hid hres
      have Hy := Lib.hid hy
      clear hres hy
      go_wp2_with fail
      rw [rounds_succ]
      go_wp2_with fail
      rw [rounds_succ]
      go_wp2_with fail
      rw [rounds_succ]
      go_wp2
      go_ret2
      exact ⟨by rw [Hr.out]; rfl, Hx2.out⟩
  · have hok0 : (bits .and .u8 (x : Int) 192 == 128) = false := by rw [and192 x hxlt]; simp; omega
    rw [if_neg (fun h => hx h.1)] at hres
    have Hr := Lib.hid hres
    have Hx := Lib.hid hx
    clear hres hx
    go_wp2_with fail
    rw [rounds_succ]
    go_wp2_with fail
    rw [rounds_succ]
    go_wp2_with fail
    rw [rounds_succ]
    go_wp2_with fail
    rw [rounds_succ]
    go_wp2
    go_ret2
    exact ⟨by rw [Hr.out]; rfl, Hx2.out⟩
end Go.Proofs.Ytbnjhpknagkiaaa
