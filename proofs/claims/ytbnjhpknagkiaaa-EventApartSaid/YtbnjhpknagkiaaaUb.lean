/-
  Runes: which are of words, their lower ones; contracts of utf's in, IsWord, Lower.
  Conditions: none.
-/
import Derived.Test.YtbnjhpknagkiaaaDt
import Derived.Deep.WholeRow
namespace Go.Proofs.Ytbnjhpknagkiaaa
open Go.RowKit Go.Op

/-- is it one of a span? -/
def inS (a b c r : Int) : Bool := decide (a ≤ r) && (decide (r ≤ b) && (r != c))
def isWd (r : Int) : Bool := (inS 48 57 (-1) r || (inS 65 90 (-1) r || (inS 97 122 (-1) r || (inS 192 255 215 r || (inS 913 974 930 r || inS 1024 1119 (-1) r))))) && r != 247
def lowR (r : Int) : Int := if (inS 65 90 (-1) r || (inS 192 222 215 r || (inS 913 939 930 r || inS 1040 1071 (-1) r))) = true then r + 32 else if inS 1024 1039 (-1) r = true then r + 80 else r

theorem inS_le {a b c r : Int} (h : inS a b c r = true) : a ≤ r ∧ r ≤ b := by
  simp only [inS, Bool.and_eq_true, decide_eq_true_eq] at h
  exact ⟨h.1, h.2.1⟩

set_option maxHeartbeats 800000 in
theorem in_any (w : World) (a b c r : Int) :
    Calls Try.prog 79 #[.agg #[.int .i64 a, .int .i64 b, .int .i64 c], .int .i64 r] w fun e w' => e = .returned (.bool (inS a b c r)) ∧ Ext w w' := by
  have hX := Ext.of_alloc w (.cells #[.int .i64 a, .int .i64 b, .int .i64 c] 109)
  have HX := Lib.hid hX
  clear hX
  by_cases h1 : a ≤ r
  · by_cases h2 : r ≤ b
    · have hr := Lib.hid (show inS a b c r = (r != c) by unfold inS; rw [decide_eq_true h1, decide_eq_true h2]; simp)
      go_enter Try.func79, Try.ntmps79
      go_wp2
      go_ret
      exact ⟨by rw [hr.out]; rfl, HX.out⟩
    · have hr := Lib.hid (show inS a b c r = false by unfold inS; rw [decide_eq_true h1, decide_eq_false h2]; simp)
      go_enter Try.func79, Try.ntmps79
      go_wp2
      go_ret
      exact ⟨by rw [hr.out]; rfl, HX.out⟩
  · have hr := Lib.hid (show inS a b c r = false by unfold inS; rw [decide_eq_false h1]; simp)
    go_enter Try.func79, Try.ntmps79
    go_wp2
    go_ret
    exact ⟨by rw [hr.out]; rfl, HX.out⟩

set_option maxHeartbeats 3200000 in
set_option maxRecDepth 100000 in
theorem isword_any (w : World) (r : Int) :
    Calls Try.prog 68 #[.int .i64 r] w fun e w' => e = .returned (.bool (isWd r)) ∧ Ext w w' := by
  have i0 : ∀ W : World, (Instr.index 110 (.agg #[.int .i64 48, .int .i64 57, .int .i64 (-1), .int .i64 65, .int .i64 90, .int .i64 (-1), .int .i64 97, .int .i64 122, .int .i64 (-1), .int .i64 192, .int .i64 255, .int .i64 215, .int .i64 913, .int .i64 974, .int .i64 930, .int .i64 1024, .int .i64 1119, .int .i64 (-1)]) (.int .i64 0)).run Try.prog W = .ok (.agg #[.int .i64 48, .int .i64 57, .int .i64 (-1)]) W := fun _ => by kernel_rfl
  have i1 : ∀ W : World, (Instr.index 110 (.agg #[.int .i64 48, .int .i64 57, .int .i64 (-1), .int .i64 65, .int .i64 90, .int .i64 (-1), .int .i64 97, .int .i64 122, .int .i64 (-1), .int .i64 192, .int .i64 255, .int .i64 215, .int .i64 913, .int .i64 974, .int .i64 930, .int .i64 1024, .int .i64 1119, .int .i64 (-1)]) (.int .i64 1)).run Try.prog W = .ok (.agg #[.int .i64 65, .int .i64 90, .int .i64 (-1)]) W := fun _ => by kernel_rfl
  have i2 : ∀ W : World, (Instr.index 110 (.agg #[.int .i64 48, .int .i64 57, .int .i64 (-1), .int .i64 65, .int .i64 90, .int .i64 (-1), .int .i64 97, .int .i64 122, .int .i64 (-1), .int .i64 192, .int .i64 255, .int .i64 215, .int .i64 913, .int .i64 974, .int .i64 930, .int .i64 1024, .int .i64 1119, .int .i64 (-1)]) (.int .i64 2)).run Try.prog W = .ok (.agg #[.int .i64 97, .int .i64 122, .int .i64 (-1)]) W := fun _ => by kernel_rfl
  have i3 : ∀ W : World, (Instr.index 110 (.agg #[.int .i64 48, .int .i64 57, .int .i64 (-1), .int .i64 65, .int .i64 90, .int .i64 (-1), .int .i64 97, .int .i64 122, .int .i64 (-1), .int .i64 192, .int .i64 255, .int .i64 215, .int .i64 913, .int .i64 974, .int .i64 930, .int .i64 1024, .int .i64 1119, .int .i64 (-1)]) (.int .i64 3)).run Try.prog W = .ok (.agg #[.int .i64 192, .int .i64 255, .int .i64 215]) W := fun _ => by kernel_rfl
  have i4 : ∀ W : World, (Instr.index 110 (.agg #[.int .i64 48, .int .i64 57, .int .i64 (-1), .int .i64 65, .int .i64 90, .int .i64 (-1), .int .i64 97, .int .i64 122, .int .i64 (-1), .int .i64 192, .int .i64 255, .int .i64 215, .int .i64 913, .int .i64 974, .int .i64 930, .int .i64 1024, .int .i64 1119, .int .i64 (-1)]) (.int .i64 4)).run Try.prog W = .ok (.agg #[.int .i64 913, .int .i64 974, .int .i64 930]) W := fun _ => by kernel_rfl
  have i5 : ∀ W : World, (Instr.index 110 (.agg #[.int .i64 48, .int .i64 57, .int .i64 (-1), .int .i64 65, .int .i64 90, .int .i64 (-1), .int .i64 97, .int .i64 122, .int .i64 (-1), .int .i64 192, .int .i64 255, .int .i64 215, .int .i64 913, .int .i64 974, .int .i64 930, .int .i64 1024, .int .i64 1119, .int .i64 (-1)]) (.int .i64 5)).run Try.prog W = .ok (.agg #[.int .i64 1024, .int .i64 1119, .int .i64 (-1)]) W := fun _ => by kernel_rfl
  go_enter Try.func68, Try.ntmps68
  go_wp2_with (first
    | (refine wpList_build rfl 110 _ rfl (by as_aux_lemma => kernel_rfl) ?_; rw [show (Try.prog.built 110 _).getD #[] = #[.int .i64 48, .int .i64 57, .int .i64 (-1), .int .i64 65, .int .i64 90, .int .i64 (-1), .int .i64 97, .int .i64 122, .int .i64 (-1), .int .i64 192, .int .i64 255, .int .i64 215, .int .i64 913, .int .i64 974, .int .i64 930, .int .i64 1024, .int .i64 1119, .int .i64 (-1)] from by as_aux_lemma => kernel_rfl])
    | (refine wpList_store_row rfl 110 _ _ rfl w.heap.size #[.int .i64 48, .int .i64 57, .int .i64 (-1), .int .i64 65, .int .i64 90, .int .i64 (-1), .int .i64 97, .int .i64 122, .int .i64 (-1), .int .i64 192, .int .i64 255, .int .i64 215, .int .i64 913, .int .i64 974, .int .i64 930, .int .i64 1024, .int .i64 1119, .int .i64 (-1)] rfl rfl 110 #[.int .i64 0, .int .i64 0, .int .i64 0, .int .i64 0, .int .i64 0, .int .i64 0, .int .i64 0, .int .i64 0, .int .i64 0, .int .i64 0, .int .i64 0, .int .i64 0, .int .i64 0, .int .i64 0, .int .i64 0, .int .i64 0, .int .i64 0, .int .i64 0] (heap_alloc_last w _) (by as_aux_lemma => kernel_rfl) rfl (by as_aux_lemma => kernel_rfl) ?_; rw [World.setRow_alloc_new])
    | (refine wpList_load_row rfl 110 _ rfl w.heap.size rfl 110 #[.int .i64 48, .int .i64 57, .int .i64 (-1), .int .i64 65, .int .i64 90, .int .i64 (-1), .int .i64 97, .int .i64 122, .int .i64 (-1), .int .i64 192, .int .i64 255, .int .i64 215, .int .i64 913, .int .i64 974, .int .i64 930, .int .i64 1024, .int .i64 1119, .int .i64 (-1)] (0, 0) _ (heap_alloc_last w _) Try.underlying110 rfl (by as_aux_lemma => kernel_rfl) ?_)
    | fail)
  have X0 := Ext.of_alloc w (.cells #[.int .i64 48, .int .i64 57, .int .i64 (-1), .int .i64 65, .int .i64 90, .int .i64 (-1), .int .i64 97, .int .i64 122, .int .i64 (-1), .int .i64 192, .int .i64 255, .int .i64 215, .int .i64 913, .int .i64 974, .int .i64 930, .int .i64 1024, .int .i64 1119, .int .i64 (-1)] 110)
  refine wp_loop_rounds 7 ?_
  rw [rounds_succ]
  go_wp2_with fail
  refine (in_any _ 48 57 (-1) r).mono ?_
  rintro e w1 ⟨rfl, hx0⟩
  have X1 := Ext.trans (Ext.al X0 (.cells #[.int .i64 48, .int .i64 57, .int .i64 (-1)] 109)) hx0
  clear hx0 X0
  cases h0 : inS 48 57 (-1) r with
  | true =>
    have hr := Lib.hid (show isWd r = (r != 247) by unfold isWd; simp [h0])
    clear h0
    go_wp2
    go_ret
    exact ⟨by rw [hr.out]; rfl, X1⟩
  | false =>
    go_wp2_with fail
    rw [rounds_succ]
    go_wp2_with fail
    refine (in_any _ 65 90 (-1) r).mono ?_
    rintro e w2 ⟨rfl, hx1⟩
    have X2 := Ext.trans (Ext.al X1 (.cells #[.int .i64 65, .int .i64 90, .int .i64 (-1)] 109)) hx1
    clear hx1 X1
    cases h1 : inS 65 90 (-1) r with
    | true =>
      have hr := Lib.hid (show isWd r = (r != 247) by unfold isWd; simp [h0, h1])
      clear h0 h1
      go_wp2
      go_ret
      exact ⟨by rw [hr.out]; rfl, X2⟩
    | false =>
      go_wp2_with fail
      rw [rounds_succ]
      go_wp2_with fail
      refine (in_any _ 97 122 (-1) r).mono ?_
      rintro e w3 ⟨rfl, hx2⟩
      have X3 := Ext.trans (Ext.al X2 (.cells #[.int .i64 97, .int .i64 122, .int .i64 (-1)] 109)) hx2
      clear hx2 X2
      cases h2 : inS 97 122 (-1) r with
      | true =>
        have hr := Lib.hid (show isWd r = (r != 247) by unfold isWd; simp [h0, h1, h2])
        clear h0 h1 h2
        go_wp2
        go_ret
        exact ⟨by rw [hr.out]; rfl, X3⟩
      | false =>
        go_wp2_with fail
        rw [rounds_succ]
        go_wp2_with fail
        refine (in_any _ 192 255 215 r).mono ?_
        rintro e w4 ⟨rfl, hx3⟩
        have X4 := Ext.trans (Ext.al X3 (.cells #[.int .i64 192, .int .i64 255, .int .i64 215] 109)) hx3
        clear hx3 X3
        cases h3 : inS 192 255 215 r with
        | true =>
          have hr := Lib.hid (show isWd r = (r != 247) by unfold isWd; simp [h0, h1, h2, h3])
          clear h0 h1 h2 h3
          go_wp2
          go_ret
          exact ⟨by rw [hr.out]; rfl, X4⟩
        | false =>
          go_wp2_with fail
          rw [rounds_succ]
          go_wp2_with fail
          refine (in_any _ 913 974 930 r).mono ?_
          rintro e w5 ⟨rfl, hx4⟩
          have X5 := Ext.trans (Ext.al X4 (.cells #[.int .i64 913, .int .i64 974, .int .i64 930] 109)) hx4
          clear hx4 X4
          cases h4 : inS 913 974 930 r with
          | true =>
            have hr := Lib.hid (show isWd r = (r != 247) by unfold isWd; simp [h0, h1, h2, h3, h4])
            clear h0 h1 h2 h3 h4
            go_wp2
            go_ret
            exact ⟨by rw [hr.out]; rfl, X5⟩
          | false =>
            go_wp2_with fail
            rw [rounds_succ]
            go_wp2_with fail
            refine (in_any _ 1024 1119 (-1) r).mono ?_
            rintro e w6 ⟨rfl, hx5⟩
            have X6 := Ext.trans (Ext.al X5 (.cells #[.int .i64 1024, .int .i64 1119, .int .i64 (-1)] 109)) hx5
            clear hx5 X5
            cases h5 : inS 1024 1119 (-1) r with
            | true =>
              have hr := Lib.hid (show isWd r = (r != 247) by unfold isWd; simp [h0, h1, h2, h3, h4, h5])
              clear h0 h1 h2 h3 h4 h5
              go_wp2
              go_ret
              exact ⟨by rw [hr.out]; rfl, X6⟩
            | false =>
              go_wp2_with fail
              rw [rounds_succ]
              have hr := Lib.hid (show isWd r = false by unfold isWd; simp [h0, h1, h2, h3, h4, h5])
              clear h0 h1 h2 h3 h4 h5
              go_wp2
              go_ret
              exact ⟨by rw [hr.out]; rfl, X6⟩

set_option maxHeartbeats 3200000 in
set_option maxRecDepth 100000 in
theorem lower_any (w : World) (r : Int) :
    Calls Try.prog 81 #[.int .i64 r] w fun e w' => e = .returned (.int .i64 (lowR r)) ∧ Ext w w' := by
  have i0 : ∀ W : World, (Instr.index 129 (.agg #[.int .i64 65, .int .i64 90, .int .i64 (-1), .int .i64 192, .int .i64 222, .int .i64 215, .int .i64 913, .int .i64 939, .int .i64 930, .int .i64 1040, .int .i64 1071, .int .i64 (-1)]) (.int .i64 0)).run Try.prog W = .ok (.agg #[.int .i64 65, .int .i64 90, .int .i64 (-1)]) W := fun _ => by kernel_rfl
  have i1 : ∀ W : World, (Instr.index 129 (.agg #[.int .i64 65, .int .i64 90, .int .i64 (-1), .int .i64 192, .int .i64 222, .int .i64 215, .int .i64 913, .int .i64 939, .int .i64 930, .int .i64 1040, .int .i64 1071, .int .i64 (-1)]) (.int .i64 1)).run Try.prog W = .ok (.agg #[.int .i64 192, .int .i64 222, .int .i64 215]) W := fun _ => by kernel_rfl
  have i2 : ∀ W : World, (Instr.index 129 (.agg #[.int .i64 65, .int .i64 90, .int .i64 (-1), .int .i64 192, .int .i64 222, .int .i64 215, .int .i64 913, .int .i64 939, .int .i64 930, .int .i64 1040, .int .i64 1071, .int .i64 (-1)]) (.int .i64 2)).run Try.prog W = .ok (.agg #[.int .i64 913, .int .i64 939, .int .i64 930]) W := fun _ => by kernel_rfl
  have i3 : ∀ W : World, (Instr.index 129 (.agg #[.int .i64 65, .int .i64 90, .int .i64 (-1), .int .i64 192, .int .i64 222, .int .i64 215, .int .i64 913, .int .i64 939, .int .i64 930, .int .i64 1040, .int .i64 1071, .int .i64 (-1)]) (.int .i64 3)).run Try.prog W = .ok (.agg #[.int .i64 1040, .int .i64 1071, .int .i64 (-1)]) W := fun _ => by kernel_rfl
  go_enter Try.func81, Try.ntmps81
  go_wp2_with (first
    | (refine wpList_build rfl 129 _ rfl (by as_aux_lemma => kernel_rfl) ?_; rw [show (Try.prog.built 129 _).getD #[] = #[.int .i64 65, .int .i64 90, .int .i64 (-1), .int .i64 192, .int .i64 222, .int .i64 215, .int .i64 913, .int .i64 939, .int .i64 930, .int .i64 1040, .int .i64 1071, .int .i64 (-1)] from by as_aux_lemma => kernel_rfl])
    | (refine wpList_store_row rfl 129 _ _ rfl w.heap.size #[.int .i64 65, .int .i64 90, .int .i64 (-1), .int .i64 192, .int .i64 222, .int .i64 215, .int .i64 913, .int .i64 939, .int .i64 930, .int .i64 1040, .int .i64 1071, .int .i64 (-1)] rfl rfl 129 #[.int .i64 0, .int .i64 0, .int .i64 0, .int .i64 0, .int .i64 0, .int .i64 0, .int .i64 0, .int .i64 0, .int .i64 0, .int .i64 0, .int .i64 0, .int .i64 0] (heap_alloc_last w _) (by as_aux_lemma => kernel_rfl) rfl (by as_aux_lemma => kernel_rfl) ?_; rw [World.setRow_alloc_new])
    | (refine wpList_load_row rfl 129 _ rfl w.heap.size rfl 129 #[.int .i64 65, .int .i64 90, .int .i64 (-1), .int .i64 192, .int .i64 222, .int .i64 215, .int .i64 913, .int .i64 939, .int .i64 930, .int .i64 1040, .int .i64 1071, .int .i64 (-1)] (0, 0) _ (heap_alloc_last w _) Try.underlying129 rfl (by as_aux_lemma => kernel_rfl) ?_)
    | fail)
  have X0 := Ext.of_alloc w (.cells #[.int .i64 65, .int .i64 90, .int .i64 (-1), .int .i64 192, .int .i64 222, .int .i64 215, .int .i64 913, .int .i64 939, .int .i64 930, .int .i64 1040, .int .i64 1071, .int .i64 (-1)] 129)
  refine wp_loop_rounds 5 ?_
  rw [rounds_succ]
  go_wp2_with fail
  refine (in_any _ 65 90 (-1) r).mono ?_
  rintro e w1 ⟨rfl, hx0⟩
  have X1 := Ext.trans (Ext.al X0 (.cells #[.int .i64 65, .int .i64 90, .int .i64 (-1)] 109)) hx0
  clear hx0 X0
  cases h0 : inS 65 90 (-1) r with
  | true =>
    have hr := Lib.hid (show lowR r = r + 32 by unfold lowR; rw [if_pos (by simp [h0])])
    have hb := inS_le h0
    clear h0
    go_wp2
    go_ret
    exact ⟨by rw [hr.out]; rfl, X1⟩
  | false =>
    go_wp2_with fail
    rw [rounds_succ]
    go_wp2_with fail
    refine (in_any _ 192 222 215 r).mono ?_
    rintro e w2 ⟨rfl, hx1⟩
    have X2 := Ext.trans (Ext.al X1 (.cells #[.int .i64 192, .int .i64 222, .int .i64 215] 109)) hx1
    clear hx1 X1
    cases h1 : inS 192 222 215 r with
    | true =>
      have hr := Lib.hid (show lowR r = r + 32 by unfold lowR; rw [if_pos (by simp [h0, h1])])
      have hb := inS_le h1
      clear h0 h1
      go_wp2
      go_ret
      exact ⟨by rw [hr.out]; rfl, X2⟩
    | false =>
      go_wp2_with fail
      rw [rounds_succ]
      go_wp2_with fail
      refine (in_any _ 913 939 930 r).mono ?_
      rintro e w3 ⟨rfl, hx2⟩
      have X3 := Ext.trans (Ext.al X2 (.cells #[.int .i64 913, .int .i64 939, .int .i64 930] 109)) hx2
      clear hx2 X2
      cases h2 : inS 913 939 930 r with
      | true =>
        have hr := Lib.hid (show lowR r = r + 32 by unfold lowR; rw [if_pos (by simp [h0, h1, h2])])
        have hb := inS_le h2
        clear h0 h1 h2
        go_wp2
        go_ret
        exact ⟨by rw [hr.out]; rfl, X3⟩
      | false =>
        go_wp2_with fail
        rw [rounds_succ]
        go_wp2_with fail
        refine (in_any _ 1040 1071 (-1) r).mono ?_
        rintro e w4 ⟨rfl, hx3⟩
        have X4 := Ext.trans (Ext.al X3 (.cells #[.int .i64 1040, .int .i64 1071, .int .i64 (-1)] 109)) hx3
        clear hx3 X3
        cases h3 : inS 1040 1071 (-1) r with
        | true =>
          have hr := Lib.hid (show lowR r = r + 32 by unfold lowR; rw [if_pos (by simp [h0, h1, h2, h3])])
          have hb := inS_le h3
          clear h0 h1 h2 h3
          go_wp2
          go_ret
          exact ⟨by rw [hr.out]; rfl, X4⟩
        | false =>
          go_wp2_with fail
          rw [rounds_succ]
          go_wp2_with fail
          refine (in_any _ 1024 1039 (-1) r).mono ?_
          rintro e w5 ⟨rfl, hx5⟩
          have X5 := Ext.trans X4 hx5
          clear hx5 X4
          cases h4 : inS 1024 1039 (-1) r with
          | true =>
            have hr := Lib.hid (show lowR r = r + 80 by unfold lowR; rw [if_neg (by simp [h0, h1, h2, h3]), if_pos h4])
            have hb := inS_le h4
            clear h0 h1 h2 h3 h4
            go_wp2
            go_ret
            exact ⟨by rw [hr.out]; rfl, X5⟩
          | false =>
            have hr := Lib.hid (show lowR r = r by unfold lowR; rw [if_neg (by simp [h0, h1, h2, h3]), if_neg (by simp [h4])])
            clear h0 h1 h2 h3 h4
            go_wp2
            go_ret
            exact ⟨by rw [hr.out]; rfl, X5⟩
end Go.Proofs.Ytbnjhpknagkiaaa
