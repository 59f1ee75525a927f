/-
  Contracts of token.IsName, event.Name, the reference's IsName.
  Conditions: texts of any length that a text may have.
-/
import Derived.Test.YtbnjhpknagkiaaaEa
import Derived.Test.YtbnjhpknagkiaaaVha
import Derived.Test.YtbnjhpknagkiaaaVfa
import Derived.Laws.IdiomStrings
namespace Go.Proofs.Ytbnjhpknagkiaaa
open Go.RowKit Go.Op

def nmN (c : Nat) : Bool := (decide (97 ≤ c) && decide (c ≤ 122)) || (decide (48 ≤ c) && decide (c ≤ 57)) || decide (c = 95)
theorem nmN_t {c : Nat} (h : (97 ≤ c ∧ c ≤ 122) ∨ (48 ≤ c ∧ c ≤ 57) ∨ c = 95) : nmN c = true := by
  simp only [nmN, Bool.or_eq_true, Bool.and_eq_true, decide_eq_true_eq]
  omega
theorem nmN_f {c : Nat} (h : ¬((97 ≤ c ∧ c ≤ 122) ∨ (48 ≤ c ∧ c ≤ 57) ∨ c = 95)) : nmN c = false := by
  rw [← Bool.not_eq_true]
  simp only [nmN, Bool.or_eq_true, Bool.and_eq_true, decide_eq_true_eq]
  omega
theorem cls_all (c : Nat) : c < 48 ∨ (48 ≤ c ∧ c ≤ 57) ∨ (57 < c ∧ c < 95) ∨ c = 95 ∨ (95 < c ∧ c < 97) ∨ (97 ≤ c ∧ c ≤ 122) ∨ 122 < c := by omega
theorem ba_lt {l : List UInt8} {k : Nat} (h : k < l.length) : k < (ByteArray.mk l.toArray).size := by show k < l.toArray.size; simpa using h
theorem ba_at {l : List UInt8} {k : Nat} (h : k < l.length) : (ByteArray.mk l.toArray)[k]'(ba_lt h) = l[k] := rfl
theorem all_drop {s : List UInt8} {k : Nat} (hk : k < s.length) : (s.drop k).all nmC = (nmN (s[k]).toNat && (s.drop (k + 1)).all nmC) := by
  rw [List.drop_eq_getElem_cons hk, List.all_cons]
  rfl

theorem nmOk_no {s : List UInt8} (h : s.all nmC = false) : nmOk s = false := by unfold nmOk; rw [h, Bool.and_false]
/-- '[]byte(s)' -/
theorem conv_bytes (w : World) (s : List UInt8) : ∃ W1 cap, (convert 9 25 (.string ⟨s.toArray⟩)).run Try.prog w = .ok (.slice (some ⟨w.heap.size, 0, none⟩) s.length cap) W1 ∧ Ext w W1 ∧
    (∀ k (h : k < s.length), W1.cell? ⟨w.heap.size, k, none⟩ = some (.int .u8 ((s[k]).toNat : Int))) := by
  have hr := run_bytes_of_string w 9 25 5 ⟨s.toArray⟩ Try.underlying9 Try.underlying25 Try.underlying5
  have hsz : (ByteArray.mk s.toArray).size = s.length := by show s.toArray.size = _; simp
  rw [hsz] at hr
  refine ⟨_, _, hr, Ext.trans (Ext.drew _) (Ext.of_alloc _ _), fun k h => ?_⟩
  have hh := heap_alloc_new w.drew (.cells (bytesRow ⟨s.toArray⟩ (grownCap w s.length 0 5)) 5 ((bytesRow ⟨s.toArray⟩ (grownCap w s.length 0 5)).size, (bytesRow ⟨s.toArray⟩ (grownCap w s.length 0 5)).size + 1))
  rw [cell_of_row _ w.heap.size k _ _ _ hh]
  unfold bytesRow
  rw [Array.getElem?_append_left (by simpa using h)]
  simp [h]

set_option maxHeartbeats 4000000 in
set_option maxRecDepth 100000 in
theorem isname_any (w : World) (s : List UInt8) (hs : s.length ≤ 9223372036854775807) :
    Calls Try.prog 57 #[.string ⟨s.toArray⟩] w fun e w' => e = .returned (.bool (nmOk s)) ∧ Ext w w' := by
  obtain ⟨W1, cap, hcv, hx1, hcell⟩ := conv_bytes w s
  have Hcell := Lib.hid hcell
  have Hx1 := Lib.hid hx1
  have Hno := Lib.hid (nmOk_no (s := s))
  have hsl : (s.length : Int) ≤ 9223372036854775807 := by omega
  clear hcell hx1
  go_enter Try.func57, Try.ntmps57
  go_wp2_with fail
  clear hcv
  go_loopw [8] (fun i wr => ∃ k : Nat, i = .int .i64 k ∧ k ≤ s.length ∧ s.all nmC = (s.drop k).all nmC ∧ Ext W1 wr) (fun i _ => s.length - (intOf i).toNat)
  case atStart => exact ⟨0, rfl, Nat.zero_le _, rfl, Below.refl _ _⟩
  case round =>
    obtain ⟨k, rfl, hk, hall, hx⟩ := hrel
    have Hx := Lib.hid hx
    clear hx
    by_cases hlt : k < s.length
    · have hklt : (k : Int) < s.length := by omega
      have hcell := Ext.keeps Hx.out (Hcell.out k hlt)
      rw [all_drop hlt] at hall
      generalize (s[k]).toNat = c at hall hcell
      have Hall := Lib.hid hall
      clear hall
      rcases cls_all c with hcl | hcl | hcl | hcl | hcl | hcl | hcl
      · have hne : (((c : Nat) : Int) != 95) = true := by rw [bne_iff_ne]; omega
        have heq : (((c : Nat) : Int) == 95) = false := by rw [beq_eq_false_iff_ne]; omega
        have h1 : ((c : Nat) : Int) < 48 := by omega
        have h2 : ¬(57 : Int) < (c : Nat) := by omega
        have h3 : ((c : Nat) : Int) < 97 := by omega
        have h4 : ¬(122 : Int) < (c : Nat) := by omega
        have d1 : decide ((48 : Int) ≤ (c : Nat)) = false := decide_eq_false (by omega)
        have d2 : decide (((c : Nat) : Int) ≤ 57) = true := decide_eq_true (by omega)
        have d3 : decide ((97 : Int) ≤ (c : Nat)) = false := decide_eq_false (by omega)
        have d4 : decide (((c : Nat) : Int) ≤ 122) = true := decide_eq_true (by omega)
        have HC := Lib.hid (show nmN c = false from nmN_f (by omega))
        clear hcl
        go_wp2
        go_ret
        exact ⟨by rw [Hno.out (by rw [Hall.out, HC.out, Bool.false_and])]; rfl, Ext.trans Hx1.out Hx.out⟩
      · have hne : (((c : Nat) : Int) != 95) = true := by rw [bne_iff_ne]; omega
        have heq : (((c : Nat) : Int) == 95) = false := by rw [beq_eq_false_iff_ne]; omega
        have h1 : ¬((c : Nat) : Int) < 48 := by omega
        have h2 : ¬(57 : Int) < (c : Nat) := by omega
        have h3 : ((c : Nat) : Int) < 97 := by omega
        have h4 : ¬(122 : Int) < (c : Nat) := by omega
        have d1 : decide ((48 : Int) ≤ (c : Nat)) = true := decide_eq_true (by omega)
        have d2 : decide (((c : Nat) : Int) ≤ 57) = true := decide_eq_true (by omega)
        have d3 : decide ((97 : Int) ≤ (c : Nat)) = false := decide_eq_false (by omega)
        have d4 : decide (((c : Nat) : Int) ≤ 122) = true := decide_eq_true (by omega)
        have HC := Lib.hid (show nmN c = true from nmN_t (by omega))
        clear hcl
        go_wp2
        exact ⟨⟨k + 1, rfl, by omega, by rw [Hall.out, HC.out, Bool.true_and], Hx.out⟩, by simp only [intOf]; omega⟩
      · have hne : (((c : Nat) : Int) != 95) = true := by rw [bne_iff_ne]; omega
        have heq : (((c : Nat) : Int) == 95) = false := by rw [beq_eq_false_iff_ne]; omega
        have h1 : ¬((c : Nat) : Int) < 48 := by omega
        have h2 : (57 : Int) < (c : Nat) := by omega
        have h3 : ((c : Nat) : Int) < 97 := by omega
        have h4 : ¬(122 : Int) < (c : Nat) := by omega
        have d1 : decide ((48 : Int) ≤ (c : Nat)) = true := decide_eq_true (by omega)
        have d2 : decide (((c : Nat) : Int) ≤ 57) = false := decide_eq_false (by omega)
        have d3 : decide ((97 : Int) ≤ (c : Nat)) = false := decide_eq_false (by omega)
        have d4 : decide (((c : Nat) : Int) ≤ 122) = true := decide_eq_true (by omega)
        have HC := Lib.hid (show nmN c = false from nmN_f (by omega))
        clear hcl
        go_wp2
        go_ret
        exact ⟨by rw [Hno.out (by rw [Hall.out, HC.out, Bool.false_and])]; rfl, Ext.trans Hx1.out Hx.out⟩
      · have hne : (((c : Nat) : Int) != 95) = false := by simp only [bne_eq_false_iff_eq]; omega
        have heq : (((c : Nat) : Int) == 95) = true := by rw [beq_iff_eq]; omega
        have h1 : ¬((c : Nat) : Int) < 48 := by omega
        have h2 : (57 : Int) < (c : Nat) := by omega
        have h3 : ((c : Nat) : Int) < 97 := by omega
        have h4 : ¬(122 : Int) < (c : Nat) := by omega
        have d1 : decide ((48 : Int) ≤ (c : Nat)) = true := decide_eq_true (by omega)
        have d2 : decide (((c : Nat) : Int) ≤ 57) = false := decide_eq_false (by omega)
        have d3 : decide ((97 : Int) ≤ (c : Nat)) = false := decide_eq_false (by omega)
        have d4 : decide (((c : Nat) : Int) ≤ 122) = true := decide_eq_true (by omega)
        have HC := Lib.hid (show nmN c = true from nmN_t (by omega))
        clear hcl
        go_wp2
        exact ⟨⟨k + 1, rfl, by omega, by rw [Hall.out, HC.out, Bool.true_and], Hx.out⟩, by simp only [intOf]; omega⟩
      · have hne : (((c : Nat) : Int) != 95) = true := by rw [bne_iff_ne]; omega
        have heq : (((c : Nat) : Int) == 95) = false := by rw [beq_eq_false_iff_ne]; omega
        have h1 : ¬((c : Nat) : Int) < 48 := by omega
        have h2 : (57 : Int) < (c : Nat) := by omega
        have h3 : ((c : Nat) : Int) < 97 := by omega
        have h4 : ¬(122 : Int) < (c : Nat) := by omega
        have d1 : decide ((48 : Int) ≤ (c : Nat)) = true := decide_eq_true (by omega)
        have d2 : decide (((c : Nat) : Int) ≤ 57) = false := decide_eq_false (by omega)
        have d3 : decide ((97 : Int) ≤ (c : Nat)) = false := decide_eq_false (by omega)
        have d4 : decide (((c : Nat) : Int) ≤ 122) = true := decide_eq_true (by omega)
        have HC := Lib.hid (show nmN c = false from nmN_f (by omega))
        clear hcl
        go_wp2
        go_ret
        exact ⟨by rw [Hno.out (by rw [Hall.out, HC.out, Bool.false_and])]; rfl, Ext.trans Hx1.out Hx.out⟩
      · have hne : (((c : Nat) : Int) != 95) = true := by rw [bne_iff_ne]; omega
        have heq : (((c : Nat) : Int) == 95) = false := by rw [beq_eq_false_iff_ne]; omega
        have h1 : ¬((c : Nat) : Int) < 48 := by omega
        have h2 : (57 : Int) < (c : Nat) := by omega
        have h3 : ¬((c : Nat) : Int) < 97 := by omega
        have h4 : ¬(122 : Int) < (c : Nat) := by omega
        have d1 : decide ((48 : Int) ≤ (c : Nat)) = true := decide_eq_true (by omega)
        have d2 : decide (((c : Nat) : Int) ≤ 57) = false := decide_eq_false (by omega)
        have d3 : decide ((97 : Int) ≤ (c : Nat)) = true := decide_eq_true (by omega)
        have d4 : decide (((c : Nat) : Int) ≤ 122) = true := decide_eq_true (by omega)
        have HC := Lib.hid (show nmN c = true from nmN_t (by omega))
        clear hcl
        go_wp2
        exact ⟨⟨k + 1, rfl, by omega, by rw [Hall.out, HC.out, Bool.true_and], Hx.out⟩, by simp only [intOf]; omega⟩
      · have hne : (((c : Nat) : Int) != 95) = true := by rw [bne_iff_ne]; omega
        have heq : (((c : Nat) : Int) == 95) = false := by rw [beq_eq_false_iff_ne]; omega
        have h1 : ¬((c : Nat) : Int) < 48 := by omega
        have h2 : (57 : Int) < (c : Nat) := by omega
        have h3 : ¬((c : Nat) : Int) < 97 := by omega
        have h4 : (122 : Int) < (c : Nat) := by omega
        have d1 : decide ((48 : Int) ≤ (c : Nat)) = true := decide_eq_true (by omega)
        have d2 : decide (((c : Nat) : Int) ≤ 57) = false := decide_eq_false (by omega)
        have d3 : decide ((97 : Int) ≤ (c : Nat)) = true := decide_eq_true (by omega)
        have d4 : decide (((c : Nat) : Int) ≤ 122) = false := decide_eq_false (by omega)
        have HC := Lib.hid (show nmN c = false from nmN_f (by omega))
        clear hcl
        go_wp2
        go_ret
        exact ⟨by rw [Hno.out (by rw [Hall.out, HC.out, Bool.false_and])]; rfl, Ext.trans Hx1.out Hx.out⟩
    · have hklt : ¬(k : Int) < s.length := by omega
      rw [List.drop_of_length_le (by omega)] at hall
      have Hall := Lib.hid hall
      clear hall
      by_cases hl0 : s.length < 1
      · have hl0' : decide ((1 : Int) ≤ s.length) = false := decide_eq_false (by omega)
        have hf := Lib.hid (show nmOk s = false by unfold nmOk; rw [decide_eq_false (by omega)]; rfl)
        clear hl0
        go_wp2
        go_ret
        exact ⟨by rw [hf.out]; rfl, Ext.trans Hx1.out Hx.out⟩
      · have hl0' : decide ((1 : Int) ≤ s.length) = true := decide_eq_true (by omega)
        by_cases hl1 : 32 < s.length
        · have hl1' : decide ((s.length : Int) ≤ 32) = false := decide_eq_false (by omega)
          have hf := Lib.hid (show nmOk s = false by unfold nmOk; rw [decide_eq_false (show ¬s.length ≤ 32 by omega), Bool.and_false]; rfl)
          clear hl0 hl1
          go_wp2
          go_ret
          exact ⟨by rw [hf.out]; rfl, Ext.trans Hx1.out Hx.out⟩
        · have hl1' : decide ((s.length : Int) ≤ 32) = true := decide_eq_true (by omega)
          have hf := Lib.hid (show nmOk s = true by unfold nmOk; rw [Hall.out, decide_eq_true (by omega), decide_eq_true (by omega)]; rfl)
          clear hl0 hl1
          go_wp2
          go_ret
          exact ⟨by rw [hf.out]; rfl, Ext.trans Hx1.out Hx.out⟩
set_option maxHeartbeats 400000 in
theorem name_any (w : World) (s : List UInt8) (hs : s.length ≤ 9223372036854775807) :
    Calls Try.prog 31 #[.string ⟨s.toArray⟩] w fun e w' => e = .returned (.bool (nmOk s)) ∧ Ext w w' := by
  go_enter Try.func31, Try.ntmps31
  go_wp2_with fail
  refine (isname_any w s hs).mono ?_
  rintro e w1 ⟨rfl, hx⟩
  go_wp2
  go_ret
  exact ⟨rfl, hx⟩

set_option maxHeartbeats 4000000 in
set_option maxRecDepth 100000 in
theorem risname_any (w : World) (s : List UInt8) :
    Calls Try.prog 32 #[.string ⟨s.toArray⟩] w fun e w' => e = .returned (.bool (nmOk s)) ∧ Ext w w' := by
  by_cases hl0 : s.length < 1
  · have hl0' : (s.length : Int) < 1 := by omega
    have Hno := Lib.hid (show nmOk s = false by unfold nmOk; rw [decide_eq_false (by omega)]; rfl)
    clear hl0
    go_enter Try.func32, Try.ntmps32
    go_wp2
    go_ret
    exact ⟨by rw [Hno.out]; rfl, Below.refl _ _⟩
  have hl0' : ¬(s.length : Int) < 1 := by omega
  by_cases hl1 : 32 < s.length
  · have hl1' : (32 : Int) < s.length := by omega
    have Hno := Lib.hid (show nmOk s = false by unfold nmOk; rw [decide_eq_false (show ¬s.length ≤ 32 by omega), Bool.and_false]; rfl)
    clear hl0 hl1
    go_enter Try.func32, Try.ntmps32
    go_wp2
    go_ret
    exact ⟨by rw [Hno.out]; rfl, Below.refl _ _⟩
  have hl1' : ¬(32 : Int) < s.length := by omega
  have Hyes := Lib.hid (show s.all nmC = true → nmOk s = true by intro h; unfold nmOk; rw [h, decide_eq_true (by omega), decide_eq_true (by omega)]; rfl)
  have Hno := Lib.hid (nmOk_no (s := s))
  have hsl : s.length ≤ 32 := by omega
  clear hl0 hl1
  go_enter Try.func32, Try.ntmps32
  go_wp2_with fail
  go_loopw [3] (fun i wr => ∃ k : Nat, i = .int .i64 k ∧ k ≤ s.length ∧ s.all nmC = (s.drop k).all nmC ∧ Ext w wr) (fun i _ => s.length - (intOf i).toNat)
  case atStart => exact ⟨0, rfl, Nat.zero_le _, rfl, Below.refl _ _⟩
  case round =>
    obtain ⟨k, rfl, hk, hall, hx⟩ := hrel
    have Hx := Lib.hid hx
    clear hx
    by_cases hlt : k < s.length
    · have hklt : (k : Int) < s.length := by omega
      rw [all_drop hlt] at hall
      have hb := ba_lt hlt
      have hbv := ba_at hlt
      generalize hcc : (s[k]).toNat = c at hall
      have hcv : (((ByteArray.mk s.toArray)[k]'hb).toNat : Int) = (c : Nat) := by rw [hbv, hcc]
      have Hall := Lib.hid hall
      clear hall hbv hcc
      rcases cls_all c with hcl | hcl | hcl | hcl | hcl | hcl | hcl
      · have hne : (((c : Nat) : Int) != 95) = true := by rw [bne_iff_ne]; omega
        have heq : (((c : Nat) : Int) == 95) = false := by rw [beq_eq_false_iff_ne]; omega
        have h1 : ((c : Nat) : Int) < 48 := by omega
        have h2 : ¬(57 : Int) < (c : Nat) := by omega
        have h3 : ((c : Nat) : Int) < 97 := by omega
        have h4 : ¬(122 : Int) < (c : Nat) := by omega
        have d1 : decide ((48 : Int) ≤ (c : Nat)) = false := decide_eq_false (by omega)
        have d2 : decide (((c : Nat) : Int) ≤ 57) = true := decide_eq_true (by omega)
        have d3 : decide ((97 : Int) ≤ (c : Nat)) = false := decide_eq_false (by omega)
        have d4 : decide (((c : Nat) : Int) ≤ 122) = true := decide_eq_true (by omega)
        have HC := Lib.hid (show nmN c = false from nmN_f (by omega))
        clear hcl
        go_wp2
        go_ret
        exact ⟨by rw [Hno.out (by rw [Hall.out, HC.out, Bool.false_and])]; rfl, Hx.out⟩
      · have hne : (((c : Nat) : Int) != 95) = true := by rw [bne_iff_ne]; omega
        have heq : (((c : Nat) : Int) == 95) = false := by rw [beq_eq_false_iff_ne]; omega
        have h1 : ¬((c : Nat) : Int) < 48 := by omega
        have h2 : ¬(57 : Int) < (c : Nat) := by omega
        have h3 : ((c : Nat) : Int) < 97 := by omega
        have h4 : ¬(122 : Int) < (c : Nat) := by omega
        have d1 : decide ((48 : Int) ≤ (c : Nat)) = true := decide_eq_true (by omega)
        have d2 : decide (((c : Nat) : Int) ≤ 57) = true := decide_eq_true (by omega)
        have d3 : decide ((97 : Int) ≤ (c : Nat)) = false := decide_eq_false (by omega)
        have d4 : decide (((c : Nat) : Int) ≤ 122) = true := decide_eq_true (by omega)
        have HC := Lib.hid (show nmN c = true from nmN_t (by omega))
        clear hcl
        go_wp2
        exact ⟨⟨k + 1, rfl, by omega, by rw [Hall.out, HC.out, Bool.true_and], Hx.out⟩, by simp only [intOf]; omega⟩
      · have hne : (((c : Nat) : Int) != 95) = true := by rw [bne_iff_ne]; omega
        have heq : (((c : Nat) : Int) == 95) = false := by rw [beq_eq_false_iff_ne]; omega
        have h1 : ¬((c : Nat) : Int) < 48 := by omega
        have h2 : (57 : Int) < (c : Nat) := by omega
        have h3 : ((c : Nat) : Int) < 97 := by omega
        have h4 : ¬(122 : Int) < (c : Nat) := by omega
        have d1 : decide ((48 : Int) ≤ (c : Nat)) = true := decide_eq_true (by omega)
        have d2 : decide (((c : Nat) : Int) ≤ 57) = false := decide_eq_false (by omega)
        have d3 : decide ((97 : Int) ≤ (c : Nat)) = false := decide_eq_false (by omega)
        have d4 : decide (((c : Nat) : Int) ≤ 122) = true := decide_eq_true (by omega)
        have HC := Lib.hid (show nmN c = false from nmN_f (by omega))
        clear hcl
        go_wp2
        go_ret
        exact ⟨by rw [Hno.out (by rw [Hall.out, HC.out, Bool.false_and])]; rfl, Hx.out⟩
      · have hne : (((c : Nat) : Int) != 95) = false := by simp only [bne_eq_false_iff_eq]; omega
        have heq : (((c : Nat) : Int) == 95) = true := by rw [beq_iff_eq]; omega
        have h1 : ¬((c : Nat) : Int) < 48 := by omega
        have h2 : (57 : Int) < (c : Nat) := by omega
        have h3 : ((c : Nat) : Int) < 97 := by omega
        have h4 : ¬(122 : Int) < (c : Nat) := by omega
        have d1 : decide ((48 : Int) ≤ (c : Nat)) = true := decide_eq_true (by omega)
        have d2 : decide (((c : Nat) : Int) ≤ 57) = false := decide_eq_false (by omega)
        have d3 : decide ((97 : Int) ≤ (c : Nat)) = false := decide_eq_false (by omega)
        have d4 : decide (((c : Nat) : Int) ≤ 122) = true := decide_eq_true (by omega)
        have HC := Lib.hid (show nmN c = true from nmN_t (by omega))
        clear hcl
        go_wp2
        exact ⟨⟨k + 1, rfl, by omega, by rw [Hall.out, HC.out, Bool.true_and], Hx.out⟩, by simp only [intOf]; omega⟩
      · have hne : (((c : Nat) : Int) != 95) = true := by rw [bne_iff_ne]; omega
        have heq : (((c : Nat) : Int) == 95) = false := by rw [beq_eq_false_iff_ne]; omega
        have h1 : ¬((c : Nat) : Int) < 48 := by omega
        have h2 : (57 : Int) < (c : Nat) := by omega
        have h3 : ((c : Nat) : Int) < 97 := by omega
        have h4 : ¬(122 : Int) < (c : Nat) := by omega
        have d1 : decide ((48 : Int) ≤ (c : Nat)) = true := decide_eq_true (by omega)
        have d2 : decide (((c : Nat) : Int) ≤ 57) = false := decide_eq_false (by omega)
        have d3 : decide ((97 : Int) ≤ (c : Nat)) = false := decide_eq_false (by omega)
        have d4 : decide (((c : Nat) : Int) ≤ 122) = true := decide_eq_true (by omega)
        have HC := Lib.hid (show nmN c = false from nmN_f (by omega))
        clear hcl
        go_wp2
        go_ret
        exact ⟨by rw [Hno.out (by rw [Hall.out, HC.out, Bool.false_and])]; rfl, Hx.out⟩
      · have hne : (((c : Nat) : Int) != 95) = true := by rw [bne_iff_ne]; omega
        have heq : (((c : Nat) : Int) == 95) = false := by rw [beq_eq_false_iff_ne]; omega
        have h1 : ¬((c : Nat) : Int) < 48 := by omega
        have h2 : (57 : Int) < (c : Nat) := by omega
        have h3 : ¬((c : Nat) : Int) < 97 := by omega
        have h4 : ¬(122 : Int) < (c : Nat) := by omega
        have d1 : decide ((48 : Int) ≤ (c : Nat)) = true := decide_eq_true (by omega)
        have d2 : decide (((c : Nat) : Int) ≤ 57) = false := decide_eq_false (by omega)
        have d3 : decide ((97 : Int) ≤ (c : Nat)) = true := decide_eq_true (by omega)
        have d4 : decide (((c : Nat) : Int) ≤ 122) = true := decide_eq_true (by omega)
        have HC := Lib.hid (show nmN c = true from nmN_t (by omega))
        clear hcl
        go_wp2
        exact ⟨⟨k + 1, rfl, by omega, by rw [Hall.out, HC.out, Bool.true_and], Hx.out⟩, by simp only [intOf]; omega⟩
      · have hne : (((c : Nat) : Int) != 95) = true := by rw [bne_iff_ne]; omega
        have heq : (((c : Nat) : Int) == 95) = false := by rw [beq_eq_false_iff_ne]; omega
        have h1 : ¬((c : Nat) : Int) < 48 := by omega
        have h2 : (57 : Int) < (c : Nat) := by omega
        have h3 : ¬((c : Nat) : Int) < 97 := by omega
        have h4 : (122 : Int) < (c : Nat) := by omega
        have d1 : decide ((48 : Int) ≤ (c : Nat)) = true := decide_eq_true (by omega)
        have d2 : decide (((c : Nat) : Int) ≤ 57) = false := decide_eq_false (by omega)
        have d3 : decide ((97 : Int) ≤ (c : Nat)) = true := decide_eq_true (by omega)
        have d4 : decide (((c : Nat) : Int) ≤ 122) = false := decide_eq_false (by omega)
        have HC := Lib.hid (show nmN c = false from nmN_f (by omega))
        clear hcl
        go_wp2
        go_ret
        exact ⟨by rw [Hno.out (by rw [Hall.out, HC.out, Bool.false_and])]; rfl, Hx.out⟩
    · have hklt : ¬(k : Int) < s.length := by omega
      rw [List.drop_of_length_le (by omega)] at hall
      have Hall := Lib.hid hall
      clear hall
      go_wp2
      go_ret
      exact ⟨by rw [Hyes.out Hall.out]; rfl, Hx.out⟩

end Go.Proofs.Ytbnjhpknagkiaaa
