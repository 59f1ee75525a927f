/-
  Contracts of both Terms at any event.
  Conditions: none.
-/
import Derived.Test.YtbnjhpknagkiaaaNn
import Derived.Test.YtbnjhpknagkiaaaPl
namespace Go.Proofs.Ytbnjhpknagkiaaa
open Go.RowKit Go.Op
attribute [local go_sem] Oper.semAt_some

/-- an event's terms -/
def trmE (e : Ev) : List TG := if evE e = 0 then termsL e.2 else []

set_option maxHeartbeats 1600000 in
set_option maxRecDepth 100000 in
theorem terms_bad (w : World) (a : Int) (v : Value) (fs : List Fld) (hv : SL w (Bw w) v fs) (hE : evE (a, fs) ≠ 0) :
    Calls Try.prog 22 #[.agg #[.int .i64 a, v]] w fun e w' => e = .returned (.slice none 0 0) ∧ Ext w w' := by
  obtain ⟨A, c, rfl, hc, hm⟩ := hv.form
  have hx0 := Ext.of_alloc w (.cells #[.int .i64 a, .slice A fs.length c] 40)
  have Hv := Lib.hid (hv.up hx0)
  have Hx0 := Lib.hid hx0
  have hne : ((evE (a, fs) : Int) != 0) = true := by rw [bne_iff_ne]; omega
  clear hv hx0 hE
  generalize hz : evE (a, fs) = z at hne
  have Hz := Lib.hid hz
  clear hz
  refine (callsIn_wide (n := 3)).1 ?_
  refine callsIn_of_wp_marks Try.func22 rfl trivial ?_ rfl
  simp only [Try.ntmps22, List.size_toArray, List.length_cons, List.length_nil, Nat.reduceAdd, Nat.reduceSub, Array.replicate_succ, Array.replicate_zero, List.push_toArray, List.append_toArray, List.nil_append, List.cons_append]
  gi_wp2_with fail
  refine ⟨trivial, callsIn_wide.2 ((check_any _ a _ fs Hv.out).mono ?_)⟩
  rintro e w1 ⟨rfl, hx1⟩
  rw [Hz.out]
  have Hx1 := Lib.hid (Ext.trans Hx0.out hx1)
  clear hx1
  gi_wp2
  exact ⟨_, results_tmp rfl _ _ _, rfl, Hx1.out⟩
set_option maxHeartbeats 1600000 in
set_option maxRecDepth 100000 in
theorem rterms_bad (w : World) (a : Int) (v : Value) (fs : List Fld) (hv : SL w (Bw w) v fs) (hE : evE (a, fs) ≠ 0) :
    Calls Try.prog 23 #[.agg #[.int .i64 a, v]] w fun e w' => e = .returned (.slice none 0 0) ∧ Ext w w' := by
  obtain ⟨A, c, rfl, hc, hm⟩ := hv.form
  have hx0 := Ext.of_alloc w (.cells #[.int .i64 a, .slice A fs.length c] 40)
  have Hv := Lib.hid (hv.up hx0)
  have Hx0 := Lib.hid hx0
  have hne : ((evE (a, fs) : Int) != 0) = true := by rw [bne_iff_ne]; omega
  clear hv hx0 hE
  generalize hz : evE (a, fs) = z at hne
  have Hz := Lib.hid hz
  clear hz
  go_enter Try.func23, Try.ntmps23
  go_wp2_with fail
  refine (rcheck_any _ a _ fs Hv.out).mono ?_
  rintro e w1 ⟨rfl, hx1⟩
  rw [Hz.out]
  have Hx1 := Lib.hid (Ext.trans Hx0.out hx1)
  clear hx1
  go_wp2
  go_ret
  exact ⟨rfl, Hx1.out⟩
theorem terms_any (w : World) (a : Int) (v : Value) (fs : List Fld) (hv : SL w (Bw w) v fs) :
    Calls Try.prog 22 #[.agg #[.int .i64 a, v]] w fun e w' => ∃ u, e = .returned u ∧ SL w' (Bw w') u ((trmE (a, fs)).map tgT) ∧ Ext w w' := by
  unfold trmE
  by_cases h : evE (a, fs) = 0
  · rw [if_pos h]
    exact terms_ok w a v fs hv h
  · rw [if_neg h]
    refine (terms_bad w a v fs hv h).mono ?_
    rintro e w' ⟨rfl, hx⟩
    exact ⟨_, rfl, SL.nil_ _ _, hx⟩
theorem rterms_any (w : World) (a : Int) (v : Value) (fs : List Fld) (hv : SL w (Bw w) v fs) :
    Calls Try.prog 23 #[.agg #[.int .i64 a, v]] w fun e w' => ∃ u, e = .returned u ∧ SL w' (Bw w') u ((trmE (a, fs)).map tgT) ∧ Ext w w' := by
  unfold trmE
  by_cases h : evE (a, fs) = 0
  · rw [if_pos h]
    have := rterms_ok w a v fs hv h
    rw [show addA (rawA 0 fs) = termsL fs from (termsL_add fs).symm] at this
    exact this
  · rw [if_neg h]
    refine (rterms_bad w a v fs hv h).mono ?_
    rintro e w' ⟨rfl, hx⟩
    exact ⟨_, rfl, SL.nil_ _ _, hx⟩
/-- texts of terms are short, and so are their rows of places -/
theorem trmE_bd (e : Ev) : Bd 100000 (trmE e) := by
  unfold trmE
  by_cases h : evE e = 0
  · rw [if_pos h, show termsL e.2 = addA (rawA 0 e.2) from termsL_add e.2]
    obtain ⟨hf16, hfE⟩ := evE_spec h
    have h1 := rawA_len e.2 0
    have h2 := basN_le e.2 4096 fun f hf => (fldE_spec (fldsE_spec hfE f hf)).2.2
    have h3 : e.2.length * (4096 + 65) ≤ 16 * 4161 := Nat.mul_le_mul hf16 (by omega)
    have h4 := addA_bd (rawA 0 e.2) (rawA_text e.2 0 fun f hf => (fldE_spec (fldsE_spec hfE f hf)).2.1)
    exact ⟨by have := h4.1; omega, fun t ht => by have := h4.2 t ht; omega⟩
  · rw [if_neg h]
    exact ⟨by simp, fun t ht => by cases ht⟩
end Go.Proofs.Ytbnjhpknagkiaaa
