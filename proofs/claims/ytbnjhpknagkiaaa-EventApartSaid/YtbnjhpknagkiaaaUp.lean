/-
  Contracts of event.Size and the reference's Size.
  Conditions: none.
-/
import Derived.Test.YtbnjhpknagkiaaaEc
import Derived.BigQuiet
namespace Go.Proofs.Ytbnjhpknagkiaaa
open Go.RowKit Go.Op

def fszs : List Fld → Nat
  | [] => 0
  | f :: l => f.1.b.length + f.2.b.length + fszs l
def szV (l : List Fld) : Int := IntKind.i64.wrap ((16 + fszs l : Nat) : Int)
theorem szV_ok {l : List Fld} (h : fszs l ≤ 1000000) : szV l = ((16 + fszs l : Nat) : Int) := by
  unfold szV
  rw [IntKind.wrap_i64]; omega
theorem fszs_take {l : List Fld} {k : Nat} (hk : k < l.length) : fszs (l.take (k + 1)) = fszs (l.take k) + ((l[k]).1.b.length + (l[k]).2.b.length) := by
  induction l generalizing k with
  | nil => simp at hk
  | cons x l ih =>
    cases k with
    | zero => simp [fszs]
    | succ k =>
      have := ih (k := k) (by simpa using hk)
      simp only [List.take_succ_cons, fszs, List.getElem_cons_succ] at this ⊢
      omega
theorem fszs_le {l : List Fld} (h : ∀ f ∈ l, f.1.b.length ≤ 40 ∧ f.2.b.length ≤ 4096) : fszs l ≤ 4136 * l.length := by
  induction l with
  | nil => simp [fszs]
  | cons x l ih =>
    have h1 := h x (by simp)
    have h2 := ih fun f hf => h f (by simp [hf])
    simp only [fszs, List.length_cons]
    omega
theorem szV_step (S a b : Nat) : wrap64 (wrap64 (16 + (S : Int)) + wrap64 ((a : Int) + b)) = IntKind.i64.wrap ((16 + (S + (a + b)) : Nat) : Int) := by
  rw [IntKind.wrap_i64]; unfold wrap64; omega
theorem szV_step2 (S a b : Nat) : wrap64 (wrap64 (wrap64 (16 + (S : Int)) + a) + b) = IntKind.i64.wrap ((16 + (S + (a + b)) : Nat) : Int) := by
  rw [IntKind.wrap_i64]; unfold wrap64; omega

set_option maxHeartbeats 1600000 in
set_option maxRecDepth 100000 in
theorem size_any (w : World) (at_ : Int) (v : Value) (l : List Fld) (hv : SL w (Bw w) v l) :
    Calls Try.prog 28 #[.agg #[.int .i64 at_, v]] w fun e w' => e = .returned (.int .i64 (szV l)) ∧ Ext w w' := by
  obtain ⟨A, c, rfl, hc, hm⟩ := hv.form
  unfold maxLen at hm
  have Hv := Lib.hid hv
  have Hx0 : Hid (Ext w (w.alloc (.cells #[.int .i64 at_, .slice A l.length c] 40))) := Lib.hid (Ext.of_alloc _ _)
  clear hv
  go_enter Try.func28, Try.ntmps28
  go_wp2_with fail
  go_loopw [3, 9] (fun n i wr => ∃ k : Nat, i = .int .i64 k ∧ k ≤ l.length ∧ n = .int .i64 (IntKind.i64.wrap ((16 + fszs (l.take k) : Nat) : Int)) ∧ Ext w wr) (fun _ i _ => l.length - (intOf i).toNat)
  case atStart => exact ⟨0, rfl, Nat.zero_le _, rfl, Hx0.out⟩
  case round =>
    obtain ⟨k, rfl, hk, rfl, hx⟩ := hrel
    have Hx := Lib.hid hx
    by_cases hlt : k < l.length
    · have hklt : (k : Int) < l.length := by omega
      obtain ⟨ad, rfl, _, d0, d1, b0, b1⟩ := (Hv.out.up hx).fld_at hlt
      have Hs := Lib.hid (fszs_take hlt)
      generalize l[k] = N at d0 d1 b0 b1 Hs
      obtain ⟨⟨n⟩, ⟨t⟩⟩ := N
      dsimp only at d0 d1 b0 b1
      have ht : (t.length : Int) ≤ 9223372036854775807 := by unfold maxLen at b1; omega
      have hnl : (n.length : Int) ≤ 9223372036854775807 := by unfold maxLen at b0; omega
      have hx2 := Ext.al Hx.out (.cells #[.string ⟨n.toArray⟩, .string ⟨t.toArray⟩] 59)
      have Hx2 := Lib.hid hx2
      clear hx hx2
      go_wp2
      refine ⟨⟨k + 1, by go_num, by omega, ?_, Hx2.out⟩, by simp only [intOf]; omega⟩
      rw [Hs.out]
      exact congrArg (Value.int .i64) (szV_step _ _ _)
    · have hklt : ¬(k : Int) < l.length := by omega
      have hke : l.take k = l := List.take_of_length_le (by omega)
      rw [hke]
      clear hx
      go_wp2
      go_ret
      exact ⟨rfl, Hx.out⟩

set_option maxHeartbeats 1600000 in
set_option maxRecDepth 100000 in
theorem rsize_any (w : World) (at_ : Int) (v : Value) (l : List Fld) (hv : SL w (Bw w) v l) :
    Calls Try.prog 29 #[.agg #[.int .i64 at_, v]] w fun e w' => e = .returned (.int .i64 (szV l)) ∧ Ext w w' := by
  obtain ⟨A, c, rfl, hc, hm⟩ := hv.form
  unfold maxLen at hm
  have Hv := Lib.hid hv
  have Hx0 : Hid (Ext w (w.alloc (.cells #[.int .i64 at_, .slice A l.length c] 40))) := Lib.hid (Ext.of_alloc _ _)
  have Hb0 : Hid ((w.alloc (.cells #[.int .i64 at_, .slice A l.length c] 40)).cell? ⟨w.heap.size, 1, none⟩ = some (.slice A l.length c)) := Lib.hid (cell_new w #[.int .i64 at_, .slice A l.length c] 40 1 (v := .slice A l.length c) rfl)
  clear hv
  go_enter Try.func29, Try.ntmps29
  go_wp2_with fail
  go_loopw [3, 4] (fun n i wr => ∃ k : Nat, i = .int .i64 k ∧ k ≤ l.length ∧ n = .int .i64 (IntKind.i64.wrap ((16 + fszs (l.take k) : Nat) : Int)) ∧ wr.cell? ⟨w.heap.size, 1, none⟩ = some (.slice A l.length c) ∧ Ext w wr) (fun _ i _ => l.length - (intOf i).toNat)
  case atStart => exact ⟨0, rfl, Nat.zero_le _, rfl, Hb0.out, Hx0.out⟩
  case round =>
    obtain ⟨k, rfl, hk, rfl, hb, hx⟩ := hrel
    have Hx := Lib.hid hx
    by_cases hlt : k < l.length
    · have hklt : (k : Int) < l.length := by omega
      obtain ⟨ad, rfl, _, d0, d1, b0, b1⟩ := (Hv.out.up hx).fld_at hlt
      have Hs := Lib.hid (fszs_take hlt)
      generalize l[k] = N at d0 d1 b0 b1 Hs
      obtain ⟨⟨n⟩, ⟨t⟩⟩ := N
      dsimp only at d0 d1 b0 b1
      have ht : (t.length : Int) ≤ 9223372036854775807 := by unfold maxLen at b1; omega
      have hnl : (n.length : Int) ≤ 9223372036854775807 := by unfold maxLen at b0; omega
      have Hb := Lib.hid hb
      clear hx
      go_wp2_with fail
      go_quiet (fail)
      go_wp2
      refine ⟨⟨k + 1, by go_num, by omega, ?_, Ext.keeps (Ext.drewN _ _) Hb.out, Hx.out.trans (Ext.drewN _ _)⟩, by simp only [intOf]; omega⟩
      rw [Hs.out]
      exact congrArg (Value.int .i64) (szV_step2 _ _ _)
    · have hklt : ¬(k : Int) < l.length := by omega
      have hke : l.take k = l := List.take_of_length_le (by omega)
      rw [hke]
      clear hx
      go_wp2
      go_ret
      exact ⟨rfl, Hx.out⟩
end Go.Proofs.Ytbnjhpknagkiaaa
