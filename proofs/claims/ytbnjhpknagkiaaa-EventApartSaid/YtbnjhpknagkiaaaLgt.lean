/-
  Contract of the reference's Light.
  Conditions: none.
-/
import Derived.Test.YtbnjhpknagkiaaaUp
import Derived.Lib.MinMax
namespace Go.Proofs.Ytbnjhpknagkiaaa
open Go.RowKit Go.Op

set_option maxHeartbeats 3200000 in
set_option maxRecDepth 100000 in
theorem light_any (w : World) (at_ : Int) (v : Value) (l : List Fld) (hv : SL w (Bw w) v l) :
    Calls Try.prog 21 #[.agg #[.int .i64 at_, v]] w fun e w' => ∃ R : Bool, e = .returned (.bool R) ∧ (R = true → fszs (l.take 20) < 1000) ∧ Ext w w' := by
  obtain ⟨A, c, rfl, hc, hm⟩ := hv.form
  have Hx0 : Hid (Ext w (w.alloc (.cells #[.int .i64 at_, .slice A l.length c] 40))) := Lib.hid (Ext.of_alloc _ _)
  have Hb0 : Hid ((w.alloc (.cells #[.int .i64 at_, .slice A l.length c] 40)).cell? ⟨w.heap.size, 1, none⟩ = some (.slice A l.length c)) := Lib.hid (cell_new w #[.int .i64 at_, .slice A l.length c] 40 1 (v := .slice A l.length c) rfl)
  have Hv := Lib.hid hv
  clear hv
  go_enter Try.func21, Try.ntmps21
  go_wp2_with fail
  go_loopw [3, 4] (fun s i wr => ∃ k N : Nat, i = .int .i64 k ∧ s = .int .i64 N ∧ k ≤ l.length ∧ k ≤ 20 ∧ N ≤ 3000 ∧ (N < 1000 → fszs (l.take k) = N) ∧ wr.cell? ⟨w.heap.size, 1, none⟩ = some (.slice A l.length c) ∧ Ext w wr) (fun _ i _ => 20 - (intOf i).toNat)
  case atStart => exact ⟨0, 0, rfl, rfl, Nat.zero_le _, Nat.zero_le _, Nat.zero_le _, fun _ => rfl, Hb0.out, Hx0.out⟩
  case round =>
    obtain ⟨k, N, rfl, rfl, hk, hk2, hN3, hN, hb, hx⟩ := hrel
    have HN := Lib.hid hN
    have Hx := Lib.hid hx
    clear hN
    by_cases hst : k < l.length ∧ k < 20 ∧ N < 1000
    · obtain ⟨h1, h2, h3⟩ := hst
      have h1i : (k : Int) < l.length := by omega
      have h2i : (k : Int) < 20 := by omega
      have h3i : (N : Int) < 1000 := by omega
      obtain ⟨ad, rfl, _, d0, d1, b0, b1⟩ := (Hv.out.up hx).fld_at h1
      have hsum := fszs_take h1
      generalize l[k] = F at d0 d1 b0 b1 hsum
      obtain ⟨⟨n⟩, ⟨t⟩⟩ := F
      dsimp only at d0 d1 b0 b1 hsum
      have hsum2 : fszs (l.take (k + 1)) = fszs (l.take k) + n.length + t.length := by rw [hsum]; omega
      have Hsum := Lib.hid hsum2
      have Hb := Lib.hid hb
      have q0 := Ext.keeps (Ext.drew wr) hb
      have q1 := Ext.keeps (Ext.drew wr) d0
      have q2 := Ext.keeps (Ext.drew wr) d1
      have m1 : min (1000 : Int) (n.length : Int) = ((min 1000 n.length : Nat) : Int) := by omega
      have m2 : min (1000 : Int) (t.length : Int) = ((min 1000 t.length : Nat) : Int) := by omega
      have a1 : IntKind.i64.wrap ((N : Int) + ((min 1000 n.length : Nat) : Int)) = ((N + min 1000 n.length : Nat) : Int) := by rw [IntKind.wrap_i64]; omega
      have a2 : IntKind.i64.wrap (((N + min 1000 n.length : Nat) : Int) + ((min 1000 t.length : Nat) : Int)) = ((N + min 1000 n.length + min 1000 t.length : Nat) : Int) := by rw [IntKind.wrap_i64]; omega
      clear hsum hsum2 hx
      go_wp2_with fail
      go_quiet (fail)
      all_goals go_wp2
      all_goals exact ⟨⟨k + 1, N + min 1000 n.length + min 1000 t.length, rfl, congrArg (Value.int .i64) (by omega), by omega, by omega, by omega, fun h => by rw [Hsum.out, HN.out (by omega)]; omega, Ext.keeps (Ext.drewN _ _) Hb.out, Hx.out.drN _⟩, by simp only [intOf]; omega⟩
    · have Hfin : Hid (k < l.length → k < 20 → ¬N < 1000) := Lib.hid fun a b c => hst ⟨a, b, c⟩
      clear hst hx
      by_cases hN2 : N < 1000
      · have hNi : decide ((N : Int) < 1000) = true := decide_eq_true (by omega)
        have Hf : Hid (fszs (l.take 20) < 1000) := Lib.hid (by
          by_cases h1 : k < l.length
          · have h2 : k = 20 := by
              have := Hfin.out h1
              omega
            have h3 := HN.out hN2
            rw [h2] at h3
            omega
          · have h3 := HN.out hN2
            rw [List.take_of_length_le (by omega)] at h3 ⊢
            omega)
        by_cases h1 : k < l.length
        · have h1i : decide ((k : Int) < l.length) = true := decide_eq_true (by omega)
          have h2i : decide ((k : Int) < 20) = false := decide_eq_false (by have := Hfin.out h1; omega)
          go_wp2
          go_ret
          exact ⟨_, rfl, fun _ => Hf.out, Hx.out⟩
        · have h1i : decide ((k : Int) < l.length) = false := decide_eq_false (by omega)
          go_wp2
          go_ret
          exact ⟨_, rfl, fun _ => Hf.out, Hx.out⟩
      · have hNi : decide ((N : Int) < 1000) = false := decide_eq_false (by omega)
        by_cases h1 : k < l.length
        · have h1i : decide ((k : Int) < l.length) = true := decide_eq_true (by omega)
          by_cases h2 : k < 20
          · have h2i : decide ((k : Int) < 20) = true := decide_eq_true (by omega)
            go_wp2
            go_ret
            exact ⟨false, rfl, (fun h => by cases h), Hx.out⟩
          · have h2i : decide ((k : Int) < 20) = false := decide_eq_false (by omega)
            go_wp2
            go_ret
            exact ⟨false, rfl, (fun h => by cases h), Hx.out⟩
        · have h1i : decide ((k : Int) < l.length) = false := decide_eq_false (by omega)
          go_wp2
          go_ret
          exact ⟨false, rfl, (fun h => by cases h), Hx.out⟩
end Go.Proofs.Ytbnjhpknagkiaaa
