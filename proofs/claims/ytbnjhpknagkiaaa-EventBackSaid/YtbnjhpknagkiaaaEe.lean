/-
  Contracts of slices.Equal over fields, event.Same, the reference's Same.
  Conditions: none.
-/
import Derived.Test.YtbnjhpknagkiaaaEd
import Derived.Laws.StructEq
import Derived.BigQuiet
namespace Go.Proofs.Ytbnjhpknagkiaaa
open Go.RowKit Go.Op

theorem equal_fld (W : World) (a b a' b' : List UInt8) : (equalIn 10000 59 (.agg #[.string ⟨a.toArray⟩, .string ⟨b.toArray⟩]) (.agg #[.string ⟨a'.toArray⟩, .string ⟨b'.toArray⟩])).run Try.prog W =
    .ok (decide (((⟨a⟩, ⟨b⟩) : Fld) = (⟨a'⟩, ⟨b'⟩))) W := by
  have u9 := Try.underlying9
  have hS : Try.prog.underlying 59 = some (.struct (Try.prog.fieldsOf 59)) := by kernel_rfl
  have hp : Try.prog.stoodInHeld 59 = false := by kernel_rfl
  rw [show (10000 : Nat) = 9999 + 1 from rfl, run_equalIn_agg W 9999 59 _ _ hS hp]
  simp only [Program.fieldsOf, Try.underlying59]
  go_simp
  by_cases h1 : a = a' <;> by_cases h2 : b = b' <;> simp [h1, h2]
theorem guard_fld (W : World) (op : BinOp) (x y : Operand) (a b : Array Value) : (eqGuard op 59 x y (.agg a) (.agg b)).run Try.prog W = .ok () W := run_eqGuard_agg W op _ x y a b (by kernel_rfl)
theorem neq_fld (W : World) (a b a' b' : List UInt8) : (binOp .neq 59 (.agg #[.string ⟨a.toArray⟩, .string ⟨b.toArray⟩]) (.agg #[.string ⟨a'.toArray⟩, .string ⟨b'.toArray⟩])).run Try.prog W =
    .ok (.bool (!decide (((⟨a⟩, ⟨b⟩) : Fld) = (⟨a'⟩, ⟨b'⟩)))) W := by
  rw [run_neq_struct, equal_fld]
  rfl

set_option maxHeartbeats 3200000 in
set_option maxRecDepth 100000 in
theorem eqfld_any (w : World) (u v : Value) (l m : List Fld) (hu : SL w (Bw w) u l) (hv : SL w (Bw w) v m) :
    Calls Try.prog 56 #[u, v] w fun e w' => e = .returned (.bool (decide (l = m))) ∧ Ext w w' := by
  obtain ⟨A, c, rfl, hc, hm⟩ := hu.form
  obtain ⟨A', c', rfl, hc', hm'⟩ := hv.form
  have hml : (l.length : Int) ≤ 9223372036854775807 := by unfold maxLen at hm; omega
  have Hu := Lib.hid hu
  have Hv := Lib.hid hv
  clear hu hv hm hm'
  by_cases hl : l.length = m.length
  · have tl : ((l.length : Int) != (m.length : Int)) = false := by simp [hl]
    have hle : l.length ≤ m.length := by omega
    have hge : m.length ≤ l.length := by omega
    have Hl := Lib.hid hl
    clear hl
    go_enter Try.func56, Try.ntmps56
    go_wp2_with fail
    go_loopw [13] (fun i wr => ∃ k : Nat, i = .int .i64 k ∧ k ≤ l.length ∧ l.take k = m.take k ∧ Ext w wr) (fun i _ => l.length - (intOf i).toNat)
    case atStart => exact ⟨0, rfl, Nat.zero_le _, rfl, Below.refl _ _⟩
    case round =>
      obtain ⟨k, rfl, hk, heq, hx⟩ := hrel
      have Heq := Lib.hid heq
      have Hx := Lib.hid hx
      clear heq
      by_cases hlt : k < l.length
      · have hklt : (k : Int) < l.length := by omega
        have hkm : (k : Int) < m.length := by omega
        obtain ⟨ad, rfl, _, d0, d1, _⟩ := (Hu.out.up hx).fld_at hlt
        obtain ⟨ae, rfl, _, e0, e1, _⟩ := (Hv.out.up hx).fld_at (show k < m.length by omega)
        have hnx : l[k] = m[k] → l.take (k + 1) = m.take (k + 1) := fun h => by rw [take_nextE l hlt, take_nextE m (by omega), Heq.out, h]
        have hne : l[k] ≠ m[k] → l ≠ m := fun h e => by subst e; exact h rfl
        generalize l[k] = N at d0 d1 hnx hne
        generalize m[k] = M at e0 e1 hnx hne
        obtain ⟨⟨a⟩, ⟨b⟩⟩ := N
        obtain ⟨⟨a'⟩, ⟨b'⟩⟩ := M
        dsimp only at d0 d1 e0 e1
        have hq := fun W => neq_fld W a b a' b'
        have Hnx := Lib.hid hnx
        have Hne := Lib.hid hne
        have hgd := guard_fld
        clear hnx hne hx
        by_cases hE : ((⟨a⟩, ⟨b⟩) : Fld) = (⟨a'⟩, ⟨b'⟩)
        · have HE := Lib.hid hE
          simp only [decide_eq_true hE, Bool.not_true] at hq
          clear hE
          go_wp2_with fail
          go_quiet (fail)
          all_goals go_wp2
          all_goals exact ⟨⟨k + 1, rfl, by omega, Hnx.out HE.out, Hx.out.drN _⟩, by simp only [intOf]; omega⟩
        · have HE := Lib.hid (Hne.out hE)
          simp only [decide_eq_false hE, Bool.not_false] at hq
          clear hE
          go_wp2_with fail
          go_quiet (fail)
          all_goals go_wp2
          all_goals go_ret
          all_goals exact ⟨by rw [decide_eq_false HE.out]; rfl, Hx.out.drN _⟩
      · have hklt : ¬(k : Int) < l.length := by omega
        have he : l = m := by
          have := Heq.out
          rw [List.take_of_length_le (by omega), List.take_of_length_le (by omega)] at this
          exact this
        have He := Lib.hid he
        clear he hx
        go_wp2
        go_ret
        exact ⟨by rw [decide_eq_true He.out]; rfl, Hx.out⟩
  · have tl : ((l.length : Int) != (m.length : Int)) = true := by simp; omega
    have He := Lib.hid (show l ≠ m from fun e => hl (by rw [e]))
    clear hl
    go_enter Try.func56, Try.ntmps56
    go_wp2
    go_ret
    exact ⟨by rw [decide_eq_false He.out]; rfl, Below.refl _ _⟩

theorem ev_eq (a b : Int) (l m : List Fld) : decide (((a, l) : Ev) = (b, m)) = (a == b && decide (l = m)) := by
  by_cases h1 : a = b <;> by_cases h2 : l = m <;> simp [h1, h2]

set_option maxHeartbeats 1600000 in
set_option maxRecDepth 100000 in
theorem same_any (w : World) (a b : Int) (u v : Value) (l m : List Fld) (hu : SL w (Bw w) u l) (hv : SL w (Bw w) v m) :
    Calls Try.prog 30 #[.agg #[.int .i64 a, u], .agg #[.int .i64 b, v]] w fun e w' => e = .returned (.bool (decide (((a, l) : Ev) = (b, m)))) ∧ Ext w w' := by
  obtain ⟨A, c, rfl, _⟩ := hu.form
  obtain ⟨A', c', rfl, _⟩ := hv.form
  have Hx0 : Hid (Ext w ((w.alloc (.cells #[.int .i64 a, .slice A l.length c] 40)).alloc (.cells #[.int .i64 b, .slice A' m.length c'] 40))) := Lib.hid (Ext.al (Ext.of_alloc _ _) _)
  have Hu := Lib.hid (hu.up Hx0.out)
  have Hv := Lib.hid (hv.up Hx0.out)
  have he := ev_eq a b l m
  generalize decide (((a, l) : Ev) = (b, m)) = R at he ⊢
  have He := Lib.hid he
  clear he
  clear hu hv
  by_cases hab : a = b
  · have t1 : (a == b) = true := by simpa using hab
    have He2 := Lib.hid (show R = decide (l = m) by rw [He.out, t1, Bool.true_and])
    clear hab
    go_enter Try.func30, Try.ntmps30
    go_wp2_with fail
    refine (eqfld_any _ _ _ l m Hu.out Hv.out).mono ?_
    rintro e w1 ⟨rfl, hx⟩
    have Hx1 := Lib.hid (Ext.trans Hx0.out hx)
    clear hx
    go_wp2
    go_ret
    exact ⟨by rw [He2.out]; rfl, Hx1.out⟩
  · have t1 : (a == b) = false := by simpa using hab
    have He2 := Lib.hid (show R = false by rw [He.out, t1, Bool.false_and])
    clear hab
    go_enter Try.func30, Try.ntmps30
    go_wp2
    go_ret
    exact ⟨by rw [He2.out]; rfl, Hx0.out⟩

set_option maxHeartbeats 3200000 in
set_option maxRecDepth 100000 in
theorem rsame_any (w : World) (a b : Int) (u v : Value) (l m : List Fld) (hu : SL w (Bw w) u l) (hv : SL w (Bw w) v m) :
    Calls Try.prog 20 #[.agg #[.int .i64 a, u], .agg #[.int .i64 b, v]] w fun e w' => e = .returned (.bool (decide (((a, l) : Ev) = (b, m)))) ∧ Ext w w' := by
  obtain ⟨A, c, rfl, hc, hm⟩ := hu.form
  obtain ⟨A', c', rfl, hc', hm'⟩ := hv.form
  have hml : (l.length : Int) ≤ 9223372036854775807 := by unfold maxLen at hm; omega
  have Hx0 : Hid (Ext w ((w.alloc (.cells #[.int .i64 a, .slice A l.length c] 40)).alloc (.cells #[.int .i64 b, .slice A' m.length c'] 40))) := Lib.hid (Ext.al (Ext.of_alloc _ _) _)
  have hS : ∀ W, Ext ((w.alloc (.cells #[.int .i64 a, .slice A l.length c] 40)).alloc (.cells #[.int .i64 b, .slice A' m.length c'] 40)) W → W.cell? ⟨w.heap.size, 1, none⟩ = some (.slice A l.length c) ∧ W.cell? ⟨w.heap.size + 1, 1, none⟩ = some (.slice A' m.length c') := fun W h => by
    have h1 := cell_new w #[.int .i64 a, .slice A l.length c] 40 1 (v := .slice A l.length c) rfl
    have h2 := cell_new (w.alloc (.cells #[.int .i64 a, .slice A l.length c] 40)) #[.int .i64 b, .slice A' m.length c'] 40 1 (v := .slice A' m.length c') rfl
    rw [World.size_alloc] at h2
    exact ⟨Ext.keeps h (Ext.keeps (Ext.of_alloc _ _) h1), Ext.keeps h h2⟩
  have HS := Lib.hid hS
  have Hu := Lib.hid hu
  have Hv := Lib.hid hv
  have he := ev_eq a b l m
  generalize decide (((a, l) : Ev) = (b, m)) = R at he ⊢
  have He := Lib.hid he
  clear he
  clear hu hv hS hm hm'
  by_cases hab : a = b
  · by_cases hl : l.length = m.length
    · have t1 : (a == b) = true := by simpa using hab
      have t1' : (a != b) = false := by simpa using hab
      have He2 := Lib.hid (show R = decide (l = m) by rw [He.out, t1, Bool.true_and])
      have tl : ((l.length : Int) != (m.length : Int)) = false := by simp [hl]
      have hle : l.length ≤ m.length := by omega
      have hge : m.length ≤ l.length := by omega
      clear hab hl t1
      go_enter Try.func20, Try.ntmps20
      go_wp2_with fail
      go_loopw [5] (fun i wr => ∃ k : Nat, i = .int .i64 k ∧ k ≤ l.length ∧ l.take k = m.take k ∧ Ext ((w.alloc (.cells #[.int .i64 a, .slice A l.length c] 40)).alloc (.cells #[.int .i64 b, .slice A' m.length c'] 40)) wr) (fun i _ => l.length - (intOf i).toNat)
      case atStart => exact ⟨0, rfl, Nat.zero_le _, rfl, Below.refl _ _⟩
      case round =>
        obtain ⟨k, rfl, hk, heq, hx⟩ := hrel
        have Heq := Lib.hid heq
        have Hx := Lib.hid hx
        obtain ⟨b1, b2⟩ := HS.out _ hx
        clear heq
        by_cases hlt : k < l.length
        · have hklt : (k : Int) < l.length := by omega
          have hkm : (k : Int) < m.length := by omega
          obtain ⟨ad, rfl, _, d0, d1, _⟩ := (Hu.out.up (Ext.trans Hx0.out hx)).fld_at hlt
          obtain ⟨ae, rfl, _, e0, e1, _⟩ := (Hv.out.up (Ext.trans Hx0.out hx)).fld_at (show k < m.length by omega)
          have hnx : l[k] = m[k] → l.take (k + 1) = m.take (k + 1) := fun h => by rw [take_nextE l hlt, take_nextE m (by omega), Heq.out, h]
          have hne : l[k] ≠ m[k] → l ≠ m := fun h e => by subst e; exact h rfl
          generalize l[k] = N at d0 d1 hnx hne
          generalize m[k] = M at e0 e1 hnx hne
          obtain ⟨⟨a1⟩, ⟨c1⟩⟩ := N
          obtain ⟨⟨a2⟩, ⟨c2⟩⟩ := M
          dsimp only at d0 d1 e0 e1
          have hq := fun W => neq_fld W a1 c1 a2 c2
          have Hnx := Lib.hid hnx
          have Hne := Lib.hid hne
          have hgd := guard_fld
          clear hnx hne hx
          by_cases hE : ((⟨a1⟩, ⟨c1⟩) : Fld) = (⟨a2⟩, ⟨c2⟩)
          · have HE := Lib.hid hE
            simp only [decide_eq_true hE, Bool.not_true] at hq
            clear hE
            go_wp2_with fail
            go_quiet (fail)
            all_goals go_wp2
            all_goals exact ⟨⟨k + 1, rfl, by omega, Hnx.out HE.out, Hx.out.drN _⟩, by simp only [intOf]; omega⟩
          · have HE := Lib.hid (Hne.out hE)
            simp only [decide_eq_false hE, Bool.not_false] at hq
            clear hE
            go_wp2_with fail
            go_quiet (fail)
            all_goals go_wp2
            all_goals go_ret
            all_goals exact ⟨by rw [He2.out, decide_eq_false HE.out]; rfl, Ext.trans Hx0.out (Hx.out.drN _)⟩
        · have hklt : ¬(k : Int) < l.length := by omega
          have he : l = m := by
            have := Heq.out
            rw [List.take_of_length_le (by omega), List.take_of_length_le (by omega)] at this
            exact this
          have He3 := Lib.hid he
          clear he hx
          go_wp2
          go_ret
          exact ⟨by rw [He2.out, decide_eq_true He3.out]; rfl, Ext.trans Hx0.out Hx.out⟩
    · have t1' : (a != b) = false := by simpa using hab
      have tl : ((l.length : Int) != (m.length : Int)) = true := by simp; omega
      have He2 := Lib.hid (show R = false by rw [He.out, decide_eq_false (fun e => hl (by rw [e])), Bool.and_false])
      clear hl hab
      go_enter Try.func20, Try.ntmps20
      go_wp2
      go_ret
      exact ⟨by rw [He2.out]; rfl, Hx0.out⟩
  · have t1' : (a != b) = true := by simpa using hab
    have t1 : (a == b) = false := by simpa using hab
    have He2 := Lib.hid (show R = false by rw [He.out, t1, Bool.false_and])
    clear hab t1
    go_enter Try.func20, Try.ntmps20
    go_wp2
    go_ret
    exact ⟨by rw [He2.out]; rfl, Hx0.out⟩

end Go.Proofs.Ytbnjhpknagkiaaa
