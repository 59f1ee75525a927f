/-
  Contracts of the law's same, stored.Same, the reference's SameDocs.
  Conditions: none.
-/
import Derived.Test.YtnajmpkdeenkbaaEh
namespace Go.Proofs.Ytnajmpkdeenkbaa
open Go.RowKit Go.Op

set_option maxHeartbeats 1600000 in
set_option maxRecDepth 100000 in
theorem lsame_any (w : World) (s t a b : Int) (u v : Value) (l m : List Fld) (hu : SL w (Bw w) u l) (hv : SL w (Bw w) v m) :
    Calls Try.prog 23 #[.agg #[.int .i64 s, .int .i64 a, u], .agg #[.int .i64 t, .int .i64 b, v]] w fun e w' => e = .returned (.bool (decide (((s, a, l) : Doc) = (t, b, m)))) ∧ Ext w w' := by
  obtain ⟨A, c, rfl, _⟩ := hu.form
  obtain ⟨A', c', rfl, _⟩ := hv.form
  have Hx0 : Hid (Ext w ((w.alloc (.cells #[.int .i64 s, .int .i64 a, .slice A l.length c] 45)).alloc (.cells #[.int .i64 t, .int .i64 b, .slice A' m.length c'] 45))) := Lib.hid (Ext.al (Ext.of_alloc _ _) _)
  have Hu := Lib.hid (hu.up Hx0.out)
  have Hv := Lib.hid (hv.up Hx0.out)
  have he := doc_eq s t (a, l) (b, m)
  generalize decide (((s, a, l) : Doc) = (t, b, m)) = R at he ⊢
  have He := Lib.hid he
  clear he hu hv
  by_cases hab : s = t
  · have t1 : (s == t) = true := by simpa using hab
    have He2 := Lib.hid (show R = (decide (a = b) && decide (l = m)) by rw [He.out, t1, Bool.true_and, ev_eq, Bool.beq_eq_decide_eq])
    clear hab
    go_enter Try.func23, Try.ntmps23
    go_wp2_with fail
    refine (rsame_any _ _ _ _ _ l m Hu.out Hv.out).mono ?_
    rintro e w1 ⟨rfl, hx⟩
    have Hx1 := Lib.hid (Ext.trans Hx0.out hx)
    clear hx
    go_wp2
    go_ret
    exact ⟨by rw [He2.out]; rfl, Hx1.out⟩
  · have t1 : (s == t) = false := by simpa using hab
    have He2 := Lib.hid (show R = false by rw [He.out, t1, Bool.false_and])
    clear hab
    go_enter Try.func23, Try.ntmps23
    go_wp2
    go_ret
    exact ⟨by rw [He2.out]; rfl, Hx0.out⟩

set_option maxHeartbeats 1600000 in
set_option maxRecDepth 100000 in
theorem ssame1_any (w : World) (s t a b : Int) (u v : Value) (l m : List Fld) (hu : SL w (Bw w) u l) (hv : SL w (Bw w) v m) :
    Calls Try.prog 41 #[.agg #[.int .i64 s, .int .i64 a, u], .agg #[.int .i64 t, .int .i64 b, v]] w fun e w' => e = .returned (.bool (decide (((s, a, l) : Doc) = (t, b, m)))) ∧ Ext w w' := by
  obtain ⟨A, c, rfl, _⟩ := hu.form
  obtain ⟨A', c', rfl, _⟩ := hv.form
  have Hx0 : Hid (Ext w ((w.alloc (.cells #[.int .i64 s, .int .i64 a, .slice A l.length c] 45)).alloc (.cells #[.int .i64 t, .int .i64 b, .slice A' m.length c'] 45))) := Lib.hid (Ext.al (Ext.of_alloc _ _) _)
  have Hu := Lib.hid (hu.up Hx0.out)
  have Hv := Lib.hid (hv.up Hx0.out)
  have he := doc_eq s t (a, l) (b, m)
  generalize decide (((s, a, l) : Doc) = (t, b, m)) = R at he ⊢
  have He := Lib.hid he
  clear he hu hv
  by_cases hab : s = t
  · have t1 : (s == t) = true := by simpa using hab
    have He2 := Lib.hid (show R = (decide (a = b) && decide (l = m)) by rw [He.out, t1, Bool.true_and, ev_eq, Bool.beq_eq_decide_eq])
    clear hab
    go_enter Try.func41, Try.ntmps41
    go_wp2_with fail
    refine (same_any _ _ _ _ _ l m Hu.out Hv.out).mono ?_
    rintro e w1 ⟨rfl, hx⟩
    have Hx1 := Lib.hid (Ext.trans Hx0.out hx)
    clear hx
    go_wp2
    go_ret
    exact ⟨by rw [He2.out]; rfl, Hx1.out⟩
  · have t1 : (s == t) = false := by simpa using hab
    have He2 := Lib.hid (show R = false by rw [He.out, t1, Bool.false_and])
    clear hab
    go_enter Try.func41, Try.ntmps41
    go_wp2
    go_ret
    exact ⟨by rw [He2.out]; rfl, Hx0.out⟩

set_option maxHeartbeats 3200000 in
set_option maxRecDepth 100000 in
theorem sequalf_any (w : World) (u v : Value) (l m : List Doc) (hu : SL w (Bw w) u l) (hv : SL w (Bw w) v m) :
    Calls Try.prog 40 #[u, v, .func (.func 41) #[] #[]] w fun e w' => e = .returned (.bool (decide (l = m))) ∧ Ext w w' := by
  obtain ⟨A, c, rfl, hc, hm⟩ := hu.form
  obtain ⟨A', c', rfl, hc', hm'⟩ := hv.form
  have hml : (l.length : Int) ≤ 9223372036854775807 := by unfold maxLen at hm; omega
  have Hu := Lib.hid hu
  have Hv := Lib.hid hv
  clear hu hv hm hm'
  go_enter Try.func40, Try.ntmps40
  by_cases hl : l.length = m.length
  · have tl : ((l.length : Int) != (m.length : Int)) = false := by simp [hl]
    have Hl := Lib.hid hl
    clear hl
    go_wp2_with fail
    go_loopw [17] (fun i wr => ∃ k : Nat, i = .int .i64 k ∧ k ≤ l.length ∧ l.take k = m.take k ∧ Ext w wr) (fun i _ => l.length - (intOf i).toNat)
    case atStart => exact ⟨0, rfl, Nat.zero_le _, rfl, Below.refl _ _⟩
    case round =>
      obtain ⟨k, rfl, hk, ht, hx⟩ := hrel
      have Hx := Lib.hid hx
      have Ht := Lib.hid ht
      by_cases hlt : k < l.length
      · have hlt2 : k < m.length := by have := Hl.out; omega
        have hk2 : (k : Int) < (m.length : Int) := by omega
        obtain ⟨ad, u, rfl, _, hc0, hc1, hc2, hu, _⟩ := (Hu.out.up hx).doc_at hlt
        obtain ⟨ad2, u2, rfl, _, hd0, hd1, hd2, hv, _⟩ := (Hv.out.up hx).doc_at hlt2
        have hklt : (k : Int) < l.length := by omega
        have htl := take_nextE l hlt
        have htm := take_nextE m hlt2
        have hll : l = m → l[k] = m[k] := fun h => by subst h; rfl
        generalize l[k] = N at hc0 hc1 hc2 hu htl hll
        generalize m[k] = N2 at hd0 hd1 hd2 hv htm hll
        obtain ⟨d, a, ps⟩ := N
        obtain ⟨d2, a2, ps2⟩ := N2
        dsimp only at hc0 hc1 hc2 hu hd0 hd1 hd2 hv
        obtain ⟨Au, cu, rfl, _, _⟩ := hu.form
        obtain ⟨Av, cv, rfl, _, _⟩ := hv.form
        have HU := Lib.hid hu
        have HV := Lib.hid hv
        have Htl := Lib.hid htl
        have Htm := Lib.hid htm
        have Hll := Lib.hid hll
        have hx1 := Ext.of_alloc wr (.cells #[.int .i64 d, .int .i64 a, .slice Au ps.length cu] 45)
        have q0 := Ext.keeps hx1 hd0
        have q1 := Ext.keeps hx1 hd1
        have q2 := Ext.keeps hx1 hd2
        have hx2 : Ext wr ((wr.alloc (.cells #[.int .i64 d, .int .i64 a, .slice Au ps.length cu] 45)).alloc (.cells #[.int .i64 d2, .int .i64 a2, .slice Av ps2.length cv] 45)) := Ext.al hx1 _
        have Hx2 := Lib.hid hx2
        clear hu hv hx ht htl htm hll hx1 hx2
        go_wp2_with fail
        refine (ssame1_any _ d d2 a a2 _ _ ps ps2 (SL.up HU.out Hx2.out) (SL.up HV.out Hx2.out)).mono ?_
        rintro e w1 ⟨rfl, hx1⟩
        have Hx1 := Lib.hid (Ext.trans Hx.out (Ext.trans Hx2.out hx1))
        clear hx1
        by_cases he : ((d, a, ps) : Doc) = (d2, a2, ps2)
        · rw [decide_eq_true he]
          have He := Lib.hid he
          clear he
          go_wp2_with fail
          go_roundw
          case rel => exact ⟨k + 1, rfl, by omega, by rw [Htl.out, Htm.out, Ht.out, He.out], Hx1.out⟩
          case measure => simp only [intOf]; omega
        · rw [decide_eq_false he]
          have He := Lib.hid he
          clear he
          go_wp2
          go_ret
          exact ⟨by rw [decide_eq_false (fun h => He.out (Hll.out h))]; rfl, Hx1.out⟩
      · have hklt : ¬(k : Int) < l.length := by omega
        have hd : decide (l = m) = true := decide_eq_true (by
          have := Hl.out
          have h2 := Ht.out
          rw [List.take_of_length_le (by omega), List.take_of_length_le (by omega)] at h2
          exact h2)
        have Hd := Lib.hid hd
        clear hd hx ht
        go_wp2
        go_ret
        exact ⟨by rw [Hd.out]; rfl, Hx.out⟩
  · have tl : ((l.length : Int) != (m.length : Int)) = true := by rw [bne_iff_ne]; omega
    have hd : decide (l = m) = false := decide_eq_false (fun h => hl (by rw [h]))
    have Hd := Lib.hid hd
    clear hd hl
    go_wp2
    go_ret
    exact ⟨by rw [Hd.out]; rfl, Below.refl _ _⟩

theorem ssame_any (w : World) (u v : Value) (l m : List Doc) (hu : SL w (Bw w) u l) (hv : SL w (Bw w) v m) :
    Calls Try.prog 19 #[u, v] w fun e w' => e = .returned (.bool (decide (l = m))) ∧ Ext w w' := by
  have Hu := Lib.hid hu
  have Hv := Lib.hid hv
  clear hu hv
  go_enter Try.func19, Try.ntmps19
  go_wp2_with fail
  refine (sequalf_any w u v l m Hu.out Hv.out).mono ?_
  rintro e w1 ⟨rfl, hx⟩
  go_wp2
  go_ret
  exact ⟨rfl, hx⟩

end Go.Proofs.Ytnajmpkdeenkbaa
