/-
  Contract of posting.Same.
  Conditions: those of each statement.
-/
import Derived.Test.YtccmhjlniljhcaaEq
namespace Go.Proofs.Ytccmhjlniljhcaa
open Go.RowKit

set_option maxHeartbeats 1600000 in
set_option maxRecDepth 100000 in
theorem same1_any (w : World) (d d2 : Int) (u u2 : Value) (ps ps2 : List Int) (hu : SL w (Bw w) u ps) (hv : SL w (Bw w) u2 ps2) :
    Calls Try.prog 45 #[.agg #[.int .i64 d, u], .agg #[.int .i64 d2, u2]] w fun e w' => e = .returned (.bool (decide (((d, ps) : Post) = (d2, ps2)))) ∧ Ext w w' := by
  obtain ⟨A, c, rfl, _, _⟩ := hu.form
  obtain ⟨A', c', rfl, _, _⟩ := hv.form
  have Hu := Lib.hid hu
  have Hv := Lib.hid hv
  clear hu hv
  go_enter Try.func45, Try.ntmps45
  by_cases hd : d = d2
  · have t : (d == d2) = true := by simp [hd]
    have Hd := Lib.hid hd
    clear hd
    go_wp2_with fail
    have hx : Ext w ((w.alloc (.cells #[.int .i64 d, .slice A ps.length c] 43)).alloc (.cells #[.int .i64 d2, .slice A' ps2.length c'] 43)) := Ext.al (Ext.of_alloc w _) _
    refine (equali_any _ _ _ ps ps2 (SL.up Hu.out hx) (SL.up Hv.out hx)).mono ?_
    rintro e w1 ⟨rfl, hx1⟩
    have Hx := Lib.hid (Ext.trans hx hx1)
    clear hx hx1
    by_cases hp : ps = ps2
    · have Hp := Lib.hid hp
      rw [decide_eq_true hp]
      clear hp
      go_wp2
      go_ret
      exact ⟨by rw [Hd.out, Hp.out, decide_eq_true rfl]; rfl, Hx.out⟩
    · have Hp := Lib.hid hp
      rw [decide_eq_false hp]
      clear hp
      go_wp2
      go_ret
      exact ⟨by rw [decide_eq_false (fun h => Hp.out (by injection h))]; rfl, Hx.out⟩
  · have t : (d == d2) = false := by simp [hd]
    have Hd := Lib.hid hd
    clear hd
    go_wp2
    go_ret
    exact ⟨by rw [decide_eq_false (fun h => Hd.out (by injection h))]; rfl, Ext.al (Ext.of_alloc w _) _⟩

set_option maxHeartbeats 3200000 in
set_option maxRecDepth 100000 in
theorem equalf_any (w : World) (u v : Value) (l m : List Post) (hu : SL w (Bw w) u l) (hv : SL w (Bw w) v m) :
    Calls Try.prog 44 #[u, v, .func (.func 45) #[] #[]] w fun e w' => e = .returned (.bool (decide (l = m))) ∧ Ext w w' := by
  obtain ⟨A, c, rfl, hc, hm⟩ := hu.form
  obtain ⟨A', c', rfl, hc', hm'⟩ := hv.form
  have hml : (l.length : Int) ≤ 9223372036854775807 := by unfold maxLen at hm; omega
  have Hu := Lib.hid hu
  have Hv := Lib.hid hv
  clear hu hv hm hm'
  go_enter Try.func44, Try.ntmps44
  by_cases hl : l.length = m.length
  · have tl : ((l.length : Int) != (m.length : Int)) = false := by simp [hl]
    have Hl := Lib.hid hl
    clear hl
    go_wp2_with fail
    go_loopw [17] (fun i wr => ∃ k : Nat, i = .int .i64 k ∧ k ≤ l.length ∧ l.take k = m.take k ∧ Ext w wr) (fun i _ => l.length - (intOf i).toNat)
    case atStart => exact ⟨0, rfl, Nat.zero_le _, rfl, Below.refl _ _⟩
    case round =>
      obtain ⟨k, rfl, hk, ht, hx⟩ := hrel
      have Hx := Lib.hid hx
      have Ht := Lib.hid ht
      by_cases hlt : k < l.length
      · have hlt2 : k < m.length := by have := Hl.out; omega
        have hk2 : (k : Int) < (m.length : Int) := by omega
        obtain ⟨ad, u, rfl, _, hc0, hc1, hu, h6⟩ := (Hu.out.up hx).post_at hlt
        obtain ⟨ad2, u2, rfl, _, hd0, hd1, hv, _⟩ := (Hv.out.up hx).post_at hlt2
        have hklt : (k : Int) < l.length := by omega
        have htl := take_next l hlt
        have htm := take_next m hlt2
        have hll : l = m → l[k] = m[k] := fun h => by subst h; rfl
        generalize l[k] = N at hc0 hc1 hu h6 htl hll
        generalize m[k] = N2 at hd0 hd1 hv htm hll
        obtain ⟨d, ps⟩ := N
        obtain ⟨d2, ps2⟩ := N2
        dsimp only at hc0 hc1 hu h6 hd0 hd1 hv
        obtain ⟨Au, cu, rfl, _, _⟩ := hu.form
        obtain ⟨Av, cv, rfl, _, _⟩ := hv.form
        have HU := Lib.hid hu
        have HV := Lib.hid hv
        have Htl := Lib.hid htl
        have Htm := Lib.hid htm
        have Hll := Lib.hid hll
        have hx1 := Ext.of_alloc wr (.cells #[.int .i64 d, .slice Au ps.length cu] 43)
        have q0 := Ext.keeps hx1 hd0
        have q1 := Ext.keeps hx1 hd1
        have hx2 : Ext wr ((wr.alloc (.cells #[.int .i64 d, .slice Au ps.length cu] 43)).alloc (.cells #[.int .i64 d2, .slice Av ps2.length cv] 43)) := Ext.al hx1 _
        have Hx2 := Lib.hid hx2
        clear hu hv hx ht htl htm hll h6 hx1 hx2
        go_wp2_with fail
        refine (same1_any _ d d2 _ _ ps ps2 (SL.up HU.out Hx2.out) (SL.up HV.out Hx2.out)).mono ?_
        rintro e w1 ⟨rfl, hx1⟩
        have Hx1 := Lib.hid (Ext.trans Hx.out (Ext.trans Hx2.out hx1))
        clear hx1
        by_cases he : ((d, ps) : Post) = (d2, ps2)
        · rw [decide_eq_true he]
          have He := Lib.hid he
          clear he
          go_wp2_with fail
          go_roundw
          case rel => exact ⟨k + 1, rfl, by omega, by rw [Htl.out, Htm.out, Ht.out, He.out], Hx1.out⟩
          case measure => simp only [intOf]; omega
        · rw [decide_eq_false he]
          have He := Lib.hid he
          clear he
          go_wp2
          go_ret
          exact ⟨by rw [decide_eq_false (fun h => He.out (Hll.out h))]; rfl, Hx1.out⟩
      · have hklt : ¬(k : Int) < l.length := by omega
        have hd : decide (l = m) = true := decide_eq_true (by
          have := Hl.out
          have h2 := Ht.out
          rw [List.take_of_length_le (by omega), List.take_of_length_le (by omega)] at h2
          exact h2)
        have Hd := Lib.hid hd
        clear hd hx ht
        go_wp2
        go_ret
        exact ⟨by rw [Hd.out]; rfl, Hx.out⟩
  · have tl : ((l.length : Int) != (m.length : Int)) = true := by rw [bne_iff_ne]; omega
    have hd : decide (l = m) = false := decide_eq_false (fun h => hl (by rw [h]))
    have Hd := Lib.hid hd
    clear hd hl
    go_wp2
    go_ret
    exact ⟨by rw [Hd.out]; rfl, Below.refl _ _⟩

theorem same_any (w : World) (u v : Value) (l m : List Post) (hu : SL w (Bw w) u l) (hv : SL w (Bw w) v m) :
    Calls Try.prog 25 #[u, v] w fun e w' => e = .returned (.bool (decide (l = m))) ∧ Ext w w' := by
  have Hu := Lib.hid hu
  have Hv := Lib.hid hv
  clear hu hv
  go_enter Try.func25, Try.ntmps25
  go_wp2_with fail
  refine (equalf_any w u v l m Hu.out Hv.out).mono ?_
  rintro e w1 ⟨rfl, hx⟩
  go_wp2
  go_ret
  exact ⟨rfl, hx⟩

end Go.Proofs.Ytccmhjlniljhcaa
