/-
  Contract of slices.swapRangeCmpFunc over terms.
  Conditions: those of each statement.
  Contract of slices.rotateCmpFunc over terms.
  Conditions: those of each statement.
-/
import Derived.Test.YtbnjhpknagkiaaaUh
import Derived.BigRegion
namespace Go.Proofs.Ytbnjhpknagkiaaa
open Go.RowKit Go.Op

theorem TR.at_ {w : World} {g : Nat} {rs : List Value} {U Z : List Tm} {x : Tm} (h : TR w g rs (U ++ x :: Z)) {i : Nat} (hi : i = U.length) :
    w.cell? ⟨g, i * 2, none⟩ = some (.string ⟨x.1.toArray⟩) ∧ w.cell? ⟨g, i * 2 + 1, none⟩ = some x.2 ∧ w.frozen? ⟨g, i * 2, none⟩ = false ∧ w.frozen? ⟨g, i * 2 + 1, none⟩ = false := by
  subst hi
  have hl : U.length < (U ++ x :: Z).length := by simp
  have e : (U ++ x :: Z)[U.length]'hl = x := by simp
  have := h.cells hl
  rw [e] at this
  exact this
theorem TR.put_ {w : World} {g : Nat} {rs : List Value} {U Z : List Tm} {x : Tm} (h : TR w g rs (U ++ x :: Z)) {i : Nat} (hi : i = U.length) (t : Tm) : TR (put2 w g i t) g rs (U ++ t :: Z) := by
  subst hi
  have hl : U.length < (U ++ x :: Z).length := by simp
  have := h.put hl t
  rw [List.set_append_right _ _ (Nat.le_refl _), Nat.sub_self] at this
  exact this
/-- two terms change places -/
theorem TR.swap {w : World} {g : Nat} {rs : List Value} {U V Z : List Tm} {x y : Tm} (h : TR w g rs (U ++ x :: (V ++ y :: Z))) {i j : Nat} (hi : i = U.length) (hj : j = U.length + 1 + V.length) :
    TR (put2 (put2 w g i y) g j x) g rs (U ++ y :: (V ++ x :: Z)) := by
  have h1 := h.put_ hi y
  rw [show U ++ y :: (V ++ y :: Z) = (U ++ y :: V) ++ y :: Z by simp] at h1
  have h2 := h1.put_ (i := j) (by simp; omega) x
  rw [show (U ++ y :: V) ++ x :: Z = U ++ y :: (V ++ x :: Z) by simp] at h2
  exact h2
theorem TR.swap' {w : World} {g : Nat} {rs : List Value} {U V Z : List Tm} {x y : Tm} (h : TR w g rs (U ++ x :: (V ++ y :: Z))) {i j : Nat} (hi : i = U.length) (hj : j = U.length + 1 + V.length) :
    TR (put2 (put2 w g j x) g i y) g rs (U ++ y :: (V ++ x :: Z)) := by
  rw [show U ++ x :: (V ++ y :: Z) = (U ++ x :: V) ++ y :: Z by simp] at h
  have h1 := h.put_ (i := j) (by simp; omega) x
  rw [show (U ++ x :: V) ++ x :: Z = U ++ x :: (V ++ x :: Z) by simp] at h1
  exact h1.put_ hi y
theorem kept_swap (w : World) (g i j : Nat) (x y : Tm) : Kept (fun k => k = g) w (put2 (put2 w g i y) g j x) := (kept_put2 w g i y).trans (kept_put2 _ g j x)

set_option maxHeartbeats 3200000 in
set_option maxRecDepth 100000 in
theorem swaprange_any (w : World) (g n cap : Nat) (rs : List Value) (P A M B S : List Tm) (htr : TR w g rs (P ++ (A ++ (M ++ (B ++ S))))) (hsA : TmS A) (hsB : TmS B) (hAB : A.length = B.length) (a b m : Nat) (ha : a = P.length) (hb : b = P.length + A.length + M.length) (hm : m = A.length)
    (hn : n = (P ++ (A ++ (M ++ (B ++ S)))).length) (hn2 : n ≤ 1000000) :
    Calls Try.prog 97 #[.slice (some ⟨g, 0, none⟩) n cap, .int .i64 a, .int .i64 b, .int .i64 m, .func (.func 50) #[] #[]] w fun e w' => e = .returned (.tuple #[]) ∧ TR w' g rs (P ++ (B ++ (M ++ (A ++ S)))) ∧ Kept (fun k => k = g) w w' := by
  obtain ⟨ad, had⟩ : ∃ ad : Addr, ad = ⟨g, 0, none⟩ := ⟨_, rfl⟩
  rw [← had]
  have Had := Lib.hid had
  have Htr := Lib.hid htr
  have HsA := Lib.hid hsA
  have HsB := Lib.hid hsB
  have Ha := Lib.hid ha
  have Hb := Lib.hid hb
  have Hm := Lib.hid hm
  have HAB := Lib.hid hAB
  have hbn : b + m ≤ n := by simp only [List.length_append] at hn; omega
  have han : a + m ≤ b := by omega
  clear had htr hsA hsB ha hb hm hAB hn
  go_enter Try.func97, Try.ntmps97
  go_wp2_with fail
  go_loopw [10] (fun i wr => ∃ (k : Nat) (A1 A2 B1 B2 : List Tm), i = .int .i64 k ∧ A = A1 ++ A2 ∧ B = B1 ++ B2 ∧ A1.length = k ∧ B1.length = k ∧ TR wr g rs (P ++ (B1 ++ (A2 ++ (M ++ (A1 ++ (B2 ++ S)))))) ∧ Kept (fun k => k = g) w wr) (fun i _ => m - (intOf i).toNat)
  case atStart => exact ⟨0, [], A, [], B, rfl, rfl, rfl, rfl, rfl, by simpa using Htr.out, Kept.refl _ _⟩
  case round =>
    obtain ⟨k, A1, A2, B1, B2, rfl, hA, hB, hA1, hB1, htr, hkp⟩ := hrel
    have hlA := congrArg List.length hA
    have hlB := congrArg List.length hB
    rw [List.length_append] at hlA hlB
    have e1 := Hm.out
    have e2 := HAB.out
    have HA := Lib.hid hA
    have HB := Lib.hid hB
    have HA1 := Lib.hid hA1
    have HB1 := Lib.hid hB1
    have Htr2 := Lib.hid htr
    have Hkp := Lib.hid hkp
    by_cases hk : k < m
    · have hkm : (k : Int) < m := by omega
      rcases A2 with _ | ⟨x, A2⟩
      · simp at hlA; omega
      rcases B2 with _ | ⟨y, B2⟩
      · simp at hlB; omega
      obtain ⟨xs, xv⟩ := x
      obtain ⟨ys, yv⟩ := y
      obtain ⟨Ax, mx, cx, hxs⟩ : ∃ A m c, xv = Value.slice A m c := HsA.out (xs, xv) (by rw [hA]; simp)
      obtain ⟨Ay, my, cy, hys⟩ : ∃ A m c, yv = Value.slice A m c := HsB.out (ys, yv) (by rw [hB]; simp)
      subst hxs hys
      obtain ⟨I, hI⟩ : ∃ I, I = a + k := ⟨_, rfl⟩
      obtain ⟨J, hJ⟩ : ∃ J, J = b + k := ⟨_, rfl⟩
      have hI2 : I = (P ++ B1).length := by rw [List.length_append, hI, Ha.out, hB1]
      have hlA2 : A2.length + 1 + k = m := by simp only [List.length_cons] at hlA; omega
      have hJ2 : J = (P ++ B1).length + 1 + (A2 ++ (M ++ A1)).length := by
        have := Hb.out
        have := Ha.out
        simp only [List.length_append]
        omega
      have hL : P ++ (B1 ++ ((xs, Value.slice Ax mx cx) :: A2 ++ (M ++ (A1 ++ ((ys, Value.slice Ay my cy) :: B2 ++ S))))) = (P ++ B1) ++ (xs, Value.slice Ax mx cx) :: ((A2 ++ (M ++ A1)) ++ (ys, Value.slice Ay my cy) :: (B2 ++ S)) := by simp
      have htr2 := Htr2.out
      rw [hL] at htr2
      have Htr3 := Lib.hid htr2
      obtain ⟨p0, p1, pf0, pf1⟩ := htr2.at_ hI2
      rw [show (P ++ B1) ++ (xs, Value.slice Ax mx cx) :: ((A2 ++ (M ++ A1)) ++ (ys, Value.slice Ay my cy) :: (B2 ++ S)) = ((P ++ B1) ++ (xs, Value.slice Ax mx cx) :: (A2 ++ (M ++ A1))) ++ (ys, Value.slice Ay my cy) :: (B2 ++ S) by simp] at htr2
      obtain ⟨q0, q1, qf0, qf1⟩ := htr2.at_ (i := J) (by simp only [List.length_append, List.length_cons] at hJ2 ⊢; omega)
      dsimp only at p0 p1 q0 q1
      have HI2 := Lib.hid hI2
      have HJ2 := Lib.hid hJ2
      have hIJ : I < J := by omega
      have hJn : (J : Int) < n := by omega
      have hIn : (I : Int) < n := by omega
      have hwI : (a : Int) + k = I := by omega
      have hwJ : (b : Int) + k = J := by omega
      have hwI2 : IntKind.i64.wrap (I : Int) = I := by rw [IntKind.wrap_i64]; omega
      have hwJ2 : IntKind.i64.wrap (J : Int) = J := by rw [IntKind.wrap_i64]; omega
      have ha1 := add_row Had.out (I * 2)
      have ha2 := add_row Had.out (J * 2)
      have n1 : ¬J * 2 = I * 2 := by omega
      have n2 : ¬J * 2 = I * 2 + 1 := by omega
      have n3 : ¬J * 2 + 1 = I * 2 := by omega
      have n4 : ¬I * 2 = J * 2 := by omega
      have n5 : ¬I * 2 + 1 = J * 2 := by omega
      have n6 : ¬I * 2 = J * 2 + 1 := by omega
      clear hA hB hA1 hB1 htr hkp hlA hlB e1 e2 hL htr2 hI hJ hI2 hJ2 hlA2
      go_wp2_with fail
      go_region
      go_wp2
      refine ⟨⟨k + 1, A1 ++ [(xs, Value.slice Ax mx cx)], A2, B1 ++ [(ys, Value.slice Ay my cy)], B2, rfl, by rw [HA.out]; simp, by rw [HB.out]; simp, by simp [HA1.out], by simp [HB1.out], ?_, ?_⟩, by simp only [intOf]; omega⟩
      · have h6 := (Htr3.out.swap HI2.out HJ2.out).ext (Ext.drew _)
        simpa [put2] using h6
      · exact Hkp.out.trans ((kept_swap wr g I J (xs, Value.slice Ax mx cx) (ys, Value.slice Ay my cy)).trans (Ext.kept (Ext.drew _) _))
    · have hkm : ¬(k : Int) < m := by omega
      have hk2 : k = m := by omega
      have hA2 : A2 = [] := List.eq_nil_of_length_eq_zero (by omega)
      have hB2 : B2 = [] := List.eq_nil_of_length_eq_zero (by omega)
      subst hA2 hB2
      have HZ : Hid (TR wr g rs (P ++ (B ++ (M ++ (A ++ S))))) := Lib.hid (by rw [hA, hB]; simpa using htr)
      clear hA hB hA1 hB1 htr hkp hlA hlB e1 e2
      go_wp2
      go_end0
      exact ⟨rfl, HZ.out, Hkp.out⟩


theorem TmS.sub {l m : List Tm} (h : TmS l) (hs : ∀ t ∈ m, t ∈ l) : TmS m := fun t ht => h t (hs t ht)
/-- a row parted at a place -/
theorem part (l : List Tm) {k : Nat} (hk : k ≤ l.length) : ∃ a b, l = a ++ b ∧ a.length = k := ⟨l.take k, l.drop k, (List.take_append_drop k l).symm, by rw [List.length_take]; omega⟩

set_option maxHeartbeats 3200000 in
set_option maxRecDepth 100000 in
theorem rotate_any (w : World) (g n cap : Nat) (rs : List Value) (P X Y S : List Tm) (htr : TR w g rs (P ++ (X ++ (Y ++ S)))) (hsX : TmS X) (hsY : TmS Y) (hX0 : 0 < X.length) (hY0 : 0 < Y.length) (a m b : Nat) (ha : a = P.length) (hm : m = P.length + X.length) (hb : b = P.length + X.length + Y.length)
    (hn : n = (P ++ (X ++ (Y ++ S))).length) (hn2 : n ≤ 1000000) :
    Calls Try.prog 94 #[.slice (some ⟨g, 0, none⟩) n cap, .int .i64 a, .int .i64 m, .int .i64 b, .func (.func 50) #[] #[]] w fun e w' => e = .returned (.tuple #[]) ∧ TR w' g rs (P ++ (Y ++ (X ++ S))) ∧ Kept (fun k => k = g) w w' := by
  have hbn : b ≤ n := by simp only [List.length_append] at hn; omega
  have hmn : m ≤ n := by omega
  have hma : (m : Int) - a = (X.length : Int) := by omega
  have hbm : (b : Int) - m = (Y.length : Int) := by omega
  have hXn : X.length ≤ m := by omega
  have hYn : m + Y.length ≤ n := by omega
  have hwX : IntKind.i64.wrap (X.length : Int) = X.length := by rw [IntKind.wrap_i64]; omega
  have hwY : IntKind.i64.wrap (Y.length : Int) = Y.length := by rw [IntKind.wrap_i64]; omega
  have Htr := Lib.hid htr
  have HsX := Lib.hid hsX
  have HsY := Lib.hid hsY
  have Hm := Lib.hid hm
  have Hn := Lib.hid hn
  have HX0 := Lib.hid hX0
  have HY0 := Lib.hid hY0
  clear htr hsX hsY ha hm hb hn hX0 hY0
  go_enter Try.func94, Try.ntmps94
  go_wp2_with fail
  go_loopw [10, 11] (fun iv jv wr => ∃ (i j : Nat) (P1 X1 Y1 S1 : List Tm), iv = .int .i64 i ∧ jv = .int .i64 j ∧ i = X1.length ∧ j = Y1.length ∧ 0 < i ∧ 0 < j ∧ TmS X1 ∧ TmS Y1 ∧ P1.length + i = m ∧ (P1 ++ (X1 ++ (Y1 ++ S1))).length = n ∧ P1 ++ (Y1 ++ (X1 ++ S1)) = P ++ (Y ++ (X ++ S)) ∧ TR wr g rs (P1 ++ (X1 ++ (Y1 ++ S1))) ∧ Kept (fun k => k = g) w wr) (fun iv jv _ => (intOf iv).toNat + (intOf jv).toNat)
  case atStart => exact ⟨X.length, Y.length, P, X, Y, S, rfl, rfl, rfl, rfl, HX0.out, HY0.out, HsX.out, HsY.out, Hm.out.symm, Hn.out.symm, rfl, Htr.out, Kept.refl _ _⟩
  case round =>
    obtain ⟨i, j, P1, X1, Y1, S1, rfl, rfl, hi, hj, hi0, hj0, hsx, hsy, hPm, hlen, heq, htr, hkp⟩ := hrel
    have hbnd : i ≤ m ∧ m + j ≤ n := by simp only [List.length_append] at hlen; omega
    obtain ⟨hbi, hbj⟩ := hbnd
    have Hi := Lib.hid hi
    have Hj := Lib.hid hj
    have HPm := Lib.hid hPm
    have Hlen := Lib.hid hlen
    have Heq := Lib.hid heq
    have Htr2 := Lib.hid htr
    have Hkp := Lib.hid hkp
    have Hsx := Lib.hid hsx
    have Hsy := Lib.hid hsy
    obtain ⟨q, hq⟩ : ∃ q, q + i = m := ⟨m - i, by omega⟩
    have hmi : (m : Int) - i = (q : Int) := by omega
    have hwq : IntKind.i64.wrap (q : Int) = (q : Int) := by rw [IntKind.wrap_i64]; omega
    have hqP : q = P1.length := by omega
    have HqP := Lib.hid hqP
    clear hi hj hPm hlen heq htr hkp hsx hsy hq hqP
    by_cases hij : i = j
    · obtain rfl : i = j := hij
      have HC := Lib.hid (swaprange_any wr g n cap rs P1 X1 [] Y1 S1 (by simpa using Htr2.out) Hsx.out Hsy.out (by rw [← Hi.out, ← Hj.out]) q m i HqP.out (by rw [List.length_nil, ← Hi.out]; have := HPm.out; omega) Hi.out (by rw [← Hlen.out]; simp) hn2)
      have Hbi := Lib.hid hbi
      have Hbj := Lib.hid hbj
      clear hbi hbj hbn hmn hma hbm hXn hYn hwX hwY hj0
      go_wp2_with fail
      refine HC.out.mono ?_
      rintro e w2 ⟨rfl, htr, hk⟩
      go_wp2
      go_end0
      refine ⟨rfl, ?_, Hkp.out.trans hk⟩
      rw [← Heq.out]
      simpa using htr
    · by_cases hgt : j < i
      · obtain ⟨Xa, Xb, hX, hXa⟩ := part X1 (k := j) (by rw [← Hi.out]; omega)
        have hXb : Xb.length + j = i := by have := congrArg List.length hX; rw [List.length_append] at this; have := Hi.out; omega
        have hnew : (i : Int) - j = (Xb.length : Int) := by omega
        have hwn : IntKind.i64.wrap (Xb.length : Int) = Xb.length := by rw [IntKind.wrap_i64]; omega
        have hgti : (j : Int) < i := by omega
        have hne : ((i : Int) != (j : Int)) = true := by simp; omega
        have HX := Lib.hid hX
        have HXa := Lib.hid hXa
        clear hX hXa
        have HC := Lib.hid (swaprange_any wr g n cap rs P1 Xa Xb Y1 S1 (by have := Htr2.out; rw [HX.out] at this; simpa using this) (Hsx.out.sub fun t ht => by rw [HX.out]; simp [ht]) Hsy.out (by rw [HXa.out, ← Hj.out]) q m j HqP.out (by have := HPm.out; have := HqP.out; have := HXa.out; omega) HXa.out.symm (by rw [← Hlen.out, HX.out]; simp) hn2)
        have Hij := Lib.hid hij
        clear hbi hbj hbn hmn hma hbm hXn hYn hwX hwY hij
        go_wp2_with fail
        refine HC.out.mono ?_
        rintro e w2 ⟨rfl, htr, hk⟩
        have Htr3 := Lib.hid htr
        have Hk3 := Lib.hid hk
        clear htr hk
        go_wp2
        refine ⟨⟨Xb.length, j, P1 ++ Y1, Xb, Xa, S1, rfl, rfl, rfl, HXa.out.symm, by omega, hj0, Hsx.out.sub fun t ht => by rw [HX.out]; simp [ht], Hsx.out.sub fun t ht => by rw [HX.out]; simp [ht], ?_, ?_, ?_, by simpa using Htr3.out, Hkp.out.trans Hk3.out⟩, by simp only [intOf]; omega⟩
        · have := HPm.out; have := Hj.out; rw [List.length_append]; omega
        · have := Hlen.out
          rw [HX.out] at this
          simp only [List.length_append] at this ⊢
          omega
        · rw [← Heq.out, HX.out]; simp
      · obtain ⟨Ya, Yb, hY, hYa⟩ := part Y1 (k := j - i) (by rw [← Hj.out]; omega)
        have hYb : Yb.length = i := by have := congrArg List.length hY; rw [List.length_append] at this; have := Hj.out; omega
        have hYa2 : Ya.length + i = j := by omega
        have hnew : (j : Int) - i = (Ya.length : Int) := by omega
        have hwn : IntKind.i64.wrap (Ya.length : Int) = Ya.length := by rw [IntKind.wrap_i64]; omega
        obtain ⟨r, hr⟩ : ∃ r, r + i = m + j := ⟨m + j - i, by omega⟩
        obtain ⟨z, hz⟩ : ∃ z, z = m + j := ⟨_, rfl⟩
        have hmz : (m : Int) + j = (z : Int) := by omega
        have hwz : IntKind.i64.wrap (z : Int) = z := by rw [IntKind.wrap_i64]; omega
        have hri : (z : Int) - i = (r : Int) := by omega
        have hwr : IntKind.i64.wrap (r : Int) = r := by rw [IntKind.wrap_i64]; omega
        have hgti : ¬(j : Int) < i := by omega
        have hne : ((i : Int) != (j : Int)) = true := by simp; omega
        have HY := Lib.hid hY
        have HYa := Lib.hid hYa
        clear hY hYa
        have HC := Lib.hid (swaprange_any wr g n cap rs P1 X1 Ya Yb S1 (by have := Htr2.out; rw [HY.out] at this; simpa using this) Hsx.out (Hsy.out.sub fun t ht => by rw [HY.out]; simp [ht]) (by rw [hYb, ← Hi.out]) q r i HqP.out (by have := HPm.out; have := HqP.out; have := Hi.out; omega) Hi.out (by rw [← Hlen.out, HY.out]; simp) hn2)
        have Hij := Lib.hid hij
        have Hz := Lib.hid hz
        have Hr := Lib.hid hr
        have Hya2 := Lib.hid hYa2
        clear hbi hbj hbn hmn hma hbm hXn hYn hwX hwY hij hz hr hYa2
        go_wp2_with fail
        refine HC.out.mono ?_
        rintro e w2 ⟨rfl, htr, hk⟩
        have Htr3 := Lib.hid htr
        have Hk3 := Lib.hid hk
        clear htr hk
        go_wp2
        refine ⟨⟨i, Ya.length, P1, Yb, Ya, X1 ++ S1, rfl, rfl, hYb.symm, rfl, hi0, by have := Hya2.out; have := Hij.out; omega, Hsy.out.sub fun t ht => by rw [HY.out]; simp [ht], Hsy.out.sub fun t ht => by rw [HY.out]; simp [ht], HPm.out, ?_, ?_, by simpa using Htr3.out, Hkp.out.trans Hk3.out⟩, by have := Hya2.out; simp only [intOf]; omega⟩
        · have := Hlen.out
          rw [HY.out] at this
          simp only [List.length_append] at this ⊢
          omega
        · rw [← Heq.out, HY.out]; simp
end Go.Proofs.Ytbnjhpknagkiaaa
