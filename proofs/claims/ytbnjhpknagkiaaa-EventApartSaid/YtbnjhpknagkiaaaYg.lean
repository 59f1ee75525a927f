/-
  Contracts of slices.stableCmpFunc and slices.SortStableFunc over terms.
  Conditions: at most 400,000 terms.
-/
import Derived.Test.YtbnjhpknagkiaaaYf
namespace Go.Proofs.Ytbnjhpknagkiaaa
open Go.RowKit Go.Op

/-- parted into pieces of k, each sorted; the last one may be shorter -/
inductive Bk (ix : Tm → Nat) (k : Nat) : List Tm → List Tm → Prop
  | last {L X : List Tm} : L.length ≤ k → X.Perm L → So ix X → Bk ix k L X
  | cons {A Z L X : List Tm} : A.length = k → Z.Perm A → So ix Z → Bk ix k L X → Bk ix k (A ++ L) (Z ++ X)
/-- whole pieces, seen from the end -/
inductive Fb (ix : Tm → Nat) (k : Nat) : List Tm → List Tm → Prop
  | nil : Fb ix k [] []
  | snoc {P Q A Z : List Tm} : Fb ix k P Q → A.length = k → Z.Perm A → So ix Z → Fb ix k (P ++ A) (Q ++ Z)
section
variable {ix : Tm → Nat} {k : Nat}
theorem Fb.bk {P Q : List Tm} (h : Fb ix k P Q) : ∀ {R X : List Tm}, Bk ix k R X → Bk ix k (P ++ R) (Q ++ X) := by
  induction h with
  | nil => intro R X h; exact h
  | snoc h h1 h2 h3 ih =>
    intro R X hb
    rw [List.append_assoc, List.append_assoc]
    exact ih (.cons h1 h2 h3 hb)
theorem Fb.perm {P Q : List Tm} (h : Fb ix k P Q) : Q.Perm P := by
  induction h with
  | nil => exact List.Perm.refl _
  | snoc h h1 h2 h3 ih => exact ih.append h2
theorem Bk.perm {L X : List Tm} (h : Bk ix k L X) : X.Perm L := by
  induction h with
  | last h1 h2 h3 => exact h2
  | cons h1 h2 h3 h ih => exact h2.append ih
theorem Bk.cut {L X : List Tm} (h : Bk ix k L X) (hl : k ≤ L.length) : ∃ A B Z Y, L = A ++ B ∧ X = Z ++ Y ∧ A.length = k ∧ Z.Perm A ∧ So ix Z ∧ Bk ix k B Y := by
  cases h with
  | last h1 h2 h3 => exact ⟨L, [], X, [], by simp, by simp, by omega, h2, h3, .last (by simp) (List.Perm.refl _) List.Pairwise.nil⟩
  | cons h1 h2 h3 h => exact ⟨_, _, _, _, rfl, rfl, h1, h2, h3, h⟩
theorem Bk.small {L X : List Tm} (h : Bk ix k L X) (hl : L.length ≤ k) : X.Perm L ∧ So ix X := by
  refine ⟨h.perm, ?_⟩
  cases h with
  | last h1 h2 h3 => exact h3
  | cons h1 h2 h3 h =>
    rename_i A Z L X
    have hL : L.length = 0 := by rw [List.length_append] at hl; omega
    have hX : X.length = 0 := by rw [h.perm.length_eq]; exact hL
    rw [List.eq_nil_of_length_eq_zero hX, List.append_nil]
    exact h3
end
theorem ix_lt {ix : Tm → Nat} {P A B R l Z1 Z2 : List Tm} (hp : l.Pairwise (fun x y => ix x < ix y)) (hl : l = P ++ (A ++ (B ++ R))) (h1 : Z1.Perm A) (h2 : Z2.Perm B) : ∀ x ∈ Z1, ∀ y ∈ Z2, ix x < ix y := by
  intro x hx y hy
  subst hl
  have h3 := (List.pairwise_append.1 (List.pairwise_append.1 hp).2.1).2.2
  exact h3 x (h1.mem_iff.1 hx) y (by simp [h2.mem_iff.1 hy])
theorem ix_mid {ix : Tm → Nat} {P A R l : List Tm} (hp : l.Pairwise (fun x y => ix x < ix y)) (hl : l = P ++ (A ++ R)) : A.Pairwise (fun x y => ix x < ix y) := by
  subst hl
  exact (List.pairwise_append.1 (List.pairwise_append.1 hp).2.1).1

set_option maxHeartbeats 6400000 in
set_option maxRecDepth 100000 in
theorem stable_any (ix : Tm → Nat) (w : World) (g n cap : Nat) (rs : List Value) (l : List Tm) (htr : TR w g rs l) (hs : TmS l) (hp : l.Pairwise (fun x y => ix x < ix y)) (hn : n = l.length) (hn2 : n ≤ 400000) (hc : n ≤ cap) (hc2 : cap ≤ maxLen) :
    Calls Try.prog 70 #[.slice (some ⟨g, 0, none⟩) n cap, .int .i64 n, .func (.func 50) #[] #[]] w fun e w' => e = .returned (.tuple #[]) ∧ ∃ X, X.Perm l ∧ So ix X ∧ TR w' g rs X ∧ Kept (fun k => k = g) w w' := by
  have hn6 : n ≤ 1000000 := by omega
  have Htr := Lib.hid htr
  have Hs := Lib.hid hs
  have Hp := Lib.hid hp
  have Hn := Lib.hid hn
  have Hcm := Lib.hid hc2
  clear htr hs hp hn hc2
  go_enter Try.func70, Try.ntmps70
  go_wp2_with fail
  go_loopw [7, 8] (fun av bv wr => ∃ (a b : Nat) (P Q R : List Tm), av = .int .i64 a ∧ bv = .int .i64 b ∧ b = a + 20 ∧ a ≤ n ∧ a = P.length ∧ l = P ++ R ∧ Fb ix 20 P Q ∧ TR wr g rs (Q ++ R) ∧ Kept (fun k => k = g) w wr) (fun av _ _ => n - (intOf av).toNat)
  case atStart => exact ⟨0, 20, [], [], l, rfl, rfl, rfl, Nat.zero_le _, rfl, rfl, .nil, Htr.out, Kept.refl _ _⟩
  case round =>
    obtain ⟨a, b, P, Q, R, rfl, rfl, hb, han, ha, hl, hfb, htr, hkp⟩ := hrel
    have hQ : Q.length = a := by rw [hfb.perm.length_eq, ha]
    have hlen : n = a + R.length := by rw [Hn.out, hl, List.length_append, ha]
    have Hl := Lib.hid hl
    have Hfb := Lib.hid hfb
    have Htr2 := Lib.hid htr
    have Hkp := Lib.hid hkp
    have Ha := Lib.hid ha
    have HQ := Lib.hid hQ
    clear hl hfb htr hkp ha hQ
    by_cases hbn : b ≤ n
    · have hbi : (b : Int) ≤ n := by omega
      obtain ⟨A, R', hR, hA⟩ := part R (k := 20) (by omega)
      have hi := isort_any wr g n cap rs Q A R' (by rw [← hR]; exact Htr2.out) (Hs.out.sub fun t ht => by rw [Hl.out, hR]; simp [ht]) (by rw [← hR, List.length_append, HQ.out, hlen]) hn6 hc Hcm.out
      rw [hA, HQ.out, ← hb] at hi
      have Hi := Lib.hid hi
      have hfb2 := Hfb.out.snoc hA (isort_perm A) (isort_so A (ix_mid Hp.out (by rw [Hl.out, hR])))
      have Hfb2 := Lib.hid hfb2
      have HR := Lib.hid hR
      have HA := Lib.hid hA
      have Hb := Lib.hid hb
      obtain ⟨b2, hb2⟩ : ∃ b2, b2 = b + 20 := ⟨_, rfl⟩
      have hb20 : (b : Int) + 20 = (b2 : Int) := by omega
      have hb26 : b2 ≤ 1000000 := by omega
      have Hb2 := Lib.hid hb2
      clear hb2
      have Hlen := Lib.hid hlen
      clear hi hfb2 hR hA hb hlen
      go_wp2_with fail
      refine Hi.out.mono ?_
      rintro e w1 ⟨rfl, htr, hk⟩
      have Htr3 := Lib.hid htr
      have Hk3 := Lib.hid hk
      clear htr hk
      go_wp2
      refine ⟨⟨b, b2, P ++ A, Q ++ isort A, R', rfl, rfl, Hb2.out, hbn, by rw [List.length_append, HA.out, ← Ha.out]; exact Hb.out, by rw [Hl.out, HR.out, List.append_assoc], Hfb2.out, by rw [List.append_assoc]; exact Htr3.out, Hkp.out.trans Hk3.out⟩, by have := Hb.out; simp only [intOf]; omega⟩
    · have hbi : ¬(b : Int) ≤ n := by omega
      have hi := isort_any wr g n cap rs Q R [] (by rw [List.append_nil]; exact Htr2.out) (Hs.out.sub fun t ht => by rw [Hl.out]; simp [ht]) (by rw [List.append_nil, List.length_append, HQ.out, hlen]) hn6 hc Hcm.out
      rw [HQ.out, ← hlen, List.append_nil] at hi
      have Hi := Lib.hid hi
      have hbk := Hfb.out.bk (Bk.last (by omega) (isort_perm R) (isort_so R (ix_mid (R := []) Hp.out (by rw [Hl.out, List.append_nil]))))
      rw [← Hl.out] at hbk
      have Hbk := Lib.hid hbk
      clear hi hbk hb hlen Htr2 Hfb
      go_wp2_with fail
      refine Hi.out.mono ?_
      rintro e w1 ⟨rfl, htr, hk⟩
      have Htr3 := Lib.hid htr
      have Hk3 := Lib.hid (Hkp.out.trans hk)
      clear htr hk Hi Hkp
      go_wp2_with fail
      go_loopw [6, 7, 8] (fun kv _ _ wq => ∃ (k : Nat) (X : List Tm), kv = .int .i64 k ∧ 20 ≤ k ∧ k ≤ 800000 ∧ Bk ix k l X ∧ TR wq g rs X ∧ Kept (fun k => k = g) w wq) (fun kv _ _ _ => n - (intOf kv).toNat)
      case atStart => exact ⟨20, _, rfl, Nat.le_refl _, by decide, Hbk.out, Htr3.out, Hk3.out⟩
      case round =>
        rename World => wq
        obtain ⟨k, X, rfl, hk20, hk8, hbk, htr, hkp⟩ := hrel
        have Hbk2 := Lib.hid hbk
        have Htr4 := Lib.hid htr
        have Hk4 := Lib.hid hkp
        clear hbk htr hkp Htr3 Hk3 Hbk
        by_cases hkn : k < n
        · have hkni : (k : Int) < n := by omega
          obtain ⟨kk, hkk⟩ : ∃ kk, kk = 2 * k := ⟨_, rfl⟩
          have h2k : 2 * (k : Int) = (kk : Int) := by omega
          have hk2 : (k : Int) * 2 = (kk : Int) := by omega
          have hkk6 : kk ≤ 800000 := by omega
          have Hkk := Lib.hid hkk
          clear hkk hkni
          have hkni : (k : Int) < n := by omega
          go_wp2_with fail
          go_loopw [7, 8] (fun av bv wz => ∃ (a b : Nat) (P Q R Y : List Tm), av = .int .i64 a ∧ bv = .int .i64 b ∧ b = a + kk ∧ a ≤ n ∧ a = P.length ∧ l = P ++ R ∧ Fb ix kk P Q ∧ Bk ix k R Y ∧ TR wz g rs (Q ++ Y) ∧ Kept (fun k => k = g) w wz) (fun av _ _ => n - (intOf av).toNat)
          case atStart => exact ⟨0, kk, [], [], l, X, rfl, rfl, by omega, Nat.zero_le _, rfl, rfl, .nil, Hbk2.out, Htr4.out, Hk4.out⟩
          case round =>
            rename World => wz
            obtain ⟨a, b, P, Q, R, Y, rfl, rfl, hb, han, ha, hl, hfb, hbk, htr, hkp⟩ := hrel
            have hQ : Q.length = a := by rw [hfb.perm.length_eq, ha]
            have hlen : n = a + R.length := by rw [Hn.out, hl, List.length_append, ha]
            have hYR : Y.length = R.length := hbk.perm.length_eq
            have hsY : TmS Y := Hs.out.sub fun t ht => by rw [hl]; simp [hbk.perm.mem_iff.1 ht]
            obtain ⟨m, hm⟩ : ∃ m, m = a + k := ⟨_, rfl⟩
            have hmi : (a : Int) + k = (m : Int) := by omega
            have hm6 : m ≤ 2000000 := by omega
            have hb6 : b ≤ 2000000 := by omega
            have Hl2 := Lib.hid hl
            have Hfb := Lib.hid hfb
            have Hbk3 := Lib.hid hbk
            have Htr5 := Lib.hid htr
            have Hk5 := Lib.hid hkp
            have Ha2 := Lib.hid ha
            have HQ2 := Lib.hid hQ
            have HsY := Lib.hid hsY
            have HYR := Lib.hid hYR
            have Hlen := Lib.hid hlen
            have Hm := Lib.hid hm
            have Hb := Lib.hid hb
            clear hl hfb hbk htr hkp ha hQ hsY hYR hlen hm hb Htr4 Hk4 Hbk2
            by_cases hbn2 : b ≤ n
            · have hbi2 : (b : Int) ≤ n := by omega
              have hkl : kk ≤ R.length := by have := Hlen.out; have := Hb.out; omega
              obtain ⟨A, R1, Z1, Y1, hR, hY, hA, hz1, hso1, hbk1⟩ := Hbk3.out.cut (by have := Hkk.out; omega)
              have hR1 : R1.length + k = R.length := by have := congrArg List.length hR; rw [List.length_append] at this; omega
              obtain ⟨B, R2, Z2, Y2, hR', hY', hB, hz2, hso2, hbk2⟩ := hbk1.cut (by have := Hkk.out; omega)
              have hl1 : Z1.length = k := by rw [hz1.length_eq, hA]
              have hl2 : Z2.length = k := by rw [hz2.length_eq, hB]
              have hC := sym_any ix g n cap rs hn6 (Z1.length + Z2.length) wz Q Z1 Z2 Y2 (Nat.le_refl _) (by have := Htr5.out; rw [hY, hY'] at this; exact this) (HsY.out.sub fun t ht => by rw [hY]; simp [ht]) (HsY.out.sub fun t ht => by rw [hY, hY']; simp [ht]) hso1 hso2 (ix_lt Hp.out (by rw [Hl2.out, hR, hR']) hz1 hz2) (by omega) (by omega) a m b HQ2.out.symm (by rw [hl1]; exact Hm.out) (by rw [hl2]; have := Hm.out; have := Hb.out; have := Hkk.out; omega) (by
                have e1 := congrArg List.length hY
                have e2 := congrArg List.length hY'
                have e3 := Hlen.out
                have e4 := HYR.out
                have e5 := HQ2.out
                simp only [List.length_append] at e1 e2 ⊢
                omega)
              have HC := Lib.hid hC
              have Hfin : Hid (∀ Z : List Tm, Z.Perm (Z1 ++ Z2) → So ix Z → Fb ix kk (P ++ (A ++ B)) (Q ++ Z)) := Lib.hid fun Z h1 h2 => Hfb.out.snoc (by rw [List.length_append, hA, hB]; have := Hkk.out; omega) (h1.trans (hz1.append hz2)) h2
              have HRR : Hid (R = (A ++ B) ++ R2) := Lib.hid (by rw [hR, hR', List.append_assoc])
              have HAB : Hid ((A ++ B).length = kk) := Lib.hid (by rw [List.length_append, hA, hB]; have := Hkk.out; omega)
              have Hbk4 := Lib.hid hbk2
              clear hR hY hA hz1 hso1 hbk1 hR' hY' hB hz2 hso2 hbk2 hl1 hl2 hC hR1 hkl Hfb Hbk3 Htr5 HsY
              obtain ⟨b2, hb2⟩ : ∃ b2, b2 = b + kk := ⟨_, rfl⟩
              have hbkk : (b : Int) + kk = (b2 : Int) := by omega
              have hb26 : b2 ≤ 3000000 := by omega
              have Hb2 := Lib.hid hb2
              clear hb2
              go_wp2_with fail
              refine HC.out.mono ?_
              rintro e w5 ⟨rfl, Z, hp5, hs5, htr5, hk5⟩
              have Hfb5 := Lib.hid (Hfin.out Z hp5 hs5)
              have Htr6 := Lib.hid htr5
              have Hk6 := Lib.hid hk5
              clear htr5 hk5 hp5 hs5
              go_wp2
              refine ⟨⟨b, b2, P ++ (A ++ B), Q ++ Z, R2, Y2, rfl, rfl, Hb2.out, hbn2, by rw [List.length_append, HAB.out, ← Ha2.out]; exact Hb.out, by rw [Hl2.out, HRR.out, ← List.append_assoc], Hfb5.out, Hbk4.out, by rw [List.append_assoc]; exact Htr6.out, Hk5.out.trans Hk6.out⟩, by have := Hb.out; have := Hkk.out; simp only [intOf]; omega⟩
            · have hbi2 : ¬(b : Int) ≤ n := by omega
              by_cases hmn : m < n
              · have hmni : (m : Int) < n := by omega
                have hkl : k < R.length := by have := Hlen.out; have := Hm.out; omega
                have hkl2 : R.length < kk := by have := Hlen.out; have := Hb.out; omega
                obtain ⟨A, R1, Z1, Y1, hR, hY, hA, hz1, hso1, hbk1⟩ := Hbk3.out.cut (by omega)
                have hR1 : R1.length + k = R.length := by have := congrArg List.length hR; rw [List.length_append] at this; omega
                obtain ⟨hz2, hso2⟩ := hbk1.small (by have := Hkk.out; omega)
                have hl1 : Z1.length = k := by rw [hz1.length_eq, hA]
                have hl2 : Y1.length = R1.length := hz2.length_eq
                have hC := sym_any ix g n cap rs hn6 (Z1.length + Y1.length) wz Q Z1 Y1 [] (Nat.le_refl _) (by have := Htr5.out; rw [hY] at this; rw [List.append_nil]; exact this) (HsY.out.sub fun t ht => by rw [hY]; simp [ht]) (HsY.out.sub fun t ht => by rw [hY]; simp [ht]) hso1 hso2 (ix_lt (R := []) Hp.out (by rw [Hl2.out, hR, List.append_nil]) hz1 hz2) (by omega) (by omega) a m n HQ2.out.symm (by rw [hl1]; exact Hm.out) (by rw [hl2]; have := Hm.out; have := Hlen.out; omega) (by
                  have e1 := congrArg List.length hY
                  have e3 := Hlen.out
                  have e4 := HYR.out
                  have e5 := HQ2.out
                  simp only [List.length_append, List.length_nil] at e1 ⊢
                  omega)
                have HC := Lib.hid hC
                have Hfin : Hid (∀ Z : List Tm, Z.Perm (Z1 ++ Y1) → So ix Z → Bk ix kk l (Q ++ Z)) := Lib.hid fun Z h1 h2 => by
                  rw [Hl2.out]
                  exact Hfb.out.bk (.last (by omega) (by rw [hR]; exact h1.trans (hz1.append hz2)) h2)
                clear hR hY hA hz1 hso1 hbk1 hz2 hso2 hl1 hl2 hC hR1 hkl hkl2 Hfb Hbk3 Htr5 HsY
                go_wp2_with fail
                refine HC.out.mono ?_
                rintro e w5 ⟨rfl, Z, hp5, hs5, htr5, hk5⟩
                have Hfb5 := Lib.hid (Hfin.out Z hp5 hs5)
                have Htr6 := Lib.hid htr5
                have Hk6 := Lib.hid hk5
                clear htr5 hk5 hp5 hs5
                go_wp2
                refine ⟨⟨kk, Q ++ Z, rfl, by have := Hkk.out; omega, hkk6, Hfb5.out, by simpa using Htr6.out, Hk5.out.trans Hk6.out⟩, by have := Hkk.out; simp only [intOf]; omega⟩
              · have hmni : ¬(m : Int) < n := by omega
                have hbk4 : Bk ix kk l (Q ++ Y) := by
                  obtain ⟨hz2, hso2⟩ := Hbk3.out.small (by have := Hlen.out; have := Hm.out; omega)
                  rw [Hl2.out]
                  exact Hfb.out.bk (.last (by have := Hlen.out; have := Hb.out; omega) hz2 hso2)
                have Hbk4 := Lib.hid hbk4
                clear hbk4 Hfb Hbk3 HsY
                go_wp2
                refine ⟨⟨kk, Q ++ Y, rfl, by have := Hkk.out; omega, hkk6, Hbk4.out, Htr5.out, Hk5.out⟩, by have := Hkk.out; simp only [intOf]; omega⟩
        · have hkni : ¬(k : Int) < n := by omega
          have hfin := Hbk2.out.small (by rw [← Hn.out]; omega)
          have Hfin := Lib.hid hfin
          clear hfin
          go_wp2
          go_end0
          exact ⟨rfl, X, Hfin.out.1, Hfin.out.2, Htr4.out, Hk4.out⟩
set_option maxHeartbeats 1600000 in
set_option maxRecDepth 100000 in
theorem sort_any (ix : Tm → Nat) (w : World) (g n cap : Nat) (rs : List Value) (l : List Tm) (htr : TR w g rs l) (hs : TmS l) (hp : l.Pairwise (fun x y => ix x < ix y)) (hn : n = l.length) (hn2 : n ≤ 400000) (hc : n ≤ cap) (hc2 : cap ≤ maxLen) :
    Calls Try.prog 49 #[.slice (some ⟨g, 0, none⟩) n cap, .func (.func 50) #[] #[]] w fun e w' => e = .returned (.tuple #[]) ∧ TR w' g rs (isort l) ∧ Kept (fun k => k = g) w w' := by
  have Hi := Lib.hid (stable_any ix w g n cap rs l htr hs hp hn hn2 hc hc2)
  have hso := isort_so l hp
  have Hso := Lib.hid hso
  clear htr hs hn hso hp
  go_enter Try.func49, Try.ntmps49
  go_wp2_with fail
  refine Hi.out.mono ?_
  rintro e w1 ⟨rfl, X, h1, h2, htr, hk⟩
  have hX : X = isort l := List.Perm.eq_of_pairwise (le := LX ix) (fun a b _ _ h k => absurd k (LX.asymm h)) h2 Hso.out (h1.trans (isort_perm l).symm)
  subst hX
  go_wp2
  go_end0
  exact ⟨rfl, htr, hk⟩
end Go.Proofs.Ytbnjhpknagkiaaa
