/-
  Contract of slices.symMergeCmpFunc over terms, where one part is a single term.
  Conditions: those of each statement.
  Contract of slices.symMergeCmpFunc over terms, where the right part is a single term.
  Conditions: those of each statement.
-/
import Derived.Test.YtbnjhpknagkiaaaYa
import Derived.Test.YtbnjhpknagkiaaaYc
namespace Go.Proofs.Ytbnjhpknagkiaaa
open Go.RowKit Go.Op

theorem TR.get {w : World} {g : Nat} {rs : List Value} {L : List Tm} (h : TR w g rs L) {i : Nat} {t : Tm} (hi : L[i]? = some t) :
    w.cell? ⟨g, i * 2, none⟩ = some (.string ⟨t.1.toArray⟩) ∧ w.cell? ⟨g, i * 2 + 1, none⟩ = some t.2 ∧ w.frozen? ⟨g, i * 2, none⟩ = false ∧ w.frozen? ⟨g, i * 2 + 1, none⟩ = false := by
  obtain ⟨hl, he⟩ := List.getElem?_eq_some_iff.1 hi
  subst he
  exact h.cells hl
theorem in_mid (P B S : List Tm) {i : Nat} (h1 : P.length ≤ i) (h2 : i < P.length + B.length) : (P ++ (B ++ S))[i]? = B[i - P.length]? := by
  rw [List.getElem?_append_right h1, List.getElem?_append_left (by omega)]

set_option maxHeartbeats 3200000 in
set_option maxRecDepth 100000 in
theorem sym_left (w : World) (g n cap : Nat) (rs : List Value) (ix : Tm → Nat) (P B S : List Tm) (x : Tm) (htr : TR w g rs ((P ++ [x]) ++ (B ++ S))) (hsx : TmS [x]) (hsB : TmS B) (hB : So ix B) (hix : ∀ y ∈ B, ix x < ix y) (a m b : Nat) (ha : a = P.length) (hm : m = P.length + 1) (hb : b = P.length + 1 + B.length)
    (hn : n = ((P ++ [x]) ++ (B ++ S)).length) (hn2 : n ≤ 1000000) :
    Calls Try.prog 86 #[.slice (some ⟨g, 0, none⟩) n cap, .int .i64 a, .int .i64 m, .int .i64 b, .func (.func 50) #[] #[]] w fun e w' => e = .returned (.tuple #[]) ∧ ∃ Z, Z.Perm (x :: B) ∧ So ix Z ∧ TR w' g rs (P ++ (Z ++ S)) ∧ Kept (fun k => k = g) w w' := by
  obtain ⟨ad, had⟩ : ∃ ad : Addr, ad = ⟨g, 0, none⟩ := ⟨_, rfl⟩
  rw [← had]
  have Had := Lib.hid had
  have hbn : b ≤ n := by simp only [List.length_append, List.length_cons, List.length_nil] at hn; omega
  have hma : m = a + 1 := by omega
  have hbm : b = m + B.length := by omega
  have hmP : m = (P ++ [x]).length := by simp; omega
  have hx0 : ((P ++ [x]) ++ (B ++ S))[a]? = some x := by rw [List.append_assoc, ha, List.getElem?_append_right (Nat.le_refl _)]; simp
  obtain ⟨xs, xv⟩ := x
  obtain ⟨Ax, mx, cx, hxs⟩ : ∃ A m c, xv = Value.slice A m c := hsx (xs, xv) (by simp)
  subst hxs
  obtain ⟨p0, p1, pf0, pf1⟩ := htr.get hx0
  dsimp only at p0 p1
  have htest : ((m : Int) - a) = 1 := by omega
  have hanI : (a : Int) < n := by omega
  have ham : a < m := by omega
  have Htr := Lib.hid htr
  have HsB := Lib.hid hsB
  have HB := Lib.hid hB
  have Hix := Lib.hid hix
  have Ha := Lib.hid ha
  have HmP := Lib.hid hmP
  have Hbm := Lib.hid hbm
  have Hma := Lib.hid hma
  have ha1 := add_row Had.out (a * 2)
  have Hp0 := Lib.hid p0
  have Hp1 := Lib.hid p1
  clear had htr hsx hsB hB hix ha hm hb hn hx0 hmP hbm pf0 pf1 hma p0 p1
  go_enter Try.func86, Try.ntmps86
  go_wp2_with fail
  go_loopw [10, 11, 12] (fun iv jv _ wr => ∃ lo hi : Nat, iv = .int .i64 lo ∧ jv = .int .i64 hi ∧ m ≤ lo ∧ lo ≤ hi ∧ hi ≤ b ∧ (lo = m ∨ ∀ y, B[lo - m - 1]? = some y → cmpT y.1 xs < 0) ∧ (hi = b ∨ ∀ y, B[hi - m]? = some y → 0 ≤ cmpT y.1 xs) ∧ Ext w wr) (fun iv jv _ _ => ((intOf jv) - (intOf iv)).toNat)
  case atStart => exact ⟨m, b, rfl, rfl, Nat.le_refl _, by have := Hbm.out; omega, Nat.le_refl _, .inl rfl, .inl rfl, Below.refl _ _⟩
  case round =>
    obtain ⟨lo, hi, rfl, rfl, hml, hlh, hhb, hlo, hhi, hx⟩ := hrel
    have Hlo := Lib.hid hlo
    have Hhi := Lib.hid hhi
    have Hx := Lib.hid hx
    clear hlo hhi hx
    by_cases hlt : lo < hi
    · have hlti : (lo : Int) < hi := by omega
      obtain ⟨q, hq⟩ : ∃ q : Nat, ((lo : Int) + hi) / 2 = q := ⟨(lo + hi) / 2, by omega⟩
      have hq1 : lo ≤ q := by omega
      have hq2 : q < hi := by omega
      have hqn : (q : Int) < n := by omega
      have hhii : (hi : Int) ≤ 1000000 := by omega
      obtain ⟨y, hy⟩ : ∃ y, B[q - m]? = some y := ⟨_, List.getElem?_eq_getElem (by have := Hbm.out; omega)⟩
      have hyL : ((P ++ [(xs, Value.slice Ax mx cx)]) ++ (B ++ S))[q]? = some y := by
        have := Hbm.out
        rw [in_mid _ _ _ (by rw [← HmP.out]; omega) (by rw [← HmP.out]; omega), ← HmP.out]
        exact hy
      obtain ⟨ys, yv⟩ := y
      obtain ⟨Ay, my, cy, hys⟩ : ∃ A m c, yv = Value.slice A m c := HsB.out (ys, yv) (List.mem_of_getElem? hy)
      subst hys
      obtain ⟨q0, q1, _, _⟩ := (Htr.out.ext Hx.out).get hyL
      dsimp only at q0 q1
      have p0 := Ext.keeps Hx.out Hp0.out
      have p1 := Ext.keeps Hx.out Hp1.out
      have ha2 := add_row Had.out (q * 2)
      have Hy := Lib.hid hy
      clear hy hyL
      by_cases hd : cmpT ys xs < 0
      · go_wp2_with fail
        go_region_held3 (fun W => W.cell? ⟨g, q * 2, none⟩ = some (.string ⟨ys.toArray⟩) ∧ W.cell? ⟨g, q * 2 + 1, none⟩ = some (.slice Ay my cy) ∧ W.cell? ⟨g, a * 2, none⟩ = some (.string ⟨xs.toArray⟩) ∧ W.cell? ⟨g, a * 2 + 1, none⟩ = some (.slice Ax mx cx))
          (first
            | exact ⟨q0, q1, p0, p1⟩
            | exact ⟨Ext.keeps (Ext.drew _) q0, Ext.keeps (Ext.drew _) q1, Ext.keeps (Ext.drew _) p0, Ext.keeps (Ext.drew _) p1⟩
            | exact ⟨Ext.keeps x5 q0, Ext.keeps x5 q1, Ext.keeps x5 p0, Ext.keeps x5 p1⟩
            | fail)
          (first
            | (go_at_call 50
               refine (terms1_any _ ys xs Ay Ax my mx cy cx).mono ?_
               rintro e w5 ⟨rfl, hx5⟩
               have x5 := Ext.trans (Ext.drew _) hx5)
            | fail)
        go_wp2
        refine ⟨⟨q + 1, hi, rfl, rfl, by omega, by omega, hhb, .inr fun y hy => ?_, Hhi.out, Ext.trans Hx.out x5⟩, by simp only [intOf]; omega⟩
        rw [show q + 1 - m - 1 = q - m by omega, Hy.out] at hy
        injection hy with hy
        subst hy
        exact hd
      · go_wp2_with fail
        go_region_held3 (fun W => W.cell? ⟨g, q * 2, none⟩ = some (.string ⟨ys.toArray⟩) ∧ W.cell? ⟨g, q * 2 + 1, none⟩ = some (.slice Ay my cy) ∧ W.cell? ⟨g, a * 2, none⟩ = some (.string ⟨xs.toArray⟩) ∧ W.cell? ⟨g, a * 2 + 1, none⟩ = some (.slice Ax mx cx))
          (first
            | exact ⟨q0, q1, p0, p1⟩
            | exact ⟨Ext.keeps (Ext.drew _) q0, Ext.keeps (Ext.drew _) q1, Ext.keeps (Ext.drew _) p0, Ext.keeps (Ext.drew _) p1⟩
            | exact ⟨Ext.keeps x5 q0, Ext.keeps x5 q1, Ext.keeps x5 p0, Ext.keeps x5 p1⟩
            | fail)
          (first
            | (go_at_call 50
               refine (terms1_any _ ys xs Ay Ax my mx cy cx).mono ?_
               rintro e w5 ⟨rfl, hx5⟩
               have x5 := Ext.trans (Ext.drew _) hx5)
            | fail)
        go_wp2
        refine ⟨⟨lo, q, rfl, rfl, hml, hq1, by omega, Hlo.out, .inr fun y hy => ?_, Ext.trans Hx.out x5⟩, by simp only [intOf]; omega⟩
        rw [Hy.out] at hy
        injection hy with hy
        subst hy
        exact hd
    · have hlti : ¬(lo : Int) < hi := by omega
      obtain rfl : lo = hi := by omega
      obtain ⟨B1, B2, hBB, hB1⟩ := part B (k := lo - m) (by have := Hbm.out; omega)
      have hc1 : ∀ y ∈ B2, LX ix (xs, Value.slice Ax mx cx) y := by
        have h0 := cut1 (ix := ix) (A := [(xs, Value.slice Ax mx cx)]) (B := B) (List.pairwise_singleton _ _) HB.out (by simpa using Hix.out) 1 (lo - m) ?_ (by simp)
        · rw [hBB, List.drop_append, List.drop_eq_nil_of_le (by omega), hB1, Nat.sub_self, List.drop_zero, List.nil_append] at h0
          exact h0 _ (by simp)
        · rcases Hhi.out with h | h
          · exact .inr (.inl (by have := Hbm.out; omega))
          · refine .inr (.inr fun x y hx hy => ?_)
            obtain rfl : (xs, Value.slice Ax mx cx) = x := by simpa using hx
            exact Int.not_lt.2 (h y hy)
      have hc2 : ∀ y ∈ B1, LX ix y (xs, Value.slice Ax mx cx) := by
        have h0 := cut2 (ix := ix) (A := [(xs, Value.slice Ax mx cx)]) (B := B) (List.pairwise_singleton _ _) HB.out 0 (lo - m) ?_ (by have := Hbm.out; omega)
        · rw [hBB, List.take_append_of_le_length (by omega), List.take_of_length_le (by omega)] at h0
          exact fun y hy => h0 y hy _ (by simp)
        · rcases Hlo.out with h | h
          · exact .inl (by omega)
          · refine .inr (.inr fun x y hx hy => ?_)
            obtain rfl : (xs, Value.slice Ax mx cx) = x := by simpa using hx
            exact h y hy
      have hZ : (B1 ++ (xs, Value.slice Ax mx cx) :: B2).Perm ((xs, Value.slice Ax mx cx) :: B) ∧ So ix (B1 ++ (xs, Value.slice Ax mx cx) :: B2) := by
        have hso := HB.out
        rw [hBB] at hso ⊢
        obtain ⟨s1, s2, s3⟩ := List.pairwise_append.1 hso
        refine ⟨List.perm_middle, List.pairwise_append.2 ⟨s1, List.pairwise_cons.2 ⟨hc1, s2⟩, fun y hy z hz => ?_⟩⟩
        rcases List.mem_cons.1 hz with e | hz
        · rw [e]
          exact hc2 y hy
        · exact s3 y hy z hz
      have HZ := Lib.hid hZ
      have HBB := Lib.hid hBB
      have HB1 := Lib.hid hB1
      have hlo1 : 0 ≤ (lo : Int) - 1 := by omega
      obtain ⟨l1, hl1⟩ : ∃ l1 : Nat, l1 + 1 = lo := ⟨lo - 1, by omega⟩
      have hl1i : (lo : Int) - 1 = (l1 : Int) := by omega
      have hwl : IntKind.i64.wrap (l1 : Int) = (l1 : Int) := by rw [IntKind.wrap_i64]; omega
      have HtrX := Htr.out.ext Hx.out
      rw [hBB] at HtrX
      have HtrX := Lib.hid HtrX
      have Hl1 := Lib.hid hl1
      clear hZ hBB hB1 hc1 hc2 hl1
      go_wp2_with fail
      go_loopw [13] (fun kv wq => ∃ (k : Nat) (U V : List Tm), kv = .int .i64 k ∧ k = a + U.length ∧ B1 = U ++ V ∧ TR wq g rs (P ++ (U ++ ((xs, Value.slice Ax mx cx) :: (V ++ (B2 ++ S))))) ∧ Kept (fun k => k = g) w wq) (fun kv _ => lo - (intOf kv).toNat)
      case atStart => exact ⟨a, [], B1, rfl, rfl, rfl, by simpa using HtrX.out, Ext.kept Hx.out _⟩
      case round =>
        rename World => wq
        obtain ⟨k, U, V, rfl, hk, hUV, htr, hkp⟩ := hrel
        have hUVl := congrArg List.length hUV
        rw [List.length_append] at hUVl
        have e1 := HB1.out
        have e2 := Hl1.out
        have e3 := Hma.out
        have Hk := Lib.hid hk
        have HUV := Lib.hid hUV
        have Htr2 := Lib.hid htr
        have Hkp := Lib.hid hkp
        rcases V with _ | ⟨y, V⟩
        · have hkl : ¬(k : Int) < l1 := by simp only [List.length_nil] at hUVl; omega
          clear hk hUV htr hkp hUVl e1 e2 e3
          go_wp2
          refine bodyPost_ret (results_none rfl _ _ _) rfl ?_
          refine ⟨rfl, _, HZ.out.1, HZ.out.2, ?_, Hkp.out⟩
          have := Htr2.out
          rw [HUV.out]
          simpa using this
        · have hkl : (k : Int) < l1 := by simp only [List.length_cons] at hUVl; omega
          obtain ⟨ys, yv⟩ := y
          obtain ⟨Ay, my, cy, hys⟩ : ∃ A m c, yv = Value.slice A m c := HsB.out (ys, yv) (by rw [HBB.out, hUV]; simp)
          subst hys
          obtain ⟨J, hJ⟩ : ∃ J, J = k + 1 := ⟨_, rfl⟩
          have hI2 : k = (P ++ U).length := by rw [List.length_append, hk, Ha.out]
          have hJ2 : J = (P ++ U).length + 1 + ([] : List Tm).length := by rw [← hI2, hJ]; rfl
          have hL : P ++ (U ++ ((xs, Value.slice Ax mx cx) :: ((ys, Value.slice Ay my cy) :: V ++ (B2 ++ S)))) = (P ++ U) ++ (xs, Value.slice Ax mx cx) :: ([] ++ (ys, Value.slice Ay my cy) :: (V ++ (B2 ++ S))) := by simp
          rw [hL] at htr
          have Htr3 := Lib.hid htr
          obtain ⟨p0, p1, pf0, pf1⟩ := htr.at_ hI2
          rw [show (P ++ U) ++ (xs, Value.slice Ax mx cx) :: ([] ++ (ys, Value.slice Ay my cy) :: (V ++ (B2 ++ S))) = ((P ++ U) ++ (xs, Value.slice Ax mx cx) :: []) ++ (ys, Value.slice Ay my cy) :: (V ++ (B2 ++ S)) by simp] at htr
          obtain ⟨q0, q1, qf0, qf1⟩ := htr.at_ (i := J) (by simp only [List.length_append, List.length_cons, List.length_nil] at hJ2 ⊢; omega)
          dsimp only at p0 p1 q0 q1
          have HI2 := Lib.hid hI2
          have HJ2 := Lib.hid hJ2
          have hJn : (J : Int) < n := by omega
          have hkn : (k : Int) < n := by omega
          have hwJ : (k : Int) + 1 = J := by omega
          have hwJ2 : IntKind.i64.wrap (J : Int) = J := by rw [IntKind.wrap_i64]; omega
          have ha3 := add_row Had.out (k * 2)
          have ha4 := add_row Had.out (J * 2)
          have hJ0 : (0 : Int) ≤ J := by omega
          have n1 : ¬J * 2 = k * 2 := by omega
          have n2 : ¬J * 2 = k * 2 + 1 := by omega
          have n3 : ¬J * 2 + 1 = k * 2 := by omega
          have n4 : ¬k * 2 = J * 2 := by omega
          have n5 : ¬k * 2 + 1 = J * 2 := by omega
          have n6 : ¬k * 2 = J * 2 + 1 := by omega
          have HJ := Lib.hid hJ
          clear hk hUV htr hkp hUVl e1 e2 e3 hL hI2 hJ2 hJ
          go_wp2_with fail
          go_region
          go_wp2
          refine ⟨⟨J, U ++ [(ys, Value.slice Ay my cy)], V, rfl, by rw [HJ.out, Hk.out]; simp; omega, by rw [HUV.out]; simp, ?_, ?_⟩, by have := HJ.out; simp only [intOf]; omega⟩
          · have h6 := (Htr3.out.swap HI2.out HJ2.out).ext (Ext.drew _)
            simpa [put2] using h6
          · exact Hkp.out.trans ((kept_swap wq g k J (xs, Value.slice Ax mx cx) (ys, Value.slice Ay my cy)).trans (Ext.kept (Ext.drew _) _))


theorem kept_swap' (w : World) (g i j : Nat) (x y : Tm) : Kept (fun k => k = g) w (put2 (put2 w g j x) g i y) := (kept_put2 w g j x).trans (kept_put2 _ g i y)
set_option maxHeartbeats 3200000 in
set_option maxRecDepth 100000 in
theorem sym_right (w : World) (g n cap : Nat) (rs : List Value) (ix : Tm → Nat) (P A S : List Tm) (y : Tm) (htr : TR w g rs (P ++ (A ++ (y :: S)))) (hsy : TmS [y]) (hsA : TmS A) (hA : So ix A) (hix : ∀ x ∈ A, ix x < ix y) (a m b : Nat) (ha : a = P.length) (hm : m = P.length + A.length) (hb : b = m + 1)
    (hl : A.length ≠ 1) (hn : n = (P ++ (A ++ (y :: S))).length) (hn2 : n ≤ 1000000) :
    Calls Try.prog 86 #[.slice (some ⟨g, 0, none⟩) n cap, .int .i64 a, .int .i64 m, .int .i64 b, .func (.func 50) #[] #[]] w fun e w' => e = .returned (.tuple #[]) ∧ ∃ Z, Z.Perm (A ++ [y]) ∧ So ix Z ∧ TR w' g rs (P ++ (Z ++ S)) ∧ Kept (fun k => k = g) w w' := by
  obtain ⟨ad, had⟩ : ∃ ad : Addr, ad = ⟨g, 0, none⟩ := ⟨_, rfl⟩
  rw [← had]
  have Had := Lib.hid had
  have hmn : m < n := by simp only [List.length_append, List.length_cons] at hn; omega
  have hmA : m = a + A.length := by omega
  have hx0 : (P ++ (A ++ (y :: S)))[m]? = some y := by rw [hm, List.getElem?_append_right (by omega), List.getElem?_append_right (by omega), show P.length + A.length - P.length - A.length = 0 by omega]; rfl
  obtain ⟨ys, yv⟩ := y
  obtain ⟨Ay, my, cy, hys⟩ : ∃ A m c, yv = Value.slice A m c := hsy (ys, yv) (by simp)
  subst hys
  obtain ⟨p0, p1, pf0, pf1⟩ := htr.get hx0
  dsimp only at p0 p1
  have htest : (((m : Int) - a) == 1) = false := by rw [beq_eq_false_iff_ne]; omega
  have htest2 : ((b : Int) - m) = 1 := by omega
  have hmnI : (m : Int) < n := by omega
  have ham : a ≤ m := by omega
  have Htr := Lib.hid htr
  have HsA := Lib.hid hsA
  have HA := Lib.hid hA
  have Hix := Lib.hid hix
  have Ha := Lib.hid ha
  have HmA := Lib.hid hmA
  have ha1 := add_row Had.out (m * 2)
  have Hp0 := Lib.hid p0
  have Hp1 := Lib.hid p1
  clear had htr hsy hsA hA hix ha hm hn hx0 hmA pf0 pf1 p0 p1 hl hb
  go_enter Try.func86, Try.ntmps86
  go_wp2_with fail
  go_loopw [14, 15, 16] (fun iv jv _ wr => ∃ lo hi : Nat, iv = .int .i64 lo ∧ jv = .int .i64 hi ∧ a ≤ lo ∧ lo ≤ hi ∧ hi ≤ m ∧ (lo = a ∨ ∀ x, A[lo - a - 1]? = some x → 0 ≤ cmpT ys x.1) ∧ (hi = m ∨ ∀ x, A[hi - a]? = some x → cmpT ys x.1 < 0) ∧ Ext w wr) (fun iv jv _ _ => ((intOf jv) - (intOf iv)).toNat)
  case atStart => exact ⟨a, m, rfl, rfl, Nat.le_refl _, ham, Nat.le_refl _, .inl rfl, .inl rfl, Below.refl _ _⟩
  case round =>
    obtain ⟨lo, hi, rfl, rfl, hml, hlh, hhb, hlo, hhi, hx⟩ := hrel
    have Hlo := Lib.hid hlo
    have Hhi := Lib.hid hhi
    have Hx := Lib.hid hx
    clear hlo hhi hx
    by_cases hlt : lo < hi
    · have hlti : (lo : Int) < hi := by omega
      obtain ⟨q, hq⟩ : ∃ q : Nat, ((lo : Int) + hi) / 2 = q := ⟨(lo + hi) / 2, by omega⟩
      have hq1 : lo ≤ q := by omega
      have hq2 : q < hi := by omega
      have hqn : (q : Int) < n := by omega
      have hhii : (hi : Int) ≤ 1000000 := by omega
      obtain ⟨x, hx⟩ : ∃ x, A[q - a]? = some x := ⟨_, List.getElem?_eq_getElem (by have := HmA.out; omega)⟩
      have hxL : (P ++ (A ++ ((ys, Value.slice Ay my cy) :: S)))[q]? = some x := by
        have := HmA.out
        have := Ha.out
        rw [in_mid _ _ _ (by omega) (by omega), ← Ha.out]
        exact hx
      obtain ⟨xs, xv⟩ := x
      obtain ⟨Ax, mx, cx, hxs⟩ : ∃ A m c, xv = Value.slice A m c := HsA.out (xs, xv) (List.mem_of_getElem? hx)
      subst hxs
      obtain ⟨q0, q1, _, _⟩ := (Htr.out.ext Hx.out).get hxL
      dsimp only at q0 q1
      have p0 := Ext.keeps Hx.out Hp0.out
      have p1 := Ext.keeps Hx.out Hp1.out
      have ha2 := add_row Had.out (q * 2)
      have Hhx := Lib.hid hx
      clear hx hxL
      by_cases hd : cmpT ys xs < 0
      · go_wp2_with fail
        go_region_held3 (fun W => W.cell? ⟨g, m * 2, none⟩ = some (.string ⟨ys.toArray⟩) ∧ W.cell? ⟨g, m * 2 + 1, none⟩ = some (.slice Ay my cy) ∧ W.cell? ⟨g, q * 2, none⟩ = some (.string ⟨xs.toArray⟩) ∧ W.cell? ⟨g, q * 2 + 1, none⟩ = some (.slice Ax mx cx))
          (first
            | exact ⟨p0, p1, q0, q1⟩
            | exact ⟨Ext.keeps (Ext.drew _) p0, Ext.keeps (Ext.drew _) p1, Ext.keeps (Ext.drew _) q0, Ext.keeps (Ext.drew _) q1⟩
            | exact ⟨Ext.keeps x5 p0, Ext.keeps x5 p1, Ext.keeps x5 q0, Ext.keeps x5 q1⟩
            | fail)
          (first
            | (go_at_call 50
               refine (terms1_any _ ys xs Ay Ax my mx cy cx).mono ?_
               rintro e w5 ⟨rfl, hx5⟩
               have x5 := Ext.trans (Ext.drew _) hx5)
            | fail)
        go_wp2
        refine ⟨⟨lo, q, rfl, rfl, hml, hq1, by omega, Hlo.out, .inr fun x hx => ?_, Ext.trans Hx.out x5⟩, by simp only [intOf]; omega⟩
        rw [Hhx.out] at hx
        injection hx with hx
        subst hx
        exact hd
      · have hnb : decide (cmpT ys xs < 0) = false := decide_eq_false hd
        have Hd := Lib.hid hd
        clear hd
        go_wp2_with fail
        go_region_held3 (fun W => W.cell? ⟨g, m * 2, none⟩ = some (.string ⟨ys.toArray⟩) ∧ W.cell? ⟨g, m * 2 + 1, none⟩ = some (.slice Ay my cy) ∧ W.cell? ⟨g, q * 2, none⟩ = some (.string ⟨xs.toArray⟩) ∧ W.cell? ⟨g, q * 2 + 1, none⟩ = some (.slice Ax mx cx))
          (first
            | exact ⟨p0, p1, q0, q1⟩
            | exact ⟨Ext.keeps (Ext.drew _) p0, Ext.keeps (Ext.drew _) p1, Ext.keeps (Ext.drew _) q0, Ext.keeps (Ext.drew _) q1⟩
            | exact ⟨Ext.keeps x5 p0, Ext.keeps x5 p1, Ext.keeps x5 q0, Ext.keeps x5 q1⟩
            | fail)
          (first
            | (go_at_call 50
               refine (terms1_any _ ys xs Ay Ax my mx cy cx).mono ?_
               rintro e w5 ⟨rfl, hx5⟩
               have x5 := Ext.trans (Ext.drew _) hx5)
            | fail)
        go_wp2
        refine ⟨⟨q + 1, hi, rfl, rfl, by omega, by omega, hhb, .inr fun x hx => ?_, Hhi.out, Ext.trans Hx.out x5⟩, by simp only [intOf]; omega⟩
        rw [show q + 1 - a - 1 = q - a by omega, Hhx.out] at hx
        injection hx with hx
        subst hx
        exact Hd.out
    · have hlti : ¬(lo : Int) < hi := by omega
      obtain rfl : lo = hi := by omega
      obtain ⟨A1, A2, hAA, hA1⟩ := part A (k := lo - a) (by have := HmA.out; omega)
      have hc1 : ∀ x ∈ A1, LX ix x (ys, Value.slice Ay my cy) := by
        have h0 := cut1 (ix := ix) (A := A) (B := [(ys, Value.slice Ay my cy)]) HA.out (List.pairwise_singleton _ _) (by simpa using Hix.out) (lo - a) 0 ?_ (by have := HmA.out; omega)
        · rw [hAA, List.take_append_of_le_length (by omega), List.take_of_length_le (by omega)] at h0
          exact fun x hx => h0 x hx _ (by simp)
        · rcases Hlo.out with h | h
          · exact .inl (by omega)
          · refine .inr (.inr fun x y hx hy => ?_)
            obtain rfl : (ys, Value.slice Ay my cy) = y := by simpa using hy
            exact Int.not_lt.2 (h x hx)
      have hc2 : ∀ x ∈ A2, LX ix (ys, Value.slice Ay my cy) x := by
        have h0 := cut2 (ix := ix) (A := A) (B := [(ys, Value.slice Ay my cy)]) HA.out (List.pairwise_singleton _ _) (lo - a) 1 ?_ (by simp)
        · rw [hAA, List.drop_append, List.drop_eq_nil_of_le (by omega), hA1, Nat.sub_self, List.drop_zero, List.nil_append] at h0
          exact h0 _ (by simp)
        · rcases Hhi.out with h | h
          · exact .inr (.inl (by have := HmA.out; omega))
          · refine .inr (.inr fun x y hx hy => ?_)
            obtain rfl : (ys, Value.slice Ay my cy) = y := by simpa using hy
            exact h x hx
      have hZ : (A1 ++ (ys, Value.slice Ay my cy) :: A2).Perm (A ++ [(ys, Value.slice Ay my cy)]) ∧ So ix (A1 ++ (ys, Value.slice Ay my cy) :: A2) := by
        have hso := HA.out
        rw [hAA] at hso ⊢
        obtain ⟨s1, s2, s3⟩ := List.pairwise_append.1 hso
        refine ⟨?_, List.pairwise_append.2 ⟨s1, List.pairwise_cons.2 ⟨hc2, s2⟩, fun x hx z hz => ?_⟩⟩
        · rw [List.append_assoc]
          refine List.Perm.append_left A1 ?_
          exact (List.perm_append_singleton (ys, Value.slice Ay my cy) A2).symm
        · rcases List.mem_cons.1 hz with e | hz
          · rw [e]
            exact hc1 x hx
          · exact s3 x hx z hz
      have HZ := Lib.hid hZ
      have HAA := Lib.hid hAA
      have HA1 := Lib.hid hA1
      have HtrX := Htr.out.ext Hx.out
      rw [hAA] at HtrX
      have HtrX := Lib.hid HtrX
      have hA2 : m = lo + A2.length := by
        have := HmA.out
        have := congrArg List.length hAA
        rw [List.length_append] at this
        omega
      have HA2 := Lib.hid hA2
      clear hZ hAA hA1 hc1 hc2 hA2
      go_wp2_with fail
      go_loopw [17] (fun kv wq => ∃ (k : Nat) (U V : List Tm), kv = .int .i64 k ∧ k = lo + U.length ∧ A2 = U ++ V ∧ TR wq g rs (P ++ (A1 ++ (U ++ ((ys, Value.slice Ay my cy) :: (V ++ S))))) ∧ Kept (fun k => k = g) w wq) (fun kv _ => (intOf kv).toNat)
      case atStart => exact ⟨m, A2, [], rfl, HA2.out, (List.append_nil _).symm, by simpa using HtrX.out, Ext.kept Hx.out _⟩
      case round =>
        rename World => wq
        obtain ⟨k, U, V, rfl, hk, hUV, htr, hkp⟩ := hrel
        have hUVl := congrArg List.length hUV
        rw [List.length_append] at hUVl
        have e1 := HA1.out
        have e2 := HA2.out
        have HUV := Lib.hid hUV
        have Htr2 := Lib.hid htr
        have Hkp := Lib.hid hkp
        rcases List.eq_nil_or_concat U with hU | ⟨U, x, hU⟩
        · subst hU
          have hkl : ¬(lo : Int) < k := by simp only [List.length_nil] at hk; omega
          clear hk hUV htr hkp hUVl e1 e2
          go_wp2
          refine bodyPost_ret (results_none rfl _ _ _) rfl ?_
          refine ⟨rfl, _, HZ.out.1, HZ.out.2, ?_, Hkp.out⟩
          have := Htr2.out
          rw [HUV.out]
          simpa using this
        · rw [List.concat_eq_append] at hU
          subst hU
          have hkU : k = lo + U.length + 1 := by rw [hk]; simp; omega
          have hkl : (lo : Int) < k := by omega
          obtain ⟨xs, xv⟩ := x
          obtain ⟨Ax, mx, cx, hxs⟩ : ∃ A m c, xv = Value.slice A m c := HsA.out (xs, xv) (by rw [HAA.out, hUV]; simp)
          subst hxs
          obtain ⟨I, hI⟩ : ∃ I, I + 1 = k := ⟨k - 1, by omega⟩
          have hI2 : I = (P ++ (A1 ++ U)).length := by have := Ha.out; simp only [List.length_append]; omega
          have hJ2 : k = (P ++ (A1 ++ U)).length + 1 + ([] : List Tm).length := by rw [← hI2, ← hI]; rfl
          have hL : P ++ (A1 ++ (U ++ [(xs, Value.slice Ax mx cx)] ++ ((ys, Value.slice Ay my cy) :: (V ++ S)))) = (P ++ (A1 ++ U)) ++ (xs, Value.slice Ax mx cx) :: ([] ++ (ys, Value.slice Ay my cy) :: (V ++ S)) := by simp
          rw [hL] at htr
          have Htr3 := Lib.hid htr
          obtain ⟨p0, p1, pf0, pf1⟩ := htr.at_ hI2
          rw [show (P ++ (A1 ++ U)) ++ (xs, Value.slice Ax mx cx) :: ([] ++ (ys, Value.slice Ay my cy) :: (V ++ S)) = ((P ++ (A1 ++ U)) ++ (xs, Value.slice Ax mx cx) :: []) ++ (ys, Value.slice Ay my cy) :: (V ++ S) by simp] at htr
          obtain ⟨q0, q1, qf0, qf1⟩ := htr.at_ (i := k) (by simp only [List.length_append, List.length_cons, List.length_nil] at hJ2 ⊢; omega)
          dsimp only at p0 p1 q0 q1
          have HI2 := Lib.hid hI2
          have HJ2 := Lib.hid hJ2
          have hkm : k ≤ m := by simp only [List.length_append, List.length_cons, List.length_nil] at hUVl; omega
          have hkn : (k : Int) < n := by omega
          have hIn : (I : Int) < n := by omega
          have hwI : (k : Int) - 1 = I := by omega
          have hwI2 : IntKind.i64.wrap (I : Int) = I := by rw [IntKind.wrap_i64]; omega
          have hI0 : (0 : Int) ≤ I := by omega
          have ha3 := add_row Had.out (k * 2)
          have ha4 := add_row Had.out (I * 2)
          have n1 : ¬k * 2 = I * 2 := by omega
          have n2 : ¬k * 2 = I * 2 + 1 := by omega
          have n3 : ¬k * 2 + 1 = I * 2 := by omega
          have n4 : ¬I * 2 = k * 2 := by omega
          have n5 : ¬I * 2 + 1 = k * 2 := by omega
          have n6 : ¬I * 2 = k * 2 + 1 := by omega
          have HI := Lib.hid hI
          have HkU := Lib.hid hkU
          clear hk hUV htr hkp hUVl e1 e2 hL hI2 hJ2 hI hkU
          go_wp2_with fail
          go_region
          go_wp2
          refine ⟨⟨I, U, (xs, Value.slice Ax mx cx) :: V, rfl, by have := HI.out; have := HkU.out; omega, by rw [HUV.out]; simp, ?_, ?_⟩, by have := HI.out; simp only [intOf]; omega⟩
          · have h6 := (Htr3.out.swap' HI2.out HJ2.out).ext (Ext.drew _)
            simpa [put2] using h6
          · exact Hkp.out.trans ((kept_swap' wq g I k (xs, Value.slice Ax mx cx) (ys, Value.slice Ay my cy)).trans (Ext.kept (Ext.drew _) _))
end Go.Proofs.Ytbnjhpknagkiaaa
