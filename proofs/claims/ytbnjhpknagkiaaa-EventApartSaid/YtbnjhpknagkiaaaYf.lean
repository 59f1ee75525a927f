/-
  Contract of slices.symMergeCmpFunc over terms.
  Conditions: those of each statement.
-/
import Derived.Test.YtbnjhpknagkiaaaYd
import Derived.Deep.DeepCutAuto
namespace Go.Proofs.Ytbnjhpknagkiaaa
open Go.RowKit Go.Op

/-- what a merge gives -/
def Merged (ix : Tm → Nat) (w : World) (g : Nat) (rs : List Value) (P A B S : List Tm) (e : Ending) (w' : World) : Prop :=
  e = .returned (.tuple #[]) ∧ ∃ Z, Z.Perm (A ++ B) ∧ So ix Z ∧ TR w' g rs (P ++ (Z ++ S)) ∧ Kept (fun k => k = g) w w'

/-- what is to be shown, for parts of at most N terms -/
def SymOk (ix : Tm → Nat) (g n cap : Nat) (rs : List Value) (N : Nat) : Prop :=
  ∀ (w : World) (P A B S : List Tm) (_ : A.length + B.length ≤ N) (_ : TR w g rs (P ++ (A ++ (B ++ S)))) (_ : TmS A) (_ : TmS B) (_ : So ix A) (_ : So ix B) (_ : ∀ x ∈ A, ∀ y ∈ B, ix x < ix y) (_ : 0 < A.length) (_ : 0 < B.length) (a m b : Nat) (_ : a = P.length) (_ : m = a + A.length) (_ : b = m + B.length) (_ : n = (P ++ (A ++ (B ++ S))).length),
    Calls Try.prog 86 #[.slice (some ⟨g, 0, none⟩) n cap, .int .i64 a, .int .i64 m, .int .i64 b, .func (.func 50) #[] #[]] w (Merged ix w g rs P A B S)

set_option maxHeartbeats 16000000 in
set_option maxRecDepth 100000 in
theorem sym_step (ix : Tm → Nat) (g n cap : Nat) (rs : List Value) (hn2 : n ≤ 1000000) (N : Nat) (HI : Hid (SymOk ix g n cap rs N)) : SymOk ix g n cap rs (N + 1) := by
  intro w P A B S hN htr hsA hsB hA hB hix hA0 hB0 a m b ha hm hb hn
  by_cases hl1 : A.length = 1
  · obtain ⟨x, rfl⟩ := List.length_eq_one_iff.1 hl1
    refine (sym_left w g n cap rs ix P B S x (by simpa using htr) hsA hsB hB (by simpa using hix) a m b ha (by rw [hm, ha]; rfl) (by rw [hb, hm, ha]; rfl) (by rw [hn]; simp) hn2).mono ?_
    rintro e w' ⟨rfl, Z, h1, h2, h3, h4⟩
    exact ⟨rfl, Z, h1, h2, h3, h4⟩
  by_cases hl2 : B.length = 1
  · obtain ⟨y, rfl⟩ := List.length_eq_one_iff.1 hl2
    refine (sym_right w g n cap rs ix P A S y (by simpa using htr) hsB hsA hA (by simpa using hix) a m b ha (by rw [hm, ha]) (by rw [hb]; rfl) hl1 (by rw [hn]; simp) hn2).mono ?_
    rintro e w' ⟨rfl, Z, h1, h2, h3, h4⟩
    exact ⟨rfl, Z, h1, h2, h3, h4⟩
  obtain ⟨ad, had⟩ : ∃ ad : Addr, ad = ⟨g, 0, none⟩ := ⟨_, rfl⟩
  have Had := Lib.hid had
  have hbn : b ≤ n := by simp only [List.length_append] at hn; omega
  obtain ⟨mid, hmid⟩ : ∃ mid : Nat, ((a : Int) + b) / 2 = mid := ⟨(a + b) / 2, by omega⟩
  obtain ⟨nn, hnn⟩ : ∃ nn, nn = mid + m := ⟨_, rfl⟩
  obtain ⟨p, hp⟩ : ∃ p, p + 1 = nn := ⟨nn - 1, by omega⟩
  obtain ⟨lo0, hi0, hcase⟩ : ∃ lo0 hi0 : Nat, (mid < m ∧ lo0 + b = nn ∧ hi0 = mid) ∨ (m ≤ mid ∧ lo0 = a ∧ hi0 = m) := by
    by_cases h : mid < m
    · exact ⟨nn - b, mid, .inl ⟨h, by omega, rfl⟩⟩
    · exact ⟨a, m, .inr ⟨by omega, rfl, rfl⟩⟩
  have htest : (((m : Int) - a) == 1) = false := by rw [beq_eq_false_iff_ne]; omega
  have htest2 : (((b : Int) - m) == 1) = false := by rw [beq_eq_false_iff_ne]; omega
  have hnnI : (mid : Int) + m = (nn : Int) := by omega
  have hwnn : IntKind.i64.wrap (nn : Int) = (nn : Int) := by rw [IntKind.wrap_i64]; omega
  have hpI : (nn : Int) - 1 = (p : Int) := by omega
  have hwp : IntKind.i64.wrap (p : Int) = (p : Int) := by rw [IntKind.wrap_i64]; omega
  have hbnd : ∀ c, lo0 ≤ c → c < hi0 → a ≤ c ∧ c < m ∧ m + c ≤ p ∧ p < b + c := by intro c h1 h2; omega
  have hlh0 : lo0 ≤ hi0 ∧ hi0 ≤ m ∧ a ≤ lo0 ∧ nn ≤ lo0 + b ∧ m + hi0 ≤ nn := by omega
  have hfin : ∀ s, lo0 ≤ s → s ≤ hi0 → (s = lo0 → s = a ∨ nn = b + s) ∧ (s = hi0 → s = m ∨ nn = m + s) := by intro s h1 h2; omega
  have hmidi : a < mid ∧ mid < b ∧ mid < m + 1000000 := by omega
  have Htr := Lib.hid htr
  have HsA := Lib.hid hsA
  have HsB := Lib.hid hsB
  have HA := Lib.hid hA
  have HB := Lib.hid hB
  have Hix := Lib.hid hix
  have HN := Lib.hid hN
  have Ha := Lib.hid ha
  have Hm := Lib.hid hm
  have Hb := Lib.hid hb
  have Hn := Lib.hid hn
  have Hbnd := Lib.hid hbnd
  have Hfin := Lib.hid hfin
  have Hcase := Lib.hid hcase
  have Hlh0 := Lib.hid hlh0
  have Hmid := Lib.hid hmid
  have Hnn := Lib.hid hnn
  have Hp := Lib.hid hp
  have Hmidi := Lib.hid hmidi
  have hb6 : b ≤ 1000000 := by omega
  have hm6 : m ≤ 1000000 := by omega
  have ha6 : a ≤ 1000000 := by omega
  have hn6 : nn ≤ 2000000 := by omega
  clear htr hsA hsB hA hB hix hN ha hm hb hn hbnd hfin hcase hlh0 hnn hp hmidi hl1 hl2 hA0 hB0
  rw [← had]
  clear had
  go_enter Try.func86, Try.ntmps86
  go_upto_if 140 with (fail)
  go_cut [20, 21] (fun s r wx => s = .int .i64 lo0 ∧ r = .int .i64 hi0 ∧ Ext w wx)
  case first => as_aux_lemma =>
    rcases Hcase.out with ⟨h1, h2, h3⟩ | ⟨h1, h2, h3⟩
    · have hmt : (mid : Int) < m := by omega
      have hlo : (nn : Int) - b = (lo0 : Int) := by omega
      have hwlo : IntKind.i64.wrap (lo0 : Int) = (lo0 : Int) := by rw [IntKind.wrap_i64]; omega
      clear h1 h2
      go_wp2
      go_meet
      exact ⟨rfl, by rw [h3], Below.refl _ _⟩
    · have hmt : ¬(mid : Int) < m := by omega
      clear h1
      go_wp2
      go_meet
      exact ⟨by rw [h2], by rw [h3], Below.refl _ _⟩
  case rest => as_aux_lemma =>
    obtain ⟨rfl, rfl, hxc⟩ := hcut
    have Hxc := Lib.hid hxc
    clear hxc
    go_wp2_with fail
    go_loopw [20, 21, 23] (fun iv jv _ wr => ∃ lo hi : Nat, iv = .int .i64 lo ∧ jv = .int .i64 hi ∧ lo0 ≤ lo ∧ lo ≤ hi ∧ hi ≤ hi0 ∧ (lo = lo0 ∨ ∀ x y, A[lo - 1 - a]? = some x → B[nn - lo - m]? = some y → 0 ≤ cmpT y.1 x.1) ∧ (hi = hi0 ∨ ∀ x y, A[hi - a]? = some x → B[p - hi - m]? = some y → cmpT y.1 x.1 < 0) ∧ Ext w wr) (fun iv jv _ _ => ((intOf jv) - (intOf iv)).toNat)
    case atStart => exact ⟨lo0, hi0, rfl, rfl, Nat.le_refl _, Hlh0.out.1, Nat.le_refl _, .inl rfl, .inl rfl, Hxc.out⟩
    case round =>
      rename World => wr
      obtain ⟨lo, hi, rfl, rfl, hml, hlh, hhb, hlo, hhi, hx⟩ := hrel
      have Hlo := Lib.hid hlo
      have Hhi := Lib.hid hhi
      have Hx := Lib.hid hx
      clear hlo hhi hx
      by_cases hlt : lo < hi
      · have hlti : (lo : Int) < hi := by omega
        obtain ⟨q, hq⟩ : ∃ q : Nat, ((lo : Int) + hi) / 2 = q := ⟨(lo + hi) / 2, by omega⟩
        have hq1 : lo ≤ q := by omega
        have hq2 : q < hi := by omega
        obtain ⟨hb1, hb2, hb3, hb4⟩ := Hbnd.out q (by omega) (by omega)
        obtain ⟨z, hz⟩ : ∃ z, z + q = p := ⟨p - q, by omega⟩
        have hzi : (p : Int) - q = (z : Int) := by omega
        have hwz : IntKind.i64.wrap (z : Int) = (z : Int) := by rw [IntKind.wrap_i64]; omega
        have hz0 : (0 : Int) ≤ z := by omega
        have hqn : (q : Int) < n := by omega
        have hzn : (z : Int) < n := by omega
        have hhii : (hi : Int) ≤ 1000000 := by have := Hlh0.out; omega
        have hqa : q - a < A.length := by have := Hm.out; omega
        have hzm : z - m < B.length := by have := Hb.out; omega
        obtain ⟨x, hx⟩ : ∃ x, A[q - a]? = some x := ⟨_, List.getElem?_eq_getElem hqa⟩
        obtain ⟨y, hy⟩ : ∃ y, B[z - m]? = some y := ⟨_, List.getElem?_eq_getElem hzm⟩
        have hxL : (P ++ (A ++ (B ++ S)))[q]? = some x := by
          have := Ha.out
          rw [in_mid _ _ _ (by omega) (by omega), ← Ha.out]
          exact hx
        have hyL : (P ++ (A ++ (B ++ S)))[z]? = some y := by
          have h1 := Ha.out
          have h2 := Hm.out
          have h3 : m = (P ++ A).length := by rw [List.length_append]; omega
          rw [← List.append_assoc, in_mid _ _ _ (by omega) (by omega), ← h3]
          exact hy
        obtain ⟨xs, xv⟩ := x
        obtain ⟨ys, yv⟩ := y
        obtain ⟨Ax, mx, cx, hxs⟩ : ∃ A m c, xv = Value.slice A m c := HsA.out (xs, xv) (List.mem_of_getElem? hx)
        obtain ⟨Ay, my, cy, hys⟩ : ∃ A m c, yv = Value.slice A m c := HsB.out (ys, yv) (List.mem_of_getElem? hy)
        subst hxs hys
        obtain ⟨q0, q1, _, _⟩ := (Htr.out.ext Hx.out).get hxL
        obtain ⟨p0, p1, _, _⟩ := (Htr.out.ext Hx.out).get hyL
        dsimp only at q0 q1 p0 p1
        have ha1 := add_row Had.out (z * 2)
        have ha2 := add_row Had.out (q * 2)
        have Hhx := Lib.hid hx
        have Hhy := Lib.hid hy
        have Hz := Lib.hid hz
        clear hx hxL hy hyL hqa hzm hz hb1 hb2 hb3 hb4
        by_cases hd : cmpT ys xs < 0
        · go_wp2_with fail
          go_region_held3 (fun W => W.cell? ⟨g, z * 2, none⟩ = some (.string ⟨ys.toArray⟩) ∧ W.cell? ⟨g, z * 2 + 1, none⟩ = some (.slice Ay my cy) ∧ W.cell? ⟨g, q * 2, none⟩ = some (.string ⟨xs.toArray⟩) ∧ W.cell? ⟨g, q * 2 + 1, none⟩ = some (.slice Ax mx cx))
            (first
              | exact ⟨p0, p1, q0, q1⟩
              | exact ⟨Ext.keeps (Ext.drew _) p0, Ext.keeps (Ext.drew _) p1, Ext.keeps (Ext.drew _) q0, Ext.keeps (Ext.drew _) q1⟩
              | exact ⟨Ext.keeps x5 p0, Ext.keeps x5 p1, Ext.keeps x5 q0, Ext.keeps x5 q1⟩
              | fail)
            (first
              | (go_at_call 50
                 refine (terms1_any _ ys xs Ay Ax my mx cy cx).mono ?_
                 rintro e w5 ⟨rfl, hx5⟩
                 have x5 := Ext.trans (Ext.drew _) hx5)
              | fail)
          go_wp2
          refine ⟨⟨lo, q, rfl, rfl, hml, hq1, by omega, Hlo.out, .inr fun x y hx hy => ?_, Ext.trans Hx.out x5⟩, by simp only [intOf]; omega⟩
          rw [Hhx.out] at hx
          rw [show p - q - m = z - m by have := Hz.out; omega, Hhy.out] at hy
          injection hx with hx
          injection hy with hy
          subst hx hy
          exact hd
        · have hnb : decide (cmpT ys xs < 0) = false := decide_eq_false hd
          have Hd := Lib.hid (Int.not_lt.1 hd)
          clear hd
          go_wp2_with fail
          go_region_held3 (fun W => W.cell? ⟨g, z * 2, none⟩ = some (.string ⟨ys.toArray⟩) ∧ W.cell? ⟨g, z * 2 + 1, none⟩ = some (.slice Ay my cy) ∧ W.cell? ⟨g, q * 2, none⟩ = some (.string ⟨xs.toArray⟩) ∧ W.cell? ⟨g, q * 2 + 1, none⟩ = some (.slice Ax mx cx))
            (first
              | exact ⟨p0, p1, q0, q1⟩
              | exact ⟨Ext.keeps (Ext.drew _) p0, Ext.keeps (Ext.drew _) p1, Ext.keeps (Ext.drew _) q0, Ext.keeps (Ext.drew _) q1⟩
              | exact ⟨Ext.keeps x5 p0, Ext.keeps x5 p1, Ext.keeps x5 q0, Ext.keeps x5 q1⟩
              | fail)
            (first
              | (go_at_call 50
                 refine (terms1_any _ ys xs Ay Ax my mx cy cx).mono ?_
                 rintro e w5 ⟨rfl, hx5⟩
                 have x5 := Ext.trans (Ext.drew _) hx5)
              | fail)
          go_wp2
          refine ⟨⟨q + 1, hi, rfl, rfl, by omega, by omega, hhb, .inr fun x y hx hy => ?_, Hhi.out, Ext.trans Hx.out x5⟩, by simp only [intOf]; omega⟩
          rw [show q + 1 - 1 - a = q - a by omega, Hhx.out] at hx
          rw [show nn - (q + 1) - m = z - m by have := Hz.out; have := Hp.out; omega, Hhy.out] at hy
          injection hx with hx
          injection hy with hy
          subst hx hy
          exact Hd.out
      · have hlti : ¬(lo : Int) < hi := by omega
        obtain rfl : lo = hi := by omega
        obtain ⟨hf1, hf2⟩ := Hfin.out lo hml hhb
        have hg := Hlh0.out
        obtain ⟨ee, hee⟩ : ∃ ee, ee + lo = nn := ⟨nn - lo, by omega⟩
        have hee1 : m ≤ ee ∧ ee ≤ b ∧ lo + (ee - m) = mid ∧ lo ≤ m ∧ a ≤ lo := by have := Hnn.out; omega
        obtain ⟨he1, he2, he3, he4, he5⟩ := hee1
        obtain ⟨A1, A2, hAA, hA1⟩ := part A (k := lo - a) (by have := Hm.out; omega)
        obtain ⟨B1, B2, hBB, hB1⟩ := part B (k := ee - m) (by have := Hb.out; omega)
        have hlA := congrArg List.length hAA
        have hlB := congrArg List.length hBB
        rw [List.length_append] at hlA hlB
        have hc1 : ∀ x ∈ A1, ∀ y ∈ B2, LX ix x y := by
          have h0 := cut1 (ix := ix) HA.out HB.out Hix.out (lo - a) (ee - m) ?_ (by have := Hm.out; omega)
          · rw [hAA, hBB, List.take_append_of_le_length (by omega), List.take_of_length_le (by omega), List.drop_append, List.drop_eq_nil_of_le (by omega), hB1, Nat.sub_self, List.drop_zero, List.nil_append] at h0
            exact h0
          · rcases Hlo.out with h | h
            · rcases hf1 h with h | h
              · exact .inl (by omega)
              · exact .inr (.inl (by have := Hb.out; omega))
            · refine .inr (.inr fun x y hx hy => Int.not_lt.2 (h x y ?_ ?_))
              · rw [show lo - 1 - a = lo - a - 1 by omega]
                exact hx
              · rw [show nn - lo - m = ee - m by omega]
                exact hy
        have hc2 : ∀ y ∈ B1, ∀ x ∈ A2, LX ix y x := by
          have h0 := cut2 (ix := ix) HA.out HB.out (lo - a) (ee - m) ?_ (by have := Hb.out; omega)
          · rw [hAA, hBB, List.take_append_of_le_length (by omega), List.take_of_length_le (by omega), List.drop_append, List.drop_eq_nil_of_le (by omega), hA1, Nat.sub_self, List.drop_zero, List.nil_append] at h0
            exact h0
          · rcases Hhi.out with h | h
            · rcases hf2 h with h | h
              · exact .inr (.inl (by have := Hm.out; omega))
              · exact .inl (by omega)
            · refine .inr (.inr fun x y hx hy => h x y hx ?_)
              rw [show p - lo - m = ee - m - 1 by have := Hp.out; omega]
              exact hy
        have HAA := Lib.hid hAA
        have HBB := Lib.hid hBB
        have Hc1 := Lib.hid hc1
        have Hc2 := Lib.hid hc2
        have hsA1 : TmS A1 := HsA.out.sub fun t ht => by rw [hAA]; simp [ht]
        have hsA2 : TmS A2 := HsA.out.sub fun t ht => by rw [hAA]; simp [ht]
        have hsB1 : TmS B1 := HsB.out.sub fun t ht => by rw [hBB]; simp [ht]
        have hsB2 : TmS B2 := HsB.out.sub fun t ht => by rw [hBB]; simp [ht]
        have HsA1 := Lib.hid hsA1
        have HsA2 := Lib.hid hsA2
        have HsB1 := Lib.hid hsB1
        have HsB2 := Lib.hid hsB2
        have hi1 : lo = a + A1.length := by omega
        have hi2 : m = lo + A2.length := by have := Hm.out; omega
        have hi3 : ee = m + B1.length := by omega
        have hi4 : b = ee + B2.length := by have := Hb.out; omega
        have hi5 : mid = lo + B1.length := by omega
        have Hi1 := Lib.hid hi1
        have Hi2 := Lib.hid hi2
        have Hi3 := Lib.hid hi3
        have Hi4 := Lib.hid hi4
        have Hi5 := Lib.hid hi5
        have hwee : (nn : Int) - lo = (ee : Int) := by omega
        have hwe2 : IntKind.i64.wrap (ee : Int) = (ee : Int) := by rw [IntKind.wrap_i64]; omega
        have hlen : n = (P ++ (A1 ++ (A2 ++ (B1 ++ (B2 ++ S))))).length := by
          rw [Hn.out, hAA, hBB]
          simp
        have Hlen := Lib.hid hlen
        clear hAA hBB hc1 hc2 hsA1 hsA2 hsB1 hsB2 hi1 hi2 hi3 hi4 hi5 hee he1 he2 he3 he4 he5 hA1 hB1 hlA hlB hf1 hf2 hg hml hlh hhb Hlo Hhi hlen
        go_upto_region 39 with (fail)
        go_cut [24, 185] (fun e s wx => e = .int .i64 ee ∧ s = .bool (decide ((lo : Int) < m) && decide ((m : Int) < ee)) ∧ Ext w wx)
        case first => as_aux_lemma =>
          by_cases t1 : (lo : Int) < m
          · by_cases t2 : (m : Int) < ee
            · go_wp2
              go_meet
              exact ⟨rfl, by simp [t1, t2] <;> omega, Hx.out⟩
            · go_wp2
              go_meet
              exact ⟨rfl, by simp [t1] <;> omega, Hx.out⟩
          · go_wp2
            go_meet
            exact ⟨rfl, by simp <;> omega, Hx.out⟩
        obtain ⟨rfl, rfl, hx1⟩ := hcut
        rename World => wr
        have HtrX := Lib.hid (Htr.out.ext hx1)
        have Hx := Lib.hid hx1
        clear hx1
        go_upto_if 185 with (fail)
        go_cut [24] (fun s wx => s = .int .i64 ee ∧ TR wx g rs (P ++ (A1 ++ (B1 ++ (A2 ++ (B2 ++ S))))) ∧ Kept (fun k => k = g) w wx)
        case first => as_aux_lemma =>
          rcases A2 with _ | ⟨x2, A2⟩
          · have t1 : ¬(lo : Int) < m := by have := Hi2.out; simp only [List.length_nil] at this; omega
            go_wp2
            go_meet
            refine ⟨rfl, ?_, Ext.kept Hx.out _⟩
            have := HtrX.out
            rw [HAA.out, HBB.out] at this
            simpa using this
          · have t1 : (lo : Int) < m := by have := Hi2.out; simp only [List.length_cons] at this; omega
            rcases B1 with _ | ⟨y1, B1⟩
            · have t2 : ¬(m : Int) < ee := by have := Hi3.out; simp only [List.length_nil] at this; omega
              go_wp2
              go_meet
              refine ⟨rfl, ?_, Ext.kept Hx.out _⟩
              have := HtrX.out
              rw [HAA.out, HBB.out] at this
              simpa using this
            · have t2 : (m : Int) < ee := by have := Hi3.out; simp only [List.length_cons] at this; omega
              have hC := rotate_any wr g n cap rs (P ++ A1) (x2 :: A2) (y1 :: B1) (B2 ++ S) (by have := HtrX.out; rw [HAA.out, HBB.out] at this; simpa using this) HsA2.out HsB1.out (by simp) (by simp) lo m ee (by rw [List.length_append, Hi1.out, Ha.out]) (by rw [List.length_append, Hi2.out, Hi1.out, Ha.out]) (by rw [List.length_append, Hi3.out, Hi2.out, Hi1.out, Ha.out]) (by rw [Hlen.out]; simp) hn2
              rw [← Had.out] at hC
              have HC := Lib.hid hC
              clear hC
              go_wp2_with fail
              refine HC.out.mono ?_
              rintro e w5 ⟨rfl, htr5, hk5⟩
              have Htr5 := Lib.hid htr5
              have Hk5 := Lib.hid hk5
              clear htr5 hk5
              go_wp2
              go_meet
              exact ⟨rfl, by simpa using Htr5.out, (Ext.kept Hx.out _).trans Hk5.out⟩
        case rest => as_aux_lemma =>
          obtain ⟨rfl, htr2, hk2⟩ := hcut
          rename World => wa
          have Htr2 := Lib.hid htr2
          have Hk2 := Lib.hid hk2
          clear htr2 hk2
          go_upto_region 41 with (fail)
          go_cut [24, 199] (fun e s wx => e = .int .i64 ee ∧ s = .bool (decide ((a : Int) < lo) && decide ((lo : Int) < mid)) ∧ TR wx g rs (P ++ (A1 ++ (B1 ++ (A2 ++ (B2 ++ S))))) ∧ Kept (fun k => k = g) w wx)
          case first => as_aux_lemma =>
            by_cases t1 : (a : Int) < lo
            · by_cases t2 : (lo : Int) < mid
              · go_wp2
                go_meet
                exact ⟨rfl, by simp [t1, t2] <;> omega, Htr2.out, Hk2.out⟩
              · go_wp2
                go_meet
                exact ⟨rfl, by simp [t1] <;> omega, Htr2.out, Hk2.out⟩
            · go_wp2
              go_meet
              exact ⟨rfl, by simp <;> omega, Htr2.out, Hk2.out⟩
          obtain ⟨rfl, rfl, htr2, hk2⟩ := hcut
          rename World => wa
          have Htr2 := Lib.hid htr2
          have Hk2 := Lib.hid hk2
          clear htr2 hk2
          go_upto_if 199 with (fail)
          go_cut [24] (fun s wx => s = .int .i64 ee ∧ ∃ Z1, Z1.Perm (A1 ++ B1) ∧ So ix Z1 ∧ TR wx g rs (P ++ (Z1 ++ (A2 ++ (B2 ++ S)))) ∧ Kept (fun k => k = g) w wx)
          case first => as_aux_lemma =>
            by_cases h1 : A1 = []
            · subst h1
              have t1 : ¬(a : Int) < lo := by have := Hi1.out; simp only [List.length_nil] at this; omega
              go_wp2
              go_meet
              refine ⟨rfl, B1, by simp, (List.pairwise_append.1 (HBB.out ▸ HB.out)).1, by simpa using Htr2.out, Hk2.out⟩
            · have t1 : (a : Int) < lo := by have := Hi1.out; have := List.length_pos_iff.2 h1; omega
              by_cases h2 : B1 = []
              · subst h2
                have t2 : ¬(lo : Int) < mid := by have := Hi5.out; simp only [List.length_nil] at this; omega
                go_wp2
                go_meet
                refine ⟨rfl, A1, by simp, (List.pairwise_append.1 (HAA.out ▸ HA.out)).1, by simpa using Htr2.out, Hk2.out⟩
              · have t2 : (lo : Int) < mid := by have := Hi5.out; have := List.length_pos_iff.2 h2; omega
                have hC := (HI.out wa P A1 B1 (A2 ++ (B2 ++ S)) ?_ (by simpa using Htr2.out) HsA1.out HsB1.out (List.pairwise_append.1 (HAA.out ▸ HA.out)).1 (List.pairwise_append.1 (HBB.out ▸ HB.out)).1 (fun x hx y hy => Hix.out x (by rw [HAA.out]; simp [hx]) y (by rw [HBB.out]; simp [hy])) (List.length_pos_iff.2 h1) (List.length_pos_iff.2 h2) a lo mid Ha.out Hi1.out Hi5.out (by rw [Hlen.out]; simp; omega))
                · rw [← Had.out] at hC
                  have HC := Lib.hid hC
                  clear hC
                  have H1 := Lib.hid h1
                  have H2 := Lib.hid h2
                  clear h1 h2
                  go_wp2_with fail
                  refine HC.out.mono ?_
                  rintro e w5 ⟨rfl, Z1, hp5, hs5, htr5, hk5⟩
                  have Hp5 := Lib.hid hp5
                  have Hs5 := Lib.hid hs5
                  have Htr5 := Lib.hid htr5
                  have Hk5 := Lib.hid hk5
                  clear htr5 hk5 hp5 hs5
                  go_wp2
                  go_meet
                  exact ⟨rfl, Z1, Hp5.out, Hs5.out, Htr5.out, Hk2.out.trans Hk5.out⟩
                · have := HN.out
                  have e1 := Hm.out
                  have e2 := Hb.out
                  have e3 := Hi1.out
                  have e4 := Hi2.out
                  have e5 := Hi5.out
                  have := Hmidi.out
                  omega
          case rest => as_aux_lemma =>
            obtain ⟨rfl, Z1, hp3, hs3, htr3, hk3⟩ := hcut
            rename World => wb
            have hz1 : mid = P.length + Z1.length := by have := hp3.length_eq; rw [List.length_append] at this; have := Hi5.out; have := Hi1.out; have := Ha.out; omega
            have Hp3 := Lib.hid hp3
            have Hs3 := Lib.hid hs3
            have Htr3 := Lib.hid htr3
            have Hk3 := Lib.hid hk3
            have Hz1 := Lib.hid hz1
            clear htr3 hk3 hp3 hs3 hz1
            by_cases h1 : A2 = []
            · subst h1
              have t1 : ¬(mid : Int) < ee := by have := Hi5.out; have := Hi2.out; have := Hi3.out; simp only [List.length_nil] at *; omega
              go_wp2
              go_end0
              obtain ⟨m1, m2⟩ := merged (Z2 := B2) (HAA.out ▸ HA.out) (HBB.out ▸ HB.out) Hc1.out Hc2.out Hp3.out (by simp) Hs3.out (List.pairwise_append.1 (HBB.out ▸ HB.out)).2.1
              exact ⟨rfl, Z1 ++ B2, by rw [HAA.out, HBB.out]; exact m1, m2, by simpa using Htr3.out, Hk3.out⟩
            · have t1 : (mid : Int) < ee := by have := Hi5.out; have := Hi2.out; have := Hi3.out; have := List.length_pos_iff.2 h1; omega
              by_cases h2 : B2 = []
              · subst h2
                have t2 : ¬(ee : Int) < b := by have := Hi4.out; simp only [List.length_nil] at this; omega
                go_wp2
                go_end0
                obtain ⟨m1, m2⟩ := merged (Z2 := A2) (HAA.out ▸ HA.out) (HBB.out ▸ HB.out) Hc1.out Hc2.out Hp3.out (by simp) Hs3.out (List.pairwise_append.1 (HAA.out ▸ HA.out)).2.1
                exact ⟨rfl, Z1 ++ A2, by rw [HAA.out, HBB.out]; exact m1, m2, by simpa using Htr3.out, Hk3.out⟩
              · have t2 : (ee : Int) < b := by have := Hi4.out; have := List.length_pos_iff.2 h2; omega
                have hC := (HI.out wb (P ++ Z1) A2 B2 S ?_ (by simpa using Htr3.out) HsA2.out HsB2.out (List.pairwise_append.1 (HAA.out ▸ HA.out)).2.1 (List.pairwise_append.1 (HBB.out ▸ HB.out)).2.1 (fun x hx y hy => Hix.out x (by rw [HAA.out]; simp [hx]) y (by rw [HBB.out]; simp [hy])) (List.length_pos_iff.2 h1) (List.length_pos_iff.2 h2) mid ee b (by rw [List.length_append, Hz1.out]) (by have := Hi5.out; have := Hi2.out; have := Hi3.out; omega) Hi4.out (by have := Hp3.out.length_eq; rw [Hlen.out]; simp at this ⊢; omega))
                · rw [← Had.out] at hC
                  have HC := Lib.hid hC
                  clear hC
                  have H1 := Lib.hid h1
                  have H2 := Lib.hid h2
                  clear h1 h2
                  go_wp2_with fail
                  refine HC.out.mono ?_
                  rintro e w5 ⟨rfl, Z2, hp5, hs5, htr5, hk5⟩
                  have Hp5 := Lib.hid hp5
                  have Hs5 := Lib.hid hs5
                  have Htr5 := Lib.hid htr5
                  have Hk5 := Lib.hid hk5
                  clear htr5 hk5 hp5 hs5
                  go_wp2
                  go_end0
                  obtain ⟨m1, m2⟩ := merged (HAA.out ▸ HA.out) (HBB.out ▸ HB.out) Hc1.out Hc2.out Hp3.out Hp5.out Hs3.out Hs5.out
                  exact ⟨rfl, Z1 ++ Z2, by rw [HAA.out, HBB.out]; exact m1, m2, by simpa using Htr5.out, Hk3.out.trans Hk5.out⟩
                · have := HN.out
                  have e1 := Hm.out
                  have e2 := Hb.out
                  have e3 := Hi1.out
                  have e4 := Hi2.out
                  have e5 := Hi5.out
                  have e6 := Hi4.out
                  have e7 := Hi3.out
                  have := Hmidi.out
                  omega
theorem sym_any (ix : Tm → Nat) (g n cap : Nat) (rs : List Value) (hn2 : n ≤ 1000000) : ∀ N : Nat, SymOk ix g n cap rs N
  | 0 => fun _ _ A B _ hN _ _ _ _ _ _ hA0 hB0 => by omega
  | N + 1 => sym_step ix g n cap rs hn2 N (Lib.hid (sym_any ix g n cap rs hn2 N))
end Go.Proofs.Ytbnjhpknagkiaaa
