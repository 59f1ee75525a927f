/-
  Contract of the reference's Get.
  Conditions: rows of bytes of at most 1,000,000.
-/
import Derived.Test.YtgipbkfpfidpmaaFh
namespace Go.Proofs.Ytgipbkfpfidpmaa
open Go.RowKit

theorem BS.cast_ {w : World} {B : Nat} {u v : Value} {bs : List UInt8} (h : u = v) (hb : BS w B u bs) : BS w B v bs := h ▸ hb
theorem fs4_four {R : List UInt8} (h : 4 ≤ R.length) : fs4 (R.take 4) = (R[0]'(by omega)).toNat * 16777216 + (R[1]'(by omega)).toNat * 65536 + (R[2]'(by omega)).toNat * 256 + (R[3]'(by omega)).toNat := by
  match R, h with
  | a :: b :: c :: d :: _, _ =>
    simp [fs4]
    omega

set_option maxHeartbeats 4000000 in
set_option maxRecDepth 100000 in
theorem rfget_old (w : World) (B : Nat) (v : Value) (bs : List UInt8) (hb : BS w B v bs) (hB : B ≤ w.heap.size) (hl : bs.length ≤ 1000000) :
    Calls Try.prog 13 #[v] w fun e w' => ∃ p r, e = .returned (.tuple #[p, r, .int .i64 (fgE bs)]) ∧ BS w' B p (fgP bs) ∧ BS w' B r (fgR bs) ∧ Ext w w' := by
  obtain ⟨A, c, rfl⟩ := hb.form
  have Hb := Lib.hid hb
  clear hb
  go_enter Try.func13, Try.ntmps13
  go_wp2_with fail
  refine (rget_any w B _ bs Hb.out hB hl).mono ?_
  rintro e w1 ⟨r, rfl, hr, hx1⟩
  have hB1 : B ≤ w1.heap.size := Nat.le_trans hB hx1.size
  have hrl := vgRest_le bs
  have hNu := (vgN_64 bs).lt
  have hdef : fgE bs = if vgE bs = 6 then 41 else if vgE bs ≠ 0 ∨ 16777216 < vgN bs then 40 else if (vgRest bs).length < 4 + vgN bs then 41
    else if cnext 0 (fgHead bs ++ fgPay bs) ≠ fs4 ((vgRest bs).take 4) then 40 else 0 := rfl
  have hh : fgHead bs = bs.take (bs.length - (vgRest bs).length) := rfl
  have hpay : fgPay bs = ((vgRest bs).drop 4).take (vgN bs) := rfl
  have hR : fgE bs = 0 → fgR bs = (vgRest bs).drop (4 + vgN bs) := fun h => if_pos h
  have hP : fgE bs = 0 → fgP bs = fgPay bs := fun h => if_pos h
  obtain ⟨Ar, cr, rfl⟩ := hr.form
  have Hr := Lib.hid hr
  have Hx1 := Lib.hid hx1
  generalize vgRest bs = R at hr hrl hdef hh hpay hR Hr
  generalize vgN bs = N at hNu hdef hpay hR
  generalize vgE bs = E at hdef
  have nils : ∀ k, fgE bs = k → k ≠ 0 → ∀ (W : World) (B : Nat), BS W B (.slice none 0 0) (fgP bs) ∧ BS W B (.slice none 0 0) (fgR bs) := by
    intro k hk h0 W B
    obtain ⟨e1, e2⟩ := fg_err hk h0
    rw [e1, e2]
    exact ⟨BS.nil_ _ _, BS.nil_ _ _⟩
  have Nils := Lib.hid nils
  have HR := Lib.hid hR
  have HP := Lib.hid hP
  have Hh := Lib.hid hh
  have Hpay := Lib.hid hpay
  clear hr hx1 nils hR hP hh hpay
  by_cases h6 : E = 6
  · subst h6
    rw [if_pos rfl] at hdef
    have Hdef := Lib.hid hdef
    clear hdef
    go_wp2
    go_ret3
    exact ⟨_, _, by rw [Hdef.out]; rfl, (Nils.out 41 Hdef.out (by decide) _ _).1, (Nils.out 41 Hdef.out (by decide) _ _).2, Hx1.out⟩
  · rw [if_neg h6] at hdef
    have h6' : ((E : Int) == 6) = false := by rw [beq_eq_false_iff_ne]; omega
    by_cases h0 : E = 0
    · subst h0
      by_cases hN : 16777216 < N
      · have hN' : (16777216 : Int) < (N : Int) := by omega
        rw [if_pos (.inr hN)] at hdef
        have Hdef := Lib.hid hdef
        clear hdef
        go_wp2
        go_ret3
        exact ⟨_, _, by rw [Hdef.out]; rfl, (Nils.out 40 Hdef.out (by decide) _ _).1, (Nils.out 40 Hdef.out (by decide) _ _).2, Hx1.out⟩
      · have hN' : ¬(16777216 : Int) < (N : Int) := by omega
        rw [if_neg (by omega)] at hdef
        by_cases hsh : R.length < 4 + N
        · rw [if_pos hsh] at hdef
          have Hdef := Lib.hid hdef
          clear hdef
          by_cases hr4 : R.length < 4
          · go_wp2
            go_ret3
            exact ⟨_, _, by rw [Hdef.out]; rfl, (Nils.out 41 Hdef.out (by decide) _ _).1, (Nils.out 41 Hdef.out (by decide) _ _).2, Hx1.out⟩
          · have hr4' : decide ((R.length : Int) < 4) = false := decide_eq_false (by omega)
            have hr5' : (R.length : Int) - 4 < (N : Int) := by omega
            go_wp2
            go_ret3
            exact ⟨_, _, by rw [Hdef.out]; rfl, (Nils.out 41 Hdef.out (by decide) _ _).1, (Nils.out 41 Hdef.out (by decide) _ _).2, Hx1.out⟩
        · rw [if_neg hsh] at hdef
          have Hdef := Lib.hid hdef
          clear hdef
          obtain ⟨ad, rfl, had, hcell, hcr⟩ : ∃ ad, Ar = some ad ∧ ad.block < B ∧ (∀ j u, (bv R)[j]? = some u → w1.cell? (ad.add j) = some u) ∧ R.length ≤ cr := by
            obtain ⟨A', c', hv, e1, e2, e3, e4⟩ := Hr.out
            simp only [Value.slice.injEq] at hv
            obtain ⟨rfl, _, rfl⟩ := hv
            obtain ⟨ad, rfl, hlt, hc⟩ := e4.2 (by omega)
            exact ⟨ad, rfl, hlt, hc, e1⟩
          have Hcell := Lib.hid hcell
          clear hcell
          have hca : bs.length ≤ c := by
            obtain ⟨A', c', hv, e1, _⟩ := Hb.out
            simp only [Value.slice.injEq] at hv
            omega
          have hr4' : decide ((R.length : Int) < 4) = false := decide_eq_false (by omega)
          have hr5' : ¬(R.length : Int) - 4 < (N : Int) := by omega
          have hP4 : BS w1 B (.slice (if cr = 4 then some ad else (some ad).map (·.add 4)) N (cr - 4)) (fgPay bs) := by
            rw [Hpay.out]
            exact Hr.out.mid (k := 4) (n := N) (by omega)
          obtain ⟨Ap, hAp⟩ : ∃ Ap, Ap = (if cr = 4 then some ad else (some ad).map (·.add 4)) := ⟨_, rfl⟩
          rw [← hAp] at hP4
          have HAp := Lib.hid hAp
          have HP4 := Lib.hid hP4
          have hH1 : BS w1 B (.slice A (bs.length - R.length) c) (fgHead bs) := by
            rw [Hh.out]
            exact (Hb.out.take_ (k := bs.length - R.length) (by omega)).ext hB Hx1.out
          have HH1 := Lib.hid hH1
          have hHl : (fgHead bs).length ≤ 1000000 := by rw [Hh.out, List.length_take]; omega
          have hPl : (fgPay bs).length ≤ 1000000 := by rw [Hpay.out, List.length_take, List.length_drop]; omega
          clear hAp hP4 hH1
          by_cases hc4 : cr = 4
          · have hA2 : Ap = some ad := by rw [HAp.out, if_pos hc4]
            subst hA2
            subst hc4
            go_wp2_with (at_builtin; first
              | (refine wpList_append_bytes _ rfl (.tmp 47) (.tmp 50) rfl w1.heap.size (.slice (some ⟨w1.heap.size, 0, none⟩) 0 0) [] rfl (own_empty _ _) B (.slice A (bs.length - R.length) c) (fgHead bs) rfl (HH1.out.ext hB1 (Ext.of_alloc _ _)) (by simp; omega) (by simp) ?_; intro v2 w2 hown2 hg2 hat2; have hx2 : Ext w1 w2 := ((Below.refl _ _).alloc (Nat.le_refl _) _).grown hg2 (by simp) (by simp [Value.ownBlock]); rw [List.nil_append] at hown2)
              | (refine wpList_append_bytes _ rfl (.tmp 51) (.tmp 52) rfl w1.heap.size _ (fgHead bs) rfl hown2 B (.slice (some ad) N 0) (fgPay bs) rfl (HP4.out.ext hB1 hx2) (by omega) hx2.size ?_; intro v3 w3 hown3 hg3 hat3; have hx3 : Ext w1 w3 := hx2.grown hg3 hx2.size (own_ge hown2)))
            refine (of_any w3 v3 (fgHead bs ++ fgPay bs) (Own.bs hown3) (by rw [List.length_append]; omega)).mono ?_
            rintro e w' ⟨rfl, rfl⟩
            have h13 := Ext.trans Hx1.out hx3
            have H13 := Lib.hid h13
            have hB3 : B ≤ w3.heap.size := Nat.le_trans hB h13.size
            have HP3 := Lib.hid (HP4.out.ext hB1 hx3)
            have HR3 := Lib.hid (Hr.out.ext hB1 hx3)
            have g0 := (hx3.cell (p := ad.add 0) (by rw [addBlock]; omega)).trans (Hcell.out 0 _ (bv_get R 0 (by omega)))
            have g1 := (hx3.cell (p := ad.add 1) (by rw [addBlock]; omega)).trans (Hcell.out 1 _ (bv_get R 1 (by omega)))
            have g2 := (hx3.cell (p := ad.add 2) (by rw [addBlock]; omega)).trans (Hcell.out 2 _ (bv_get R 2 (by omega)))
            have g3 := (hx3.cell (p := ad.add 3) (by rw [addBlock]; omega)).trans (Hcell.out 3 _ (bv_get R 3 (by omega)))
            have hfs := fs4_four (R := R) (by omega)
            have b0 := (R[0]'(by omega)).toNat_lt
            have b1 := (R[1]'(by omega)).toNat_lt
            have b2 := (R[2]'(by omega)).toNat_lt
            have b3 := (R[3]'(by omega)).toNat_lt
            have Hfs := Lib.hid hfs
            clear hown2 hown3 hg2 hg3 hat2 hat3 hx2 hx3 h13 hfs
            generalize R[0]'(by omega) = X0 at g0 b0 Hfs
            generalize R[1]'(by omega) = X1 at g1 b1 Hfs
            generalize R[2]'(by omega) = X2 at g2 b2 Hfs
            generalize R[3]'(by omega) = X3 at g3 b3 Hfs
            have g0' : w3.cell? ad = some (.int .u8 (X0.toNat : Int)) := g0
            have g1' : w3.cell? ⟨ad.block, ad.off + 1, none⟩ = some (.int .u8 (X1.toNat : Int)) := g1
            have g2' : w3.cell? ⟨ad.block, ad.off + 2, none⟩ = some (.int .u8 (X2.toNat : Int)) := g2
            have g3' : w3.cell? ⟨ad.block, ad.off + 3, none⟩ = some (.int .u8 (X3.toNat : Int)) := g3
            have i0 : (0 : Int) < (R.length : Int) := by omega
            have i1 : (1 : Int) < (R.length : Int) := by omega
            have i2 : (2 : Int) < (R.length : Int) := by omega
            have i3 : (3 : Int) < (R.length : Int) := by omega
            by_cases hS : cnext 0 (fgHead bs ++ fgPay bs) = fs4 (R.take 4)
            · have hdef0 : fgE bs = 0 := by rw [Hdef.out, if_neg (by simpa using hS)]
              have HE := Lib.hid hdef0
              have hR0 := Lib.hid (HR.out HE.out)
              have hP0 := Lib.hid (HP.out HE.out)
              have hne : (((cnext 0 (fgHead bs ++ fgPay bs) : Nat) : Int) != (X0.toNat : Int) * 16777216 + (X1.toNat : Int) * 65536 + (X2.toNat : Int) * 256 + (X3.toNat : Int)) = false := by
                rw [bne_eq_false_iff_eq, hS, Hfs.out]
                omega
              have hcut := HR3.out.cut_ (k := 4 + N) (by omega)
              clear hdef0 hS
              by_cases hc5 : 4 = 4 + N
              · rw [if_pos hc5] at hcut
                have hN0 : N = 0 := by omega
                subst hN0
                clear hc5
                have Hcut := Lib.hid hcut
                clear hcut
                go_wp2
                go_quiet (fail)
                go_wp2
                go_quiet (fail)
                all_goals go_wp2
                all_goals go_ret3
                refine ⟨_, _, by rw [HE.out]; rfl, ?_, ?_, (H13.out.trans (Ext.drewN _ _)).trans (Ext.drewN _ _)⟩
                · rw [hP0.out]
                  refine BS.cast_ ?_ ((HP3.out.ext hB3 (Ext.drewN w3 _)).ext hB3 (Ext.drewN _ _))
                  first | rfl | (simp; done) | (simp; omega)
                · rw [hR0.out]
                  refine BS.cast_ ?_ ((Hcut.out.ext hB3 (Ext.drewN w3 _)).ext hB3 (Ext.drewN _ _))
                  first | rfl | (simp; done) | (simp; omega)
              · exact absurd (show 4 = 4 + N by omega) hc5
            · have hdef0 : fgE bs = 40 := by rw [Hdef.out, if_pos (by simpa using hS)]
              have HE := Lib.hid hdef0
              have hne : (((cnext 0 (fgHead bs ++ fgPay bs) : Nat) : Int) != (X0.toNat : Int) * 16777216 + (X1.toNat : Int) * 65536 + (X2.toNat : Int) * 256 + (X3.toNat : Int)) = true := by
                rw [bne_iff_ne]
                rw [Hfs.out] at hS
                omega
              clear hdef0 hS
              go_wp2
              go_quiet (fail)
              go_wp2
              go_ret3
              exact ⟨_, _, by rw [HE.out]; rfl, (Nils.out 40 HE.out (by decide) _ _).1, (Nils.out 40 HE.out (by decide) _ _).2, H13.out.trans (Ext.drewN _ _)⟩
          · have hA2 : Ap = some ⟨ad.block, ad.off + 4, none⟩ := by rw [HAp.out, if_neg hc4]; simp [Addr.add]
            subst hA2
            go_wp2_with (at_builtin; first
              | (refine wpList_append_bytes _ rfl (.tmp 47) (.tmp 50) rfl w1.heap.size (.slice (some ⟨w1.heap.size, 0, none⟩) 0 0) [] rfl (own_empty _ _) B (.slice A (bs.length - R.length) c) (fgHead bs) rfl (HH1.out.ext hB1 (Ext.of_alloc _ _)) (by simp; omega) (by simp) ?_; intro v2 w2 hown2 hg2 hat2; have hx2 : Ext w1 w2 := ((Below.refl _ _).alloc (Nat.le_refl _) _).grown hg2 (by simp) (by simp [Value.ownBlock]); rw [List.nil_append] at hown2)
              | (refine wpList_append_bytes _ rfl (.tmp 51) (.tmp 52) rfl w1.heap.size _ (fgHead bs) rfl hown2 B (.slice (some ⟨ad.block, ad.off + 4, none⟩) N (cr - 4)) (fgPay bs) rfl (HP4.out.ext hB1 hx2) (by omega) hx2.size ?_; intro v3 w3 hown3 hg3 hat3; have hx3 : Ext w1 w3 := hx2.grown hg3 hx2.size (own_ge hown2)))
            refine (of_any w3 v3 (fgHead bs ++ fgPay bs) (Own.bs hown3) (by rw [List.length_append]; omega)).mono ?_
            rintro e w' ⟨rfl, rfl⟩
            have h13 := Ext.trans Hx1.out hx3
            have H13 := Lib.hid h13
            have hB3 : B ≤ w3.heap.size := Nat.le_trans hB h13.size
            have HP3 := Lib.hid (HP4.out.ext hB1 hx3)
            have HR3 := Lib.hid (Hr.out.ext hB1 hx3)
            have g0 := (hx3.cell (p := ad.add 0) (by rw [addBlock]; omega)).trans (Hcell.out 0 _ (bv_get R 0 (by omega)))
            have g1 := (hx3.cell (p := ad.add 1) (by rw [addBlock]; omega)).trans (Hcell.out 1 _ (bv_get R 1 (by omega)))
            have g2 := (hx3.cell (p := ad.add 2) (by rw [addBlock]; omega)).trans (Hcell.out 2 _ (bv_get R 2 (by omega)))
            have g3 := (hx3.cell (p := ad.add 3) (by rw [addBlock]; omega)).trans (Hcell.out 3 _ (bv_get R 3 (by omega)))
            have hfs := fs4_four (R := R) (by omega)
            have b0 := (R[0]'(by omega)).toNat_lt
            have b1 := (R[1]'(by omega)).toNat_lt
            have b2 := (R[2]'(by omega)).toNat_lt
            have b3 := (R[3]'(by omega)).toNat_lt
            have Hfs := Lib.hid hfs
            clear hown2 hown3 hg2 hg3 hat2 hat3 hx2 hx3 h13 hfs
            generalize R[0]'(by omega) = X0 at g0 b0 Hfs
            generalize R[1]'(by omega) = X1 at g1 b1 Hfs
            generalize R[2]'(by omega) = X2 at g2 b2 Hfs
            generalize R[3]'(by omega) = X3 at g3 b3 Hfs
            have g0' : w3.cell? ad = some (.int .u8 (X0.toNat : Int)) := g0
            have g1' : w3.cell? ⟨ad.block, ad.off + 1, none⟩ = some (.int .u8 (X1.toNat : Int)) := g1
            have g2' : w3.cell? ⟨ad.block, ad.off + 2, none⟩ = some (.int .u8 (X2.toNat : Int)) := g2
            have g3' : w3.cell? ⟨ad.block, ad.off + 3, none⟩ = some (.int .u8 (X3.toNat : Int)) := g3
            have i0 : (0 : Int) < (R.length : Int) := by omega
            have i1 : (1 : Int) < (R.length : Int) := by omega
            have i2 : (2 : Int) < (R.length : Int) := by omega
            have i3 : (3 : Int) < (R.length : Int) := by omega
            by_cases hS : cnext 0 (fgHead bs ++ fgPay bs) = fs4 (R.take 4)
            · have hdef0 : fgE bs = 0 := by rw [Hdef.out, if_neg (by simpa using hS)]
              have HE := Lib.hid hdef0
              have hR0 := Lib.hid (HR.out HE.out)
              have hP0 := Lib.hid (HP.out HE.out)
              have hne : (((cnext 0 (fgHead bs ++ fgPay bs) : Nat) : Int) != (X0.toNat : Int) * 16777216 + (X1.toNat : Int) * 65536 + (X2.toNat : Int) * 256 + (X3.toNat : Int)) = false := by
                rw [bne_eq_false_iff_eq, hS, Hfs.out]
                omega
              have hcut := HR3.out.cut_ (k := 4 + N) (by omega)
              clear hdef0 hS
              by_cases hc5 : cr = 4 + N
              · rw [if_pos hc5] at hcut
                have Hcut := Lib.hid hcut
                clear hcut
                go_wp2
                go_quiet (fail)
                go_wp2
                go_quiet (fail)
                all_goals go_wp2
                all_goals go_ret3
                refine ⟨_, _, by rw [HE.out]; rfl, ?_, ?_, (H13.out.trans (Ext.drewN _ _)).trans (Ext.drewN _ _)⟩
                · rw [hP0.out]
                  refine BS.cast_ ?_ ((HP3.out.ext hB3 (Ext.drewN w3 _)).ext hB3 (Ext.drewN _ _))
                  first | rfl | simp [hc5]
                · rw [hR0.out]
                  refine BS.cast_ ?_ ((Hcut.out.ext hB3 (Ext.drewN w3 _)).ext hB3 (Ext.drewN _ _))
                  first | rfl | simp [hc5]
              · rw [if_neg hc5] at hcut
                have Hcut := Lib.hid hcut
                clear hcut
                go_wp2
                go_quiet (fail)
                go_wp2
                go_quiet (fail)
                all_goals go_wp2
                all_goals go_ret3
                refine ⟨_, _, by rw [HE.out]; rfl, ?_, ?_, (H13.out.trans (Ext.drewN _ _)).trans (Ext.drewN _ _)⟩
                · rw [hP0.out]
                  exact ((HP3.out.ext hB3 (Ext.drewN _ _)).ext hB3 (Ext.drewN _ _))
                · rw [hR0.out]
                  exact (Hcut.out.ext hB3 (Ext.drewN w3 _)).ext hB3 (Ext.drewN _ _)
            · have hdef0 : fgE bs = 40 := by rw [Hdef.out, if_pos (by simpa using hS)]
              have HE := Lib.hid hdef0
              have hne : (((cnext 0 (fgHead bs ++ fgPay bs) : Nat) : Int) != (X0.toNat : Int) * 16777216 + (X1.toNat : Int) * 65536 + (X2.toNat : Int) * 256 + (X3.toNat : Int)) = true := by
                rw [bne_iff_ne]
                rw [Hfs.out] at hS
                omega
              clear hdef0 hS
              go_wp2
              go_quiet (fail)
              go_wp2
              go_ret3
              exact ⟨_, _, by rw [HE.out]; rfl, (Nils.out 40 HE.out (by decide) _ _).1, (Nils.out 40 HE.out (by decide) _ _).2, H13.out.trans (Ext.drewN _ _)⟩
    · have h0' : ((E : Int) != 0) = true := by rw [bne_iff_ne]; omega
      rw [if_pos (.inl h0)] at hdef
      have Hdef := Lib.hid hdef
      clear hdef
      go_wp2
      go_ret3
      exact ⟨_, _, by rw [Hdef.out]; rfl, (Nils.out 40 Hdef.out (by decide) _ _).1, (Nils.out 40 Hdef.out (by decide) _ _).2, Hx1.out⟩

/-- the same, its payload and its rest anywhere -/
theorem rfget_any (w : World) (v : Value) (bs : List UInt8) (hb : BS w w.heap.size v bs) (hl : bs.length ≤ 1000000) :
    Calls Try.prog 13 #[v] w fun e w' => ∃ p r, e = .returned (.tuple #[p, r, .int .i64 (fgE bs)]) ∧ BS w' w'.heap.size p (fgP bs) ∧ BS w' w'.heap.size r (fgR bs) ∧ Ext w w' := by
  refine (rfget_old w w.heap.size v bs hb (Nat.le_refl _) hl).mono ?_
  rintro e w' ⟨p, r, he, hp, hr, hx⟩
  exact ⟨p, r, he, hp.more hx.size, hr.more hx.size, hx⟩

end Go.Proofs.Ytgipbkfpfidpmaa
