/-
  Contracts of frame.Get and of the reference's Get.
  Conditions: rows of bytes of at most 1,000,000.
-/
import Derived.Test.YtgipbkfpfidpmaaFb
import Derived.Test.YtgipbkfpfidpmaaFg
import Derived.Test.YtgipbkfpfidpmaaVa
import Derived.Test.YtgipbkfpfidpmaaVc
import Derived.Test.YtgipbkfpfidpmaaVd
import Derived.BigQuiet
namespace Go.Proofs.Ytgipbkfpfidpmaa
open Go.RowKit

theorem vgRest_le (bs : List UInt8) : (vgRest bs).length ≤ bs.length := by
  unfold vgRest
  split
  · rw [List.length_drop]; omega
  · simp
theorem u32_shl {s : Nat} (h : s < 16777216) : IntKind.u32.wrap ((s : Int) * 256) = ((s * 256 : Nat) : Int) := by
  rw [IntKind.wrap_u32']
  omega

set_option maxHeartbeats 4000000 in
set_option maxRecDepth 100000 in
theorem fget_at (w : World) (B : Nat) (hB : B ≤ w.heap.size) (v : Value) (bs : List UInt8) (hb : BS w B v bs) (hl : bs.length ≤ 1000000) :
    Calls Try.prog 12 #[v] w fun e w' => ∃ p r, e = .returned (.tuple #[p, r, .int .i64 (fgE bs)]) ∧ Own w' w.heap.size p (fgP bs) ∧ BS w' B r (fgR bs) ∧ Ext w w' := by
  obtain ⟨A, c, rfl⟩ := hb.form
  have Hb := Lib.hid hb
  clear hb
  go_enter Try.func12, Try.ntmps12
  go_wp2_with fail
  refine (get_any w B _ bs Hb.out hB hl).mono ?_
  rintro e w1 ⟨r, rfl, hr, hx1⟩
  have hrl := vgRest_le bs
  have hNu := (vgN_64 bs).lt
  have hdef : fgE bs = if vgE bs = 6 then 41 else if vgE bs ≠ 0 ∨ 16777216 < vgN bs then 40 else if (vgRest bs).length < 4 + vgN bs then 41
    else if cnext 0 (fgHead bs ++ fgPay bs) ≠ fs4 ((vgRest bs).take 4) then 40 else 0 := rfl
  have hh : fgHead bs = bs.take (bs.length - (vgRest bs).length) := rfl
  have hpay : fgPay bs = ((vgRest bs).drop 4).take (vgN bs) := rfl
  have hR : fgE bs = 0 → fgR bs = (vgRest bs).drop (4 + vgN bs) := fun h => if_pos h
  have hP : fgE bs = 0 → fgP bs = fgPay bs := fun h => if_pos h
  obtain ⟨Ar, cr, rfl⟩ := hr.form
  have Hr := Lib.hid hr
  have Hx1 := Lib.hid hx1
  generalize vgRest bs = R at hr hrl hdef hh hpay hR Hr
  generalize vgN bs = N at hNu hdef hpay hR
  generalize vgE bs = E at hdef
  have nils : ∀ k, fgE bs = k → k ≠ 0 → ∀ (W : World) (B : Nat), Own W B (.slice none 0 0) (fgP bs) ∧ BS W B (.slice none 0 0) (fgR bs) := by
    intro k hk h0 W B
    obtain ⟨e1, e2⟩ := fg_err hk h0
    rw [e1, e2]
    exact ⟨Own.nil_ _ _, BS.nil_ _ _⟩
  have Nils := Lib.hid nils
  have HR := Lib.hid hR
  have HP := Lib.hid hP
  have Hh := Lib.hid hh
  have Hpay := Lib.hid hpay
  clear hr hx1 nils hR hP hh hpay
  by_cases h6 : E = 6
  · subst h6
    rw [if_pos rfl] at hdef
    have Hdef := Lib.hid hdef
    clear hdef
    go_wp2
    go_ret3
    exact ⟨_, _, by rw [Hdef.out]; rfl, (Nils.out 41 Hdef.out (by decide) _ _).1, (Nils.out 41 Hdef.out (by decide) _ _).2, Hx1.out⟩
  · rw [if_neg h6] at hdef
    have h6' : ((E : Int) == 6) = false := by rw [beq_eq_false_iff_ne]; omega
    by_cases h0 : E = 0
    · subst h0
      by_cases hN : 16777216 < N
      · have hN' : (16777216 : Int) < (N : Int) := by omega
        rw [if_pos (.inr hN)] at hdef
        have Hdef := Lib.hid hdef
        clear hdef
        go_wp2
        go_ret3
        exact ⟨_, _, by rw [Hdef.out]; rfl, (Nils.out 40 Hdef.out (by decide) _ _).1, (Nils.out 40 Hdef.out (by decide) _ _).2, Hx1.out⟩
      · have hN' : ¬(16777216 : Int) < (N : Int) := by omega
        rw [if_neg (by omega)] at hdef
        by_cases hsh : R.length < 4 + N
        · rw [if_pos hsh] at hdef
          have Hdef := Lib.hid hdef
          clear hdef
          go_wp2
          go_ret3
          exact ⟨_, _, by rw [Hdef.out]; rfl, (Nils.out 41 Hdef.out (by decide) _ _).1, (Nils.out 41 Hdef.out (by decide) _ _).2, Hx1.out⟩
        · rw [if_neg hsh] at hdef
          have Hdef := Lib.hid hdef
          clear hdef
          obtain ⟨ad, rfl, had, hcell, hcr⟩ : ∃ ad, Ar = some ad ∧ ad.block < B ∧ (∀ j u, (bv R)[j]? = some u → w1.cell? (ad.add j) = some u) ∧ R.length ≤ cr := by
            obtain ⟨A', c', hv, e1, e2, e3, e4⟩ := Hr.out
            simp only [Value.slice.injEq] at hv
            obtain ⟨rfl, _, rfl⟩ := hv
            obtain ⟨ad, rfl, hlt, hc⟩ := e4.2 (by omega)
            exact ⟨ad, rfl, hlt, hc, e1⟩
          have hca : bs.length ≤ c := by
            obtain ⟨A', c', hv, e1, _⟩ := Hb.out
            simp only [Value.slice.injEq] at hv
            omega
          have Hcell := Lib.hid hcell
          clear hcell
          go_wp2
          go_loop [7, 43] (fun x i => ∃ k : Nat, i = .int .i64 k ∧ k ≤ 4 ∧ x = .int .u32 (fs4 (R.take k))) (fun _ i => 4 - (intOf i).toNat)
          case atStart => exact ⟨0, rfl, by decide, rfl⟩
          case round =>
            obtain ⟨k, rfl, hk, rfl⟩ := hrel
            by_cases hk4 : k < 4
            · have hkR : k < R.length := by omega
              have hx := Hcell.out k _ (bv_get R k hkR)
              have hsm : fs4 (R.take k) < 16777216 := Nat.lt_of_lt_of_le (fs4_small (k := k) (by rw [List.length_take]; omega)) (show 256 ^ k ≤ 256 ^ 3 from Nat.pow_le_pow_right (by decide) (by omega))
              have hnx : fs4 (R.take (k + 1)) = fs4 (R.take k) * 256 + R[k].toNat := by
                rw [List.take_succ_eq_append_getElem hkR, fs4_snoc]
              have hb := R[k].toNat_lt
              have Hnx := Lib.hid hnx
              clear hnx
              generalize R[k] = X at hx hb Hnx
              generalize fs4 (R.take k) = S at hsm Hnx
              have hs := u32_shl hsm
              have hor : bits .or .u32 ((S : Int) * 256) (X.toNat : Int) = ((S * 256 + X.toNat : Nat) : Int) := by
                have h1 := u32_or_nat (S * 256) X.toNat (by omega) (by omega)
                rw [or256 S X.toNat (by omega)] at h1
                exact_mod_cast h1
              go_wp2
              exact ⟨⟨k + 1, rfl, by omega, by rw [Hnx.out]; exact congrArg _ (by omega)⟩, by simp only [intOf]; omega⟩
            · by_cases hc4 : cr = 4
              · go_wp2_with fail
                have hP4 : BS w1 B (.slice (some ad) N 0) (fgPay bs) := by
                  rw [Hpay.out]
                  have := Hr.out.mid (k := 4) (n := N) (by omega)
                  simpa [hc4] using this
                refine (clone_any w1 B _ (fgPay bs) hP4 (Nat.le_trans hB Hx1.out.size) (by rw [Hpay.out, List.length_take]; omega)).mono ?_
                rintro e w2 ⟨v2, rfl, hown2, hx2⟩
                have hx12 := Ext.trans Hx1.out hx2
                have Hx22 := Lib.hid hx2
                have hH2 : BS w2 w2.heap.size (.slice A (bs.length - R.length) c) (fgHead bs) := by
                  rw [Hh.out]
                  exact ((Hb.out.take_ (k := bs.length - R.length) (by omega)).ext hB hx12).more (Nat.le_trans hB hx12.size)
                have hP2 := Own.bs hown2
                have hHl : (fgHead bs).length ≤ 1000000 := by rw [Hh.out, List.length_take]; omega
                have hPl : (fgPay bs).length ≤ 1000000 := by rw [Hpay.out, List.length_take, List.length_drop]; omega
                have hk' : k = 4 := by omega
                subst hk'
                have hsm : csumTo 0 [fgHead bs, fgPay bs] = cnext 0 (fgHead bs ++ fgPay bs) := by rw [cnext_append]; rfl
                have hPe : fgPay bs = fgPay bs := rfl
                generalize hPP : fgPay bs = P at hP2 hPl hsm hown2
                obtain ⟨A2, c2, rfl⟩ := hP2.form
                have HH2 := Lib.hid hH2
                have HP2 := Lib.hid hP2
                have Hown2 := Lib.hid (Own.base hown2 Hx1.out.size)
                have Hx12 := Lib.hid hx12
                have HPP := Lib.hid hPP
                clear hH2 hP2 hx12 hx2 hown2 hP4 hPP hPe
                go_wp2_with fail
                refine (sum_any (w2.alloc (.cells #[.slice A (bs.length - R.length) c, .slice A2 P.length c2] 22)) (.slice (some ⟨w2.heap.size, 0, none⟩) 2 2) [fgHead bs, P] (by simpa using two_ w2 _ _ _ _ HH2.out HP2.out) (by
                  intro b hb
                  simp only [List.mem_cons, List.not_mem_nil, or_false] at hb
                  rcases hb with rfl | rfl <;> omega) (by simp)).mono ?_
                rintro e w3 ⟨rfl, hx3⟩
                rw [hsm]
                have hx3 := (Ext.of_alloc w2 _).trans hx3
                have Hx3 := Lib.hid hx3
                clear hx3 hsm
                rw [← HPP.out]
                have h13 := Hx12.out.trans Hx3.out
                have X23 := Ext.trans Hx22.out Hx3.out
                have H13 := Lib.hid h13
                have HP3 := Lib.hid (Own.ext Hown2.out Hx3.out)
                have HR3 := Lib.hid (Hr.out.ext (Nat.le_trans hB Hx1.out.size) X23)
                clear h13
                by_cases hS : cnext 0 (fgHead bs ++ fgPay bs) = fs4 (R.take 4)
                · have hdef0 : fgE bs = 0 := by rw [Hdef.out, if_neg (by simpa using hS)]
                  have HE := Lib.hid hdef0
                  clear hdef0
                  rw [hS]
                  have hR0 := Lib.hid (HR.out HE.out)
                  have hP0 := Lib.hid (HP.out HE.out)
                  have hcut := HR3.out.cut_ (k := 4 + N) (by omega)
                  by_cases hc5 : cr = 4 + N
                  · rw [if_pos hc5] at hcut
                    have Hcut := Lib.hid hcut
                    clear hcut
                    go_wp2
                    go_quiet (fail)
                    all_goals go_wp2
                    all_goals go_ret3
                    refine ⟨_, _, by rw [HE.out]; rfl, ?_, ?_, H13.out.trans (Ext.drewN _ _)⟩
                    · rw [hP0.out, HPP.out]
                      exact (Own.ext HP3.out (Ext.drewN _ _))
                    · rw [hR0.out]
                      have := Hcut.out.ext (Nat.le_trans hB H13.out.size) (Ext.drewN w3 nq)
                      simpa [hc5] using this
                  · exact absurd (show cr = 4 + N by omega) hc5
                · have hdef0 : fgE bs = 40 := by rw [Hdef.out, if_pos (by simpa using hS)]
                  have HE := Lib.hid hdef0
                  clear hdef0
                  have hne : ((cnext 0 (fgHead bs ++ fgPay bs) : Nat) : Int) ≠ (fs4 (R.take 4) : Nat) := by omega
                  generalize cnext 0 (fgHead bs ++ fgPay bs) = S1 at hne
                  generalize fs4 (R.take 4) = S2 at hne
                  have hne' : ((S1 : Int) != (S2 : Int)) = true := by rw [bne_iff_ne]; exact hne
                  clear hS
                  go_wp2
                  go_ret3
                  exact ⟨_, _, by rw [HE.out]; rfl, (Nils.out 40 HE.out (by decide) _ _).1, (Nils.out 40 HE.out (by decide) _ _).2, H13.out⟩
              · go_wp2_with fail
                have hP4 : BS w1 B (.slice (some ⟨ad.block, ad.off + 4, none⟩) N (cr - 4)) (fgPay bs) := by
                  rw [Hpay.out]
                  have := Hr.out.mid (k := 4) (n := N) (by omega)
                  simpa [hc4, Addr.add] using this
                refine (clone_any w1 B _ (fgPay bs) hP4 (Nat.le_trans hB Hx1.out.size) (by rw [Hpay.out, List.length_take]; omega)).mono ?_
                rintro e w2 ⟨v2, rfl, hown2, hx2⟩
                have hx12 := Ext.trans Hx1.out hx2
                have Hx22 := Lib.hid hx2
                have hH2 : BS w2 w2.heap.size (.slice A (bs.length - R.length) c) (fgHead bs) := by
                  rw [Hh.out]
                  exact ((Hb.out.take_ (k := bs.length - R.length) (by omega)).ext hB hx12).more (Nat.le_trans hB hx12.size)
                have hP2 := Own.bs hown2
                have hHl : (fgHead bs).length ≤ 1000000 := by rw [Hh.out, List.length_take]; omega
                have hPl : (fgPay bs).length ≤ 1000000 := by rw [Hpay.out, List.length_take, List.length_drop]; omega
                have hk' : k = 4 := by omega
                subst hk'
                have hsm : csumTo 0 [fgHead bs, fgPay bs] = cnext 0 (fgHead bs ++ fgPay bs) := by rw [cnext_append]; rfl
                have hPe : fgPay bs = fgPay bs := rfl
                generalize hPP : fgPay bs = P at hP2 hPl hsm hown2
                obtain ⟨A2, c2, rfl⟩ := hP2.form
                have HH2 := Lib.hid hH2
                have HP2 := Lib.hid hP2
                have Hown2 := Lib.hid (Own.base hown2 Hx1.out.size)
                have Hx12 := Lib.hid hx12
                have HPP := Lib.hid hPP
                clear hH2 hP2 hx12 hx2 hown2 hP4 hPP hPe
                go_wp2_with fail
                refine (sum_any (w2.alloc (.cells #[.slice A (bs.length - R.length) c, .slice A2 P.length c2] 22)) (.slice (some ⟨w2.heap.size, 0, none⟩) 2 2) [fgHead bs, P] (by simpa using two_ w2 _ _ _ _ HH2.out HP2.out) (by
                  intro b hb
                  simp only [List.mem_cons, List.not_mem_nil, or_false] at hb
                  rcases hb with rfl | rfl <;> omega) (by simp)).mono ?_
                rintro e w3 ⟨rfl, hx3⟩
                rw [hsm]
                have hx3 := (Ext.of_alloc w2 _).trans hx3
                have Hx3 := Lib.hid hx3
                clear hx3 hsm
                rw [← HPP.out]
                have h13 := Hx12.out.trans Hx3.out
                have X23 := Ext.trans Hx22.out Hx3.out
                have H13 := Lib.hid h13
                have HP3 := Lib.hid (Own.ext Hown2.out Hx3.out)
                have HR3 := Lib.hid (Hr.out.ext (Nat.le_trans hB Hx1.out.size) X23)
                clear h13
                by_cases hS : cnext 0 (fgHead bs ++ fgPay bs) = fs4 (R.take 4)
                · have hdef0 : fgE bs = 0 := by rw [Hdef.out, if_neg (by simpa using hS)]
                  have HE := Lib.hid hdef0
                  clear hdef0
                  rw [hS]
                  have hR0 := Lib.hid (HR.out HE.out)
                  have hP0 := Lib.hid (HP.out HE.out)
                  have hcut := HR3.out.cut_ (k := 4 + N) (by omega)
                  by_cases hc5 : cr = 4 + N
                  · rw [if_pos hc5] at hcut
                    have Hcut := Lib.hid hcut
                    clear hcut
                    go_wp2
                    go_quiet (fail)
                    all_goals go_wp2
                    all_goals go_ret3
                    refine ⟨_, _, by rw [HE.out]; rfl, ?_, ?_, H13.out.trans (Ext.drewN _ _)⟩
                    · rw [hP0.out, HPP.out]
                      exact (Own.ext HP3.out (Ext.drewN _ _))
                    · rw [hR0.out]
                      have := Hcut.out.ext (Nat.le_trans hB H13.out.size) (Ext.drewN w3 nq)
                      simpa [hc5] using this
                  · rw [if_neg hc5] at hcut
                    have Hcut := Lib.hid hcut
                    clear hcut
                    go_wp2
                    go_quiet (fail)
                    all_goals go_wp2
                    all_goals go_ret3
                    refine ⟨_, _, by rw [HE.out]; rfl, ?_, ?_, H13.out.trans (Ext.drewN _ _)⟩
                    · rw [hP0.out, HPP.out]
                      exact (Own.ext HP3.out (Ext.drewN _ _))
                    · rw [hR0.out]
                      exact Hcut.out.ext (Nat.le_trans hB H13.out.size) (Ext.drewN w3 _)
                · have hdef0 : fgE bs = 40 := by rw [Hdef.out, if_pos (by simpa using hS)]
                  have HE := Lib.hid hdef0
                  clear hdef0
                  have hne : ((cnext 0 (fgHead bs ++ fgPay bs) : Nat) : Int) ≠ (fs4 (R.take 4) : Nat) := by omega
                  generalize cnext 0 (fgHead bs ++ fgPay bs) = S1 at hne
                  generalize fs4 (R.take 4) = S2 at hne
                  have hne' : ((S1 : Int) != (S2 : Int)) = true := by rw [bne_iff_ne]; exact hne
                  clear hS
                  go_wp2
                  go_ret3
                  exact ⟨_, _, by rw [HE.out]; rfl, (Nils.out 40 HE.out (by decide) _ _).1, (Nils.out 40 HE.out (by decide) _ _).2, H13.out⟩
    · have h0' : ((E : Int) != 0) = true := by rw [bne_iff_ne]; omega
      rw [if_pos (.inl h0)] at hdef
      have Hdef := Lib.hid hdef
      clear hdef
      go_wp2
      go_ret3
      exact ⟨_, _, by rw [Hdef.out]; rfl, (Nils.out 40 Hdef.out (by decide) _ _).1, (Nils.out 40 Hdef.out (by decide) _ _).2, Hx1.out⟩

theorem fget_own (w : World) (v : Value) (bs : List UInt8) (hb : BS w w.heap.size v bs) (hl : bs.length ≤ 1000000) :
    Calls Try.prog 12 #[v] w fun e w' => ∃ p r, e = .returned (.tuple #[p, r, .int .i64 (fgE bs)]) ∧ Own w' w.heap.size p (fgP bs) ∧ BS w' w.heap.size r (fgR bs) ∧ Ext w w' :=
  fget_at w _ (Nat.le_refl _) v bs hb hl

/-- the same, its payload and its rest anywhere -/
theorem fget_any (w : World) (v : Value) (bs : List UInt8) (hb : BS w w.heap.size v bs) (hl : bs.length ≤ 1000000) :
    Calls Try.prog 12 #[v] w fun e w' => ∃ p r, e = .returned (.tuple #[p, r, .int .i64 (fgE bs)]) ∧ BS w' w'.heap.size p (fgP bs) ∧ BS w' w'.heap.size r (fgR bs) ∧ Ext w w' := by
  refine (fget_own w v bs hb hl).mono ?_
  rintro e w' ⟨p, r, he, hp, hr, hx⟩
  exact ⟨p, r, he, Own.bs hp, hr.more hx.size, hx⟩

end Go.Proofs.Ytgipbkfpfidpmaa
