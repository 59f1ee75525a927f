/-
  The law StoredFinds: for whatever bytes, place, number and places it returns true.
  Conditions: none.
-/
import Derived.Test.YtnajmpkdeenkbaaHd
import Derived.Test.YtnajmpkdeenkbaaHe
namespace Go.Proofs.Ytnajmpkdeenkbaa
open Go.RowKit Go.Op

theorem atR_nil (p : Int) : atR [] p = none := by
  unfold atR
  split <;> rfl
theorem i6_wf {a : Int} (h : (Lit.int .i64 a).wf = true) : I6 a := by
  simpa [I6, Lit.wf, IntKind.min, IntKind.max, IntKind.signed, IntKind.bits] using h

set_option maxHeartbeats 6400000 in
set_option maxRecDepth 100000 in
theorem sfinds_any (w : World) (v u : Value) (bs : List UInt8) (p q : Int) (ps : List Int) (hv : SL w (Bw w) v bs) (hu : SL w (Bw w) u ps) (hp : I6 p) :
    Calls Try.prog 6 #[v, .int .i64 p, .int .i64 q, u] w fun e w' => e = .returned (.bool true) ∧ Ext w w' := by
  have Hv := Lib.hid hv
  have Hu := Lib.hid hu
  obtain ⟨Ap, cp, rfl, hcp, hmp⟩ := hu.form
  have hcpi : (ps.length : Int) ≤ (cp : Int) := by omega
  have hcpm : (cp : Int) ≤ 9223372036854775807 := by unfold maxLen at hmp; omega
  have Hp := Lib.hid hp
  clear hv hu hp
  go_enter Try.func6, Try.ntmps6
  go_wp2_with fail
  refine (cut_any w v bs Hv.out).mono ?_
  rintro e w1 ⟨v1, rfl, hv1, hx⟩
  have hbl : (bs.take 900).length ≤ 90000 := by rw [List.length_take]; omega
  generalize bs.take 900 = B at hv1 hbl
  have hb40 : B.length ≤ 1099511627776 := by omega
  have Hv1 := Lib.hid hv1
  have Hu1 := Lib.hid (SL.up Hu.out hx)
  have Hx1 := Lib.hid hx
  clear hv1 hx
  by_cases h20 : 20 < ps.length
  · have hgt : (20 : Int) < ps.length := by omega
    obtain ⟨P, hP⟩ : ∃ P, P = ps.take 20 := ⟨_, rfl⟩
    have hPl : P.length ≤ 1000 := by rw [hP]; rw [List.length_take]; omega
    have HuP := Lib.hid (show SL w1 (Bw w1) (.slice Ap 20 cp) P by rw [hP]; exact SL.take_ Hu1.out (by omega))
    clear hP
    go_wp2_with fail
    refine (srdecode_any w1 v1 B Hv1.out.bs hbl).mono ?_
    rintro e w2 ⟨d2, M, E, rfl, hs2, hd2, hx⟩
    have Hs2 := Lib.hid hs2
    have Hd2 := Lib.hid hd2
    have Hv2 := Lib.hid (SL.up Hv1.out hx)
    have Hu2 := Lib.hid (SL.up HuP.out hx)
    have Hx2 := Lib.hid (Ext.trans Hx1.out hx)
    obtain ⟨Am, cm, rfl, _⟩ := hs2.form
    clear hs2 hd2 hx
    go_wp2_with fail
    refine (sat_any w2 v1 B p Hv2.out.bs hbl Hp.out).mono ?_
    rintro e w3 ⟨x, M3, E3, rfl, hd3, hdx, hx⟩
    obtain ⟨rfl, rfl⟩ := DecIs.same hb40 Hd2.out hd3
    obtain ⟨ux, rfl, hux, _, _⟩ := hdx
    generalize hD : (atR M p).getD zD = D at hux ⊢
    obtain ⟨sx, ax, fx⟩ := D
    dsimp only at hux ⊢
    obtain ⟨Ax, cx, rfl, _⟩ := hux.form
    have HDx := Lib.hid hD
    generalize hF : okS E (atR M p).isSome = F1
    have HF1 := Lib.hid hF
    have hxa := Ext.of_alloc w3 (.cells #[.int .i64 sx, .int .i64 ax, .slice Ax fx.length cx] 45)
    have HTx3 := Lib.hid (TBox.new w3 sx ax (.slice Ax fx.length cx))
    have Hux3 := Lib.hid (hux.up hxa)
    have hxb := Ext.trans hx hxa
    have Hs3 := Lib.hid (SL.up Hs2.out hxb)
    have Hv3 := Lib.hid (SL.up Hv2.out hxb)
    have Hu3 := Lib.hid (SL.up Hu2.out hxb)
    have Hx3 := Lib.hid (Ext.trans Hx2.out hxb)
    clear hx hd3 hux hD hF hxa hxb
    go_wp2_with fail
    refine (sfind_any _ v1 B q Hv3.out.bs hbl).mono ?_
    rintro e w4 ⟨y, M4, E4, rfl, hd4, hdy, hx⟩
    obtain ⟨rfl, rfl⟩ := DecIs.same hb40 Hd2.out hd4
    obtain ⟨uy, rfl, huy, _, _⟩ := hdy
    generalize hD : (fndR M q).getD zD = D at huy ⊢
    obtain ⟨sy, ay, fy⟩ := D
    dsimp only at huy ⊢
    obtain ⟨Ay, cy, rfl, _⟩ := huy.form
    have HDy := Lib.hid hD
    generalize hF : (fndR M q).isSome = R2
    have HR2 := Lib.hid hF
    have hxa := Ext.of_alloc w4 (.cells #[.int .i64 sy, .int .i64 ay, .slice Ay fy.length cy] 45)
    have HTy4 := Lib.hid (TBox.new w4 sy ay (.slice Ay fy.length cy))
    have Huy4 := Lib.hid (huy.up hxa)
    have hxb := Ext.trans hx hxa
    have HTx4 := Lib.hid (HTx3.out.ext hxb)
    have Hux4 := Lib.hid (SL.up Hux3.out hxb)
    have Hs4 := Lib.hid (SL.up Hs3.out hxb)
    have Hv4 := Lib.hid (SL.up Hv3.out hxb)
    have Hu4 := Lib.hid (SL.up Hu3.out hxb)
    have Hx4 := Lib.hid (Ext.trans Hx3.out hxb)
    clear hx hd4 huy hD hF hxa hxb
    go_wp2_with fail
    refine (ssome_any _ v1 _ B P Hv4.out.bs Hu4.out hbl hPl).mono ?_
    rintro e w5 ⟨uk, M5, E5, rfl, hd5, hk, hx⟩
    obtain ⟨rfl, rfl⟩ := DecIs.same hb40 Hd2.out hd5
    generalize hF : okS E (someR M P).isSome = F3
    have HF3 := Lib.hid hF
    have HTx5 := Lib.hid (HTx4.out.ext hx)
    have Hux5 := Lib.hid (SL.up Hux4.out hx)
    have HTy5 := Lib.hid (HTy4.out.ext hx)
    have Huy5 := Lib.hid (SL.up Huy4.out hx)
    have Hs5 := Lib.hid (SL.up Hs4.out hx)
    have Hu5 := Lib.hid (SL.up Hu4.out hx)
    have Hk5 := Lib.hid (SL.more (S' := Bw w5) hk fun k hk => hk.2)
    have Hx5 := Lib.hid (Ext.trans Hx4.out hx)
    obtain ⟨Ak, ck, rfl, _⟩ := hk.form
    clear hx hd5 hF hk
    rcases Hd2.out with ⟨_, _, rfl⟩ | ⟨_, rfl, rfl⟩
    · rw [if_pos rfl] at Hk5 ⊢
      go_wp2_with fail
      refine (rat_any w5.heap.size w5 _ M p Hs5.out (Nat.le_refl _)).mono ?_
      rintro e w6 ⟨x6, rfl, hdx, hx⟩
      rw [show okE (atR M p).isSome = F1 from HF1.out]
      obtain ⟨ux6, rfl, hux6, _, _⟩ := hdx
      rw [HDx.out] at hux6 ⊢
      dsimp only at hux6 ⊢
      obtain ⟨Ax6, cx6, rfl, _⟩ := hux6.form
      have hxa := Ext.of_alloc w6 (.cells #[.int .i64 sx, .int .i64 ax, .slice Ax6 fx.length cx6] 45)
      have HTu6 := Lib.hid (TBox.new w6 sx ax (.slice Ax6 fx.length cx6))
      have hxb := Ext.trans hx hxa
      have Huu6 := Lib.hid (SL.up (hux6.more fun k hk => Nat.lt_of_lt_of_le hk hx.size) hxa)
      have HTx6 := Lib.hid (HTx5.out.ext hxb)
      have Hux6 := Lib.hid (SL.up Hux5.out hxb)
      have HTy6 := Lib.hid (HTy5.out.ext hxb)
      have Huy6 := Lib.hid (SL.up Huy5.out hxb)
      have Hs6 := Lib.hid (SL.up Hs5.out hxb)
      have Hu6 := Lib.hid (SL.up Hu5.out hxb)
      have Hk6 := Lib.hid (SL.up Hk5.out hxb)
      have Hx6 := Lib.hid (Ext.trans Hx5.out hxb)
      clear hx hux6 hxa hxb
      go_wp2_with fail
      refine (rfind_any _ _ M q Hs6.out).mono ?_
      rintro e w7 ⟨y7, rfl, hdy, hx⟩
      rw [HR2.out]
      obtain ⟨uy7, rfl, huy7, _, _⟩ := hdy
      rw [HDy.out] at huy7 ⊢
      dsimp only at huy7 ⊢
      obtain ⟨Ay7, cy7, rfl, _⟩ := huy7.form
      have hxa := Ext.of_alloc w7 (.cells #[.int .i64 sy, .int .i64 ay, .slice Ay7 fy.length cy7] 45)
      have HTv7 := Lib.hid (TBox.new w7 sy ay (.slice Ay7 fy.length cy7))
      have hxb := Ext.trans hx hxa
      have Huv7 := Lib.hid (SL.up huy7 hxa)
      have HTu7 := Lib.hid (HTu6.out.ext hxb)
      have Huu7 := Lib.hid (SL.up Huu6.out hxb)
      have HTx7 := Lib.hid (HTx6.out.ext hxb)
      have Hux7 := Lib.hid (SL.up Hux6.out hxb)
      have HTy7 := Lib.hid (HTy6.out.ext hxb)
      have Huy7 := Lib.hid (SL.up Huy6.out hxb)
      have Hs7 := Lib.hid (SL.up Hs6.out hxb)
      have Hu7 := Lib.hid (SL.up Hu6.out hxb)
      have Hk7 := Lib.hid (SL.up Hk6.out hxb)
      have Hx7 := Lib.hid (Ext.trans Hx6.out hxb)
      clear hx huy7 hxa hxb
      go_wp2_with fail
      refine (rsome_any _ _ _ M P Hs7.out Hu7.out hPl).mono ?_
      rintro e w8 ⟨uz, rfl, huz, hx⟩
      rw [show okE (someR M P).isSome = F3 from HF3.out]
      generalize (someR M P).getD [] = Z at huz Hk7 ⊢
      have Huz8 := Lib.hid huz
      obtain ⟨Az, cz, rfl, _⟩ := huz.form
      have HTu8 := Lib.hid (HTu7.out.ext hx)
      have Huu8 := Lib.hid (SL.up Huu7.out hx)
      have HTv8 := Lib.hid (HTv7.out.ext hx)
      have Huv8 := Lib.hid (SL.up Huv7.out hx)
      have HTx8 := Lib.hid (HTx7.out.ext hx)
      have Hux8 := Lib.hid (SL.up Hux7.out hx)
      have HTy8 := Lib.hid (HTy7.out.ext hx)
      have Huy8 := Lib.hid (SL.up Huy7.out hx)
      have Hk8 := Lib.hid (SL.up Hk7.out hx)
      have Hx8 := Lib.hid (Ext.trans Hx7.out hx)
      clear hx huz
      obtain ⟨a0, a1, a2, _⟩ := HTx8.out.cell
      obtain ⟨b0, b1, b2, _⟩ := HTu8.out.cell
      go_wp2_with fail
      refine (lsame_any w8 sx sx ax ax _ _ fx fx Hux8.out Huu8.out).mono ?_
      rintro e w9 ⟨rfl, hx⟩
      rw [decide_eq_true rfl]
      have Huv9 := Lib.hid (SL.up Huv8.out hx)
      have Huy9 := Lib.hid (SL.up Huy8.out hx)
      have Hk9 := Lib.hid (SL.up Hk8.out hx)
      have Huz9 := Lib.hid (SL.up Huz8.out hx)
      have Hx9 := Lib.hid (Ext.trans Hx8.out hx)
      obtain ⟨d0, d1, d2, _⟩ := (HTy8.out.ext hx).cell
      obtain ⟨g0, g1, g2, _⟩ := (HTv8.out.ext hx).cell
      clear hx a0 a1 a2 b0 b1 b2
      go_wp2_with fail
      refine (lsame_any w9 sy sy ay ay _ _ fy fy Huy9.out Huv9.out).mono ?_
      rintro e wa ⟨rfl, hx⟩
      rw [decide_eq_true rfl]
      have Hka := Lib.hid (SL.up Hk9.out hx)
      have Huza := Lib.hid (SL.up Huz9.out hx)
      have Hxa := Lib.hid (Ext.trans Hx9.out hx)
      clear hx d0 d1 d2 g0 g1 g2
      go_wp2_with fail
      refine (samedocs_any wa _ _ Z Z Hka.out Huza.out).mono ?_
      rintro e wb ⟨rfl, hx⟩
      rw [decide_eq_true rfl]
      have Hxb := Lib.hid (Ext.trans Hxa.out hx)
      clear hx
      go_wp2_with fail
      refine (awake_any wb).mono ?_
      rintro e wc ⟨rfl, hx⟩
      have Hxc := Lib.hid (Ext.trans Hxb.out hx)
      clear hx
      go_wp2
      go_ret
      exact ⟨rfl, Hxc.out⟩
    · rw [atR_nil] at HDx HF1
      rw [show fndR [] q = none from rfl] at HDy HR2
      have hD1 := HDx.out
      simp only [Option.getD_none, zD, Prod.mk.injEq] at hD1
      obtain ⟨rfl, rfl, rfl⟩ := hD1
      have hD2 := HDy.out
      simp only [Option.getD_none, zD, Prod.mk.injEq] at hD2
      obtain ⟨rfl, rfl, rfl⟩ := hD2
      obtain rfl : F1 = 120 := by rw [← HF1.out]; rfl
      obtain rfl : F3 = 120 := by rw [← HF3.out]; rfl
      obtain rfl : R2 = false := by rw [← HR2.out]; rfl
      rw [if_neg (by decide)]
      obtain ⟨a0, a1, a2, _⟩ := HTx5.out.cell
      dsimp only [List.length_nil] at a0 a1 a2 ⊢
      go_wp2_with fail
      refine (lsame_any w5 0 0 0 0 _ _ [] [] Hux5.out (SL.nil_ _ _)).mono ?_
      rintro e w9 ⟨rfl, hx⟩
      rw [decide_eq_true rfl]
      have Huy9 := Lib.hid (SL.up Huy5.out hx)
      have Hx9 := Lib.hid (Ext.trans Hx5.out hx)
      obtain ⟨d0, d1, d2, _⟩ := (HTy5.out.ext hx).cell
      dsimp only [List.length_nil] at d0 d1 d2
      clear hx a0 a1 a2
      go_wp2_with fail
      refine (lsame_any w9 0 0 0 0 _ _ [] [] Huy9.out (SL.nil_ _ _)).mono ?_
      rintro e wa ⟨rfl, hx⟩
      rw [decide_eq_true rfl]
      have Hxa := Lib.hid (Ext.trans Hx9.out hx)
      clear hx d0 d1 d2
      go_wp2_with fail
      refine (awake_any wa).mono ?_
      rintro e wc ⟨rfl, hx⟩
      have Hxc := Lib.hid (Ext.trans Hxa.out hx)
      clear hx
      go_wp2
      go_ret
      exact ⟨rfl, Hxc.out⟩
  · have hgt : decide ((20 : Int) < ps.length) = false := decide_eq_false (by omega)
    obtain ⟨P, hP⟩ : ∃ P, P = ps := ⟨_, rfl⟩
    have hPl : P.length ≤ 1000 := by rw [hP]; omega
    have HuP := Lib.hid (show SL w1 (Bw w1) (.slice Ap ps.length cp) P by rw [hP]; exact Hu1.out)
    clear hP
    go_wp2_with fail
    refine (srdecode_any w1 v1 B Hv1.out.bs hbl).mono ?_
    rintro e w2 ⟨d2, M, E, rfl, hs2, hd2, hx⟩
    have Hs2 := Lib.hid hs2
    have Hd2 := Lib.hid hd2
    have Hv2 := Lib.hid (SL.up Hv1.out hx)
    have Hu2 := Lib.hid (SL.up HuP.out hx)
    have Hx2 := Lib.hid (Ext.trans Hx1.out hx)
    obtain ⟨Am, cm, rfl, _⟩ := hs2.form
    clear hs2 hd2 hx
    go_wp2_with fail
    refine (sat_any w2 v1 B p Hv2.out.bs hbl Hp.out).mono ?_
    rintro e w3 ⟨x, M3, E3, rfl, hd3, hdx, hx⟩
    obtain ⟨rfl, rfl⟩ := DecIs.same hb40 Hd2.out hd3
    obtain ⟨ux, rfl, hux, _, _⟩ := hdx
    generalize hD : (atR M p).getD zD = D at hux ⊢
    obtain ⟨sx, ax, fx⟩ := D
    dsimp only at hux ⊢
    obtain ⟨Ax, cx, rfl, _⟩ := hux.form
    have HDx := Lib.hid hD
    generalize hF : okS E (atR M p).isSome = F1
    have HF1 := Lib.hid hF
    have hxa := Ext.of_alloc w3 (.cells #[.int .i64 sx, .int .i64 ax, .slice Ax fx.length cx] 45)
    have HTx3 := Lib.hid (TBox.new w3 sx ax (.slice Ax fx.length cx))
    have Hux3 := Lib.hid (hux.up hxa)
    have hxb := Ext.trans hx hxa
    have Hs3 := Lib.hid (SL.up Hs2.out hxb)
    have Hv3 := Lib.hid (SL.up Hv2.out hxb)
    have Hu3 := Lib.hid (SL.up Hu2.out hxb)
    have Hx3 := Lib.hid (Ext.trans Hx2.out hxb)
    clear hx hd3 hux hD hF hxa hxb
    go_wp2_with fail
    refine (sfind_any _ v1 B q Hv3.out.bs hbl).mono ?_
    rintro e w4 ⟨y, M4, E4, rfl, hd4, hdy, hx⟩
    obtain ⟨rfl, rfl⟩ := DecIs.same hb40 Hd2.out hd4
    obtain ⟨uy, rfl, huy, _, _⟩ := hdy
    generalize hD : (fndR M q).getD zD = D at huy ⊢
    obtain ⟨sy, ay, fy⟩ := D
    dsimp only at huy ⊢
    obtain ⟨Ay, cy, rfl, _⟩ := huy.form
    have HDy := Lib.hid hD
    generalize hF : (fndR M q).isSome = R2
    have HR2 := Lib.hid hF
    have hxa := Ext.of_alloc w4 (.cells #[.int .i64 sy, .int .i64 ay, .slice Ay fy.length cy] 45)
    have HTy4 := Lib.hid (TBox.new w4 sy ay (.slice Ay fy.length cy))
    have Huy4 := Lib.hid (huy.up hxa)
    have hxb := Ext.trans hx hxa
    have HTx4 := Lib.hid (HTx3.out.ext hxb)
    have Hux4 := Lib.hid (SL.up Hux3.out hxb)
    have Hs4 := Lib.hid (SL.up Hs3.out hxb)
    have Hv4 := Lib.hid (SL.up Hv3.out hxb)
    have Hu4 := Lib.hid (SL.up Hu3.out hxb)
    have Hx4 := Lib.hid (Ext.trans Hx3.out hxb)
    clear hx hd4 huy hD hF hxa hxb
    go_wp2_with fail
    refine (ssome_any _ v1 _ B P Hv4.out.bs Hu4.out hbl hPl).mono ?_
    rintro e w5 ⟨uk, M5, E5, rfl, hd5, hk, hx⟩
    obtain ⟨rfl, rfl⟩ := DecIs.same hb40 Hd2.out hd5
    generalize hF : okS E (someR M P).isSome = F3
    have HF3 := Lib.hid hF
    have HTx5 := Lib.hid (HTx4.out.ext hx)
    have Hux5 := Lib.hid (SL.up Hux4.out hx)
    have HTy5 := Lib.hid (HTy4.out.ext hx)
    have Huy5 := Lib.hid (SL.up Huy4.out hx)
    have Hs5 := Lib.hid (SL.up Hs4.out hx)
    have Hu5 := Lib.hid (SL.up Hu4.out hx)
    have Hk5 := Lib.hid (SL.more (S' := Bw w5) hk fun k hk => hk.2)
    have Hx5 := Lib.hid (Ext.trans Hx4.out hx)
    obtain ⟨Ak, ck, rfl, _⟩ := hk.form
    clear hx hd5 hF hk
    rcases Hd2.out with ⟨_, _, rfl⟩ | ⟨_, rfl, rfl⟩
    · rw [if_pos rfl] at Hk5 ⊢
      go_wp2_with fail
      refine (rat_any w5.heap.size w5 _ M p Hs5.out (Nat.le_refl _)).mono ?_
      rintro e w6 ⟨x6, rfl, hdx, hx⟩
      rw [show okE (atR M p).isSome = F1 from HF1.out]
      obtain ⟨ux6, rfl, hux6, _, _⟩ := hdx
      rw [HDx.out] at hux6 ⊢
      dsimp only at hux6 ⊢
      obtain ⟨Ax6, cx6, rfl, _⟩ := hux6.form
      have hxa := Ext.of_alloc w6 (.cells #[.int .i64 sx, .int .i64 ax, .slice Ax6 fx.length cx6] 45)
      have HTu6 := Lib.hid (TBox.new w6 sx ax (.slice Ax6 fx.length cx6))
      have hxb := Ext.trans hx hxa
      have Huu6 := Lib.hid (SL.up (hux6.more fun k hk => Nat.lt_of_lt_of_le hk hx.size) hxa)
      have HTx6 := Lib.hid (HTx5.out.ext hxb)
      have Hux6 := Lib.hid (SL.up Hux5.out hxb)
      have HTy6 := Lib.hid (HTy5.out.ext hxb)
      have Huy6 := Lib.hid (SL.up Huy5.out hxb)
      have Hs6 := Lib.hid (SL.up Hs5.out hxb)
      have Hu6 := Lib.hid (SL.up Hu5.out hxb)
      have Hk6 := Lib.hid (SL.up Hk5.out hxb)
      have Hx6 := Lib.hid (Ext.trans Hx5.out hxb)
      clear hx hux6 hxa hxb
      go_wp2_with fail
      refine (rfind_any _ _ M q Hs6.out).mono ?_
      rintro e w7 ⟨y7, rfl, hdy, hx⟩
      rw [HR2.out]
      obtain ⟨uy7, rfl, huy7, _, _⟩ := hdy
      rw [HDy.out] at huy7 ⊢
      dsimp only at huy7 ⊢
      obtain ⟨Ay7, cy7, rfl, _⟩ := huy7.form
      have hxa := Ext.of_alloc w7 (.cells #[.int .i64 sy, .int .i64 ay, .slice Ay7 fy.length cy7] 45)
      have HTv7 := Lib.hid (TBox.new w7 sy ay (.slice Ay7 fy.length cy7))
      have hxb := Ext.trans hx hxa
      have Huv7 := Lib.hid (SL.up huy7 hxa)
      have HTu7 := Lib.hid (HTu6.out.ext hxb)
      have Huu7 := Lib.hid (SL.up Huu6.out hxb)
      have HTx7 := Lib.hid (HTx6.out.ext hxb)
      have Hux7 := Lib.hid (SL.up Hux6.out hxb)
      have HTy7 := Lib.hid (HTy6.out.ext hxb)
      have Huy7 := Lib.hid (SL.up Huy6.out hxb)
      have Hs7 := Lib.hid (SL.up Hs6.out hxb)
      have Hu7 := Lib.hid (SL.up Hu6.out hxb)
      have Hk7 := Lib.hid (SL.up Hk6.out hxb)
      have Hx7 := Lib.hid (Ext.trans Hx6.out hxb)
      clear hx huy7 hxa hxb
      go_wp2_with fail
      refine (rsome_any _ _ _ M P Hs7.out Hu7.out hPl).mono ?_
      rintro e w8 ⟨uz, rfl, huz, hx⟩
      rw [show okE (someR M P).isSome = F3 from HF3.out]
      generalize (someR M P).getD [] = Z at huz Hk7 ⊢
      have Huz8 := Lib.hid huz
      obtain ⟨Az, cz, rfl, _⟩ := huz.form
      have HTu8 := Lib.hid (HTu7.out.ext hx)
      have Huu8 := Lib.hid (SL.up Huu7.out hx)
      have HTv8 := Lib.hid (HTv7.out.ext hx)
      have Huv8 := Lib.hid (SL.up Huv7.out hx)
      have HTx8 := Lib.hid (HTx7.out.ext hx)
      have Hux8 := Lib.hid (SL.up Hux7.out hx)
      have HTy8 := Lib.hid (HTy7.out.ext hx)
      have Huy8 := Lib.hid (SL.up Huy7.out hx)
      have Hk8 := Lib.hid (SL.up Hk7.out hx)
      have Hx8 := Lib.hid (Ext.trans Hx7.out hx)
      clear hx huz
      obtain ⟨a0, a1, a2, _⟩ := HTx8.out.cell
      obtain ⟨b0, b1, b2, _⟩ := HTu8.out.cell
      go_wp2_with fail
      refine (lsame_any w8 sx sx ax ax _ _ fx fx Hux8.out Huu8.out).mono ?_
      rintro e w9 ⟨rfl, hx⟩
      rw [decide_eq_true rfl]
      have Huv9 := Lib.hid (SL.up Huv8.out hx)
      have Huy9 := Lib.hid (SL.up Huy8.out hx)
      have Hk9 := Lib.hid (SL.up Hk8.out hx)
      have Huz9 := Lib.hid (SL.up Huz8.out hx)
      have Hx9 := Lib.hid (Ext.trans Hx8.out hx)
      obtain ⟨d0, d1, d2, _⟩ := (HTy8.out.ext hx).cell
      obtain ⟨g0, g1, g2, _⟩ := (HTv8.out.ext hx).cell
      clear hx a0 a1 a2 b0 b1 b2
      go_wp2_with fail
      refine (lsame_any w9 sy sy ay ay _ _ fy fy Huy9.out Huv9.out).mono ?_
      rintro e wa ⟨rfl, hx⟩
      rw [decide_eq_true rfl]
      have Hka := Lib.hid (SL.up Hk9.out hx)
      have Huza := Lib.hid (SL.up Huz9.out hx)
      have Hxa := Lib.hid (Ext.trans Hx9.out hx)
      clear hx d0 d1 d2 g0 g1 g2
      go_wp2_with fail
      refine (samedocs_any wa _ _ Z Z Hka.out Huza.out).mono ?_
      rintro e wb ⟨rfl, hx⟩
      rw [decide_eq_true rfl]
      have Hxb := Lib.hid (Ext.trans Hxa.out hx)
      clear hx
      go_wp2_with fail
      refine (awake_any wb).mono ?_
      rintro e wc ⟨rfl, hx⟩
      have Hxc := Lib.hid (Ext.trans Hxb.out hx)
      clear hx
      go_wp2
      go_ret
      exact ⟨rfl, Hxc.out⟩
    · rw [atR_nil] at HDx HF1
      rw [show fndR [] q = none from rfl] at HDy HR2
      have hD1 := HDx.out
      simp only [Option.getD_none, zD, Prod.mk.injEq] at hD1
      obtain ⟨rfl, rfl, rfl⟩ := hD1
      have hD2 := HDy.out
      simp only [Option.getD_none, zD, Prod.mk.injEq] at hD2
      obtain ⟨rfl, rfl, rfl⟩ := hD2
      obtain rfl : F1 = 120 := by rw [← HF1.out]; rfl
      obtain rfl : F3 = 120 := by rw [← HF3.out]; rfl
      obtain rfl : R2 = false := by rw [← HR2.out]; rfl
      rw [if_neg (by decide)]
      obtain ⟨a0, a1, a2, _⟩ := HTx5.out.cell
      dsimp only [List.length_nil] at a0 a1 a2 ⊢
      go_wp2_with fail
      refine (lsame_any w5 0 0 0 0 _ _ [] [] Hux5.out (SL.nil_ _ _)).mono ?_
      rintro e w9 ⟨rfl, hx⟩
      rw [decide_eq_true rfl]
      have Huy9 := Lib.hid (SL.up Huy5.out hx)
      have Hx9 := Lib.hid (Ext.trans Hx5.out hx)
      obtain ⟨d0, d1, d2, _⟩ := (HTy5.out.ext hx).cell
      dsimp only [List.length_nil] at d0 d1 d2
      clear hx a0 a1 a2
      go_wp2_with fail
      refine (lsame_any w9 0 0 0 0 _ _ [] [] Huy9.out (SL.nil_ _ _)).mono ?_
      rintro e wa ⟨rfl, hx⟩
      rw [decide_eq_true rfl]
      have Hxa := Lib.hid (Ext.trans Hx9.out hx)
      clear hx d0 d1 d2
      go_wp2_with fail
      refine (awake_any wa).mono ?_
      rintro e wc ⟨rfl, hx⟩
      have Hxc := Lib.hid (Ext.trans Hxa.out hx)
      clear hx
      go_wp2
      go_ret
      exact ⟨rfl, Hxc.out⟩

end Go.Proofs.Ytnajmpkdeenkbaa
