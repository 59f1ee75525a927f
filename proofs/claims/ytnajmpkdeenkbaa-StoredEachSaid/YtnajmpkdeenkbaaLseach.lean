/-
  The law StoredEach: for whatever row it returns true.
  Conditions: none.
-/
import Derived.Test.YtnajmpkdeenkbaaHd
import Derived.Test.YtnajmpkdeenkbaaHe
import Derived.Deep.RegionHeld3
import Derived.Deep.DrawnRows
namespace Go.Proofs.Ytnajmpkdeenkbaa
open Go.RowKit Go.Op

theorem ris_lt : ∀ {l : List Doc} {last : Int}, dRis last l = true → (∀ i (h : i < l.length), last < (l[i]).1) ∧ (∀ i j (hi : i < l.length) (hj : j < l.length), i < j → (l[i]).1 < (l[j]).1)
  | [], _, _ => ⟨fun i h => absurd h (by simp), fun i j h => absurd h (by simp)⟩
  | d :: l, last, h => by
    simp only [dRis, Bool.and_eq_true, decide_eq_true_eq] at h
    obtain ⟨h1, h2⟩ := ris_lt h.2.2.2
    refine ⟨fun i hi => ?_, fun i j hi hj hij => ?_⟩
    · cases i with
      | zero => exact h.1
      | succ i => exact Int.lt_trans h.1 (h1 i (Nat.lt_of_succ_lt_succ hi))
    · cases j with
      | zero => omega
      | succ j =>
        cases i with
        | zero => exact h1 j (Nat.lt_of_succ_lt_succ hj)
        | succ i => exact h2 i j (Nat.lt_of_succ_lt_succ hi) (Nat.lt_of_succ_lt_succ hj) (by omega)
theorem fndR_row {m : List Doc} (h : Row m) {k : Nat} (hk : k < m.length) : fndR m (m[k]).1 = some m[k] :=
  fndR_at hk rfl fun j hj hjk => Int.ne_of_lt ((ris_lt h.from_.1.ris).2 j k hj hk hjk)

set_option maxHeartbeats 6400000 in
set_option maxRecDepth 100000 in
theorem seach_any (w : World) (u : Value) (l : List Doc) (hu : SL w (Bw w) u l) :
    Calls Try.prog 7 #[u] w fun e w' => e = .returned (.bool true) ∧ Ext w w' := by
  have Hu := Lib.hid hu
  clear hu
  go_enter Try.func7, Try.ntmps7
  go_wp2_with fail
  refine (few_any w u l Hu.out).mono ?_
  rintro e w1 ⟨u1, L, R1, rfl, hu1, hR1, hR0, hlt, hx⟩
  have hfew : Few L := by
    refine ⟨?_, hlt⟩
    cases R1 with
    | true => rw [hR1 rfl, List.length_take]; omega
    | false => rw [hR0 rfl]; simp
  obtain ⟨Al, cl, rfl, _⟩ := hu1.form
  have Htm := Lib.hid hu1.tms
  have Hu1 := Lib.hid hu1
  have Hx1 := Lib.hid hx
  have Hfew := Lib.hid hfew
  clear hu1 hx hfew hR1 hR0 hlt
  cases hok : sOk L with
  | false =>
    go_wp2_with fail
    refine (sencode_bad w1 _ L Hu1.out hok).mono ?_
    rintro e w2 ⟨rfl, hx⟩
    have Hx2 := Lib.hid (Ext.trans Hx1.out hx)
    clear hx hok
    cases R1 with
    | false =>
      go_wp2_with fail
      refine (awake_any w2).mono ?_
      rintro e w3 ⟨rfl, hx⟩
      have Hx3 := Lib.hid (Ext.trans Hx2.out hx)
      clear hx
      go_wp2
      go_ret
      exact ⟨rfl, Hx3.out⟩
    | true =>
      go_wp2_with fail
      refine (awake_any w2).mono ?_
      rintro e w3 ⟨rfl, hx⟩
      have Hx3 := Lib.hid (Ext.trans Hx2.out hx)
      clear hx
      go_wp2
      go_ret
      exact ⟨rfl, Hx3.out⟩
  | true =>
    have hrow : Row L := ⟨hok, Htm.out⟩
    have Hrow := Lib.hid hrow
    go_wp2_with fail
    refine (sencode_ok w1 _ L Hu1.out hrow (by have := Hfew.out.dby hrow; omega) (by have := Hfew.out.len; omega)).mono ?_
    rintro e w2 ⟨x2, rfl, ho2, hx⟩
    have hpl := Hfew.out.senc hrow
    have Hdi : Hid (DecIs (senc L) L 0) := Lib.hid (.inl ⟨hrow, rfl, rfl⟩)
    generalize senc L = P at ho2 hpl Hdi
    have hp40 : P.length ≤ 1099511627776 := by omega
    have hpl9 : P.length ≤ 90000 := by omega
    have Hx2 := Lib.hid (Ext.trans Hx1.out hx)
    have Hb2 := Lib.hid (Own.bs ho2).sl
    have Hu2 := Lib.hid (SL.up Hu1.out hx)
    have hL40 := Hfew.out.len
    clear hx ho2 hrow hok hpl
    cases R1 with
    | false =>
      go_wp2_with fail
      refine (awake_any w2).mono ?_
      rintro e w3 ⟨rfl, hx⟩
      have Hx3 := Lib.hid (Ext.trans Hx2.out hx)
      clear hx
      go_wp2
      go_ret
      exact ⟨rfl, Hx3.out⟩
    | true =>
      go_wp2_with fail
      go_loopw [6] (fun i wr => ∃ k : Nat, i = .int .i64 k ∧ k ≤ L.length ∧ Ext w2 wr) (fun i _ => L.length - (intOf i).toNat)
      case atStart => exact ⟨0, rfl, Nat.zero_le _, Below.refl _ _⟩
      case round =>
        obtain ⟨k, rfl, hk, hx⟩ := hrel
        have Hx := Lib.hid hx
        by_cases hlk : k < L.length
        · have hkl : (k : Int) < L.length := by omega
          have Hat := Lib.hid (atR_in hlk)
          have Hfn := Lib.hid (fndR_row Hrow.out hlk)
          have Hbr := Lib.hid (SL.up Hb2.out hx)
          have Hur := Lib.hid (SL.up Hu2.out hx)
          obtain ⟨ad, ud, rfl, had, q0, q1, q2, hud, h6, h7⟩ := Hur.out.doc_at hlk
          generalize hN : L[k] = N at q0 q1 q2 hud h6 h7 Hat Hfn
          obtain ⟨s, a_, fs⟩ := N
          dsimp only at q0 q1 q2 hud h6 h7 Hfn
          obtain ⟨Au, cu, rfl, _⟩ := hud.form
          have Hud := Lib.hid hud
          clear hud h6 h7 hx hN
          go_wp2_with fail
          refine (sat_any wr x2 P k Hbr.out.bs hpl9 (I6.mk (by omega))).mono ?_
          rintro e w3 ⟨x, M3, E3, rfl, hd3, hdx, hx⟩
          obtain ⟨rfl, rfl⟩ := DecIs.same hp40 Hdi.out hd3
          rw [Hat.out] at hdx ⊢
          rw [show okS 0 (some ((s, a_, fs) : Doc)).isSome = 0 from rfl]
          obtain ⟨ux, rfl, hux, _, _⟩ := hdx
          dsimp only [Option.getD_some] at hux ⊢
          obtain ⟨Ax, cx, rfl, _⟩ := hux.form
          have hxa := Ext.of_alloc w3 (.cells #[.int .i64 s, .int .i64 a_, .slice Ax fs.length cx] 45)
          have HTx3 := Lib.hid (TBox.new w3 s a_ (.slice Ax fs.length cx))
          have Hux3 := Lib.hid (hux.up hxa)
          have hxb := Ext.trans hx hxa
          have Hb3 := Lib.hid (SL.up Hbr.out hxb)
          have Hud3 := Lib.hid (SL.up Hud.out hxb)
          have g0 := Ext.keeps hxb q0
          have g1 := Ext.keeps hxb q1
          have g2 := Ext.keeps hxb q2
          have Hx3 := Lib.hid (Ext.trans Hx.out hxb)
          clear hx hd3 hux hxa hxb q0 q1 q2
          go_wp2_with fail
          refine (sfind_any _ x2 P s Hb3.out.bs hpl9).mono ?_
          rintro e w4 ⟨y, M4, E4, rfl, hd4, hdy, hx⟩
          obtain ⟨rfl, rfl⟩ := DecIs.same hp40 Hdi.out hd4
          rw [Hfn.out] at hdy ⊢
          rw [show (some ((s, a_, fs) : Doc)).isSome = true from rfl]
          obtain ⟨uy, rfl, huy, _, _⟩ := hdy
          dsimp only [Option.getD_some] at huy ⊢
          obtain ⟨Ay, cy, rfl, _⟩ := huy.form
          have hxa := Ext.of_alloc w4 (.cells #[.int .i64 s, .int .i64 a_, .slice Ay fs.length cy] 45)
          have HTy4 := Lib.hid (TBox.new w4 s a_ (.slice Ay fs.length cy))
          have Huy4 := Lib.hid (huy.up hxa)
          have hxb := Ext.trans hx hxa
          have HTx4 := Lib.hid (HTx3.out.ext hxb)
          have Hux4 := Lib.hid (SL.up Hux3.out hxb)
          have Hud4 := Lib.hid (SL.up Hud3.out hxb)
          have q0 := Ext.keeps hxb g0
          have q1 := Ext.keeps hxb g1
          have q2 := Ext.keeps hxb g2
          have Hx4 := Lib.hid (Ext.trans Hx3.out hxb)
          have hS : ∀ W, Ext (w4.alloc (.cells #[.int .i64 s, .int .i64 a_, .slice Ay fs.length cy] 45)) W → W.cell? ⟨w3.heap.size, 0, none⟩ = some (.int .i64 s) ∧ W.cell? ⟨w3.heap.size, 1, none⟩ = some (.int .i64 a_) ∧ W.cell? ⟨w3.heap.size, 2, none⟩ = some (.slice Ax fs.length cx) ∧
              W.cell? ⟨w4.heap.size, 0, none⟩ = some (.int .i64 s) ∧ W.cell? ⟨w4.heap.size, 1, none⟩ = some (.int .i64 a_) ∧ W.cell? ⟨w4.heap.size, 2, none⟩ = some (.slice Ay fs.length cy) ∧
              W.cell? (ad.add (k * 3)) = some (.int .i64 s) ∧ W.cell? ⟨(ad.add (k * 3)).block, (ad.add (k * 3)).off + 1, none⟩ = some (.int .i64 a_) ∧ W.cell? ⟨(ad.add (k * 3)).block, (ad.add (k * 3)).off + 2, none⟩ = some (.slice Au fs.length cu) := fun W h => by
            obtain ⟨a0, a1, a2, _⟩ := (HTx4.out.ext h).cell
            obtain ⟨b0, b1, b2, _⟩ := (HTy4.out.ext h).cell
            exact ⟨a0, a1, a2, b0, b1, b2, Ext.keeps h q0, Ext.keeps h q1, Ext.keeps h q2⟩
          have HS := Lib.hid hS
          clear hx hd4 huy hxa hxb g0 g1 g2 q0 q1 q2 hS
          go_wp2_with fail
          go_region_held3 (fun W => W.cell? ⟨w3.heap.size, 0, none⟩ = some (.int .i64 s) ∧ W.cell? ⟨w3.heap.size, 1, none⟩ = some (.int .i64 a_) ∧ W.cell? ⟨w3.heap.size, 2, none⟩ = some (.slice Ax fs.length cx) ∧
              W.cell? ⟨w4.heap.size, 0, none⟩ = some (.int .i64 s) ∧ W.cell? ⟨w4.heap.size, 1, none⟩ = some (.int .i64 a_) ∧ W.cell? ⟨w4.heap.size, 2, none⟩ = some (.slice Ay fs.length cy) ∧
              W.cell? (ad.add (k * 3)) = some (.int .i64 s) ∧ W.cell? ⟨(ad.add (k * 3)).block, (ad.add (k * 3)).off + 1, none⟩ = some (.int .i64 a_) ∧ W.cell? ⟨(ad.add (k * 3)).block, (ad.add (k * 3)).off + 2, none⟩ = some (.slice Au fs.length cu))
            (first
              | exact HS.out _ x6
              | exact HS.out _ x5
              | exact HS.out _ (Ext.drew _)
              | fail)
            (first
              | (go_at_call 23
                 refine (lsame_any w5 s s a_ a_ _ _ fs fs (SL.up Huy4.out x5) (SL.up Hud4.out x5)).mono ?_
                 rintro e w6 ⟨rfl, hx6⟩
                 rw [decide_eq_true rfl]
                 have x6 := Ext.trans x5 hx6)
              | (go_at_call 23
                 refine (lsame_any _ s s a_ a_ _ _ fs fs (SL.up Hux4.out (Ext.drew _)) (SL.up Hud4.out (Ext.drew _))).mono ?_
                 rintro e w5 ⟨rfl, hx5⟩
                 rw [decide_eq_true rfl]
                 have x5 := Ext.trans (Ext.drew _) hx5)
              | fail)
          have Hx6 := Lib.hid (Ext.trans Hx4.out x6)
          clear x5 x6 hx5 hx6
          go_wp2
          exact ⟨⟨k + 1, rfl, by omega, Hx6.out⟩, by simp only [intOf]; omega⟩
        · have hkl : ¬(k : Int) < L.length := by omega
          clear hx
          go_wp2_with fail
          refine (awake_any wr).mono ?_
          rintro e w3 ⟨rfl, hx⟩
          have Hx3 := Lib.hid (Ext.trans Hx2.out (Ext.trans Hx.out hx))
          clear hx
          go_wp2
          go_ret
          exact ⟨rfl, Hx3.out⟩
end Go.Proofs.Ytnajmpkdeenkbaa
