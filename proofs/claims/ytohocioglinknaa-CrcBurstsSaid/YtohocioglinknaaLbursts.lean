/-
  CrcBursts: the law's contract: it answers true and leaves all old memory alone.
  Conditions: none.
-/
import Derived.Test.YtohocioglinknaaLpieces
import Derived.Test.YtohocioglinknaaCq
import Derived.Laws.OwnMore
import Derived.RegionTactic
import Derived.Deep.RegionHeld
namespace Go.Proofs.Ytohocioglinknaa
open Go.RowKit

/-- '==' of two arrays of four bytes, the second all zero -/
theorem eq4 (a b c d : Int) (w : World) : (Op.equalIn 10000 33 (.agg #[.int .u8 a, .int .u8 b, .int .u8 c, .int .u8 d]) (.agg #[.int .u8 0, .int .u8 0, .int .u8 0, .int .u8 0])).run Try.prog w = .ok (a == 0 && b == 0 && c == 0 && d == 0) w := by
  have u3 := Try.underlying5
  have a3 := Try.isAgg5
  have z3 := Try.sizeOf5
  rw [show (10000 : Nat) = 9999 + 1 from rfl, Op.equalIn]
  simp only [Sem.run_bind, run_underlying Try.underlying33, Result.andThen_ok]
  simp only [Std.Legacy.Range.forIn_eq_forIn_range', Std.Legacy.Range.size, Nat.sub_zero, Nat.add_sub_cancel, Nat.div_one, List.range'_succ, List.range'_zero, List.forIn_cons, List.forIn_nil]
  go_simp
  by_cases h1 : a = 0 <;> by_cases h2 : b = 0 <;> by_cases h3 : c = 0 <;> by_cases h4 : d = 0 <;> simp [h1, h2, h3, h4]

theorem bv_set (X : List UInt8) (i : Nat) (b : UInt8) : bv (X.set i b) = (bv X).set i (.int .u8 (b.toNat : Int)) := by
  simp [bv, List.map_set]
theorem u8_ne (b : UInt8) : ((b.toNat : Int) != 0) = decide (b ≠ 0) := by
  by_cases h : b = 0
  · subst h
    rfl
  · have h1 : b.toNat ≠ 0 := fun e => h (UInt8.toNat_inj.1 e)
    have h2 : ((b.toNat : Int) != 0) = true := by
      rw [bne_iff_ne]
      omega
    rw [h2]
    simp [h]
theorem sum_ne {X xs : List UInt8} {k j : Nat} (hl : X.length = xs.length) (h1 : X.take k = xs.take k) (h2 : X.drop (k + j) = xs.drop (k + j)) (hj : j ≤ 4) (he : j = 4 ∨ xs.length ≤ k + j) :
    (((csumTo 0 [X] : Nat) : Int) != ((csumTo 0 [xs] : Nat) : Int)) = decide (X ≠ xs) := by
  have h3 : X.drop (k + 4) = xs.drop (k + 4) := by
    have := congrArg (List.drop (4 - j)) h2
    rw [List.drop_drop, List.drop_drop, show k + j + (4 - j) = k + 4 from by omega] at this
    exact this
  have e1 : csumTo 0 [X] = cnext 0 X := rfl
  have e2 : csumTo 0 [xs] = cnext 0 xs := rfl
  rw [e1, e2]
  by_cases hX : X = xs
  · subst hX
    simp
  · have hne : cnext 0 X ≠ cnext 0 xs := fun h => hX (turned_sum hl h1 h3 h)
    generalize cnext 0 X = p at hne
    generalize cnext 0 xs = q at hne
    have : ((p : Int) != (q : Int)) = true := by
      rw [bne_iff_ne]
      omega
    rw [this]
    simp [hX]

set_option maxHeartbeats 4000000 in
set_option maxRecDepth 100000 in
theorem bursts_any (w : World) (va : Value) (as0 : List UInt8) (K : Nat) (b0 b1 b2 b3 : UInt8) (ha : BS w w.heap.size va as0) (hK : K < 65536) :
    Calls Try.prog 5 #[va, .int .u16 K, .agg #[.int .u8 b0.toNat, .int .u8 b1.toNat, .int .u8 b2.toNat, .int .u8 b3.toNat]] w fun e w' => e = .returned (.bool true) ∧ Ext w w' := by
  have hb0 := b0.toNat_lt
  have hb1 := b1.toNat_lt
  have hb2 := b2.toNat_lt
  have hb3 := b3.toNat_lt
  go_enter Try.func5, Try.ntmps5
  go_wp2_with fail
  refine (cut_any _ w.heap.size va as0 (ha.ext (Nat.le_refl _) (Ext.of_alloc _ _))).mono ?_
  rintro e w1 ⟨a, rfl, ha, hw1⟩
  have la : (as0.take 3000).length ≤ 3000 := by rw [List.length_take]; omega
  generalize as0.take 3000 = xs at ha la
  obtain ⟨A, c, rfl⟩ := ha.form
  have Ha := Lib.hid ha
  clear ha
  by_cases hx0 : xs.length = 0
  · go_wp2_with fail
    refine (awake_any w1).mono ?_
    rintro e w2 ⟨rfl, hx2⟩
    go_wp2
    go_ret
    exact ⟨rfl, (hw1 ▸ Ext.of_alloc w _ : Ext w w1).trans hx2⟩
  · have hz : ((xs.length : Int) == 0) = false := by
      rw [beq_eq_false_iff_ne]
      omega
    have c0 : w1.cell? ⟨w.heap.size, 0, none⟩ = some (.int .u8 b0.toNat) := by rw [← hw1, World.cell?_alloc_at _ _ _ _ rfl]; rfl
    have c1 : w1.cell? ⟨w.heap.size, 1, none⟩ = some (.int .u8 b1.toNat) := by rw [← hw1, World.cell?_alloc_at _ _ _ _ rfl]; rfl
    have c2 : w1.cell? ⟨w.heap.size, 2, none⟩ = some (.int .u8 b2.toNat) := by rw [← hw1, World.cell?_alloc_at _ _ _ _ rfl]; rfl
    have c3 : w1.cell? ⟨w.heap.size, 3, none⟩ = some (.int .u8 b3.toNat) := by rw [← hw1, World.cell?_alloc_at _ _ _ _ rfl]; rfl
    have Hw := Lib.hid hw1
    clear hw1
    have he := eq4 b0.toNat b1.toNat b2.toNat b3.toNat w1
    by_cases hall : ((b0.toNat : Int) == 0 && (b1.toNat : Int) == 0 && (b2.toNat : Int) == 0 && (b3.toNat : Int) == 0) = true
    · rw [hall] at he
      go_wp2_with fail
      refine (awake_any w1).mono ?_
      rintro e w2 ⟨rfl, hx2⟩
      go_wp2
      go_ret
      exact ⟨rfl, (Hw.out ▸ Ext.of_alloc w _ : Ext w w1).trans hx2⟩
    · rw [Bool.not_eq_true] at hall
      rw [hall] at he
      have hx1 : Ext w w1 := Hw.out ▸ Ext.of_alloc w _
      go_wp2_with (at_builtin; refine wpList_append_bytes _ rfl (.tmp 22) (.tmp 23) rfl w1.heap.size (.slice (some ⟨w1.heap.size, 0, none⟩) 0 0) [] rfl (own_empty _ _) w.heap.size (.slice A xs.length c) xs rfl (BS.ext (Hw.out ▸ Ha.out) hx1.size (Ext.of_alloc _ _)) (by simp; omega) (by simp) ?_; intro v2 w2 hown2 hg2 _)
      clear he hz c0 c1 c2 c3 hb0 hb1 hb2 hb3
      have hk0 : K % xs.length < xs.length := Nat.mod_lt _ (by omega)
      have hk1 : (K : Int) % (xs.length : Int) = ((K % xs.length : Nat) : Int) := by omega
      rw [hk1]
      generalize K % xs.length = k at hk0 hk1
      clear hk1 hall
      rw [List.nil_append] at hown2
      obtain ⟨g, cap, rfl, hgb, hgs⟩ := World.ownsRow.form hown2 (by omega)
      have hx2 : Ext w1 w2 := ((Below.refl _ _).alloc (Nat.le_refl _) _).grown hg2 (by simp) (by simp [Value.ownBlock])
      clear hg2
      have Hx1 := Lib.hid hx1
      have cells : ∀ j (_ : j < [b0, b1, b2, b3].length), w1.cell? ⟨w.heap.size, j, none⟩ = some (.int .u8 (([b0, b1, b2, b3][j]).toNat : Int)) := by
        intro j hj
        rw [← Hw.out, World.cell?_alloc_at _ _ _ _ rfl]
        match j, hj with
        | 0, _ => rfl
        | 1, _ => rfl
        | 2, _ => rfl
        | 3, _ => rfl
      have hbl : w.heap.size < w1.heap.size := by rw [← Hw.out]; simp
      have hq4 : [b0, b1, b2, b3].length = 4 := rfl
      clear hx1
      have ha1 : BS w1 w.heap.size (.slice A xs.length c) xs := Hw.out ▸ Ha.out
      clear Hw Ha
      have Ha := Lib.hid (ha1.more (Nat.le_of_lt hbl))
      clear ha1
      generalize [b0, b1, b2, b3] = qs at cells hq4
      have Cells := Lib.hid cells
      clear cells
      have H2 := Lib.hid hown2
      have hin : Own w2 w1.heap.size (.slice (some ⟨g, 0, none⟩) xs.length cap) xs := hown2
      have Hin := Lib.hid hin
      clear hown2 hin H2
      go_loopw [9, 10] (fun tu i wr => ∃ (j : Nat) (X : List UInt8), j ≤ 4 ∧ i = .int .i64 j ∧ tu = .bool (decide (X ≠ xs)) ∧ Own wr w1.heap.size (.slice (some ⟨g, 0, none⟩) xs.length cap) X ∧ X.length = xs.length ∧ X.take k = xs.take k ∧ X.drop (k + j) = xs.drop (k + j) ∧ Ext w1 wr)
        (fun _ i _ => 4 - (intOf i).toNat)
      case atStart => exact ⟨0, xs, by decide, rfl, by simp, Hin.out, rfl, rfl, rfl, hx2⟩
      case round =>
        obtain ⟨j, X, hj, rfl, rfl, hown, hXl, hX1, hX2, hx⟩ := hrel
        have Hown := Lib.hid hown
        have HX1 := Lib.hid hX1
        have HX2 := Lib.hid hX2
        have Hx := Lib.hid hx
        clear hown hX1 hX2
        by_cases hlt : j < 4
        · by_cases hlt2 : k + j < xs.length
          · have hB := Cells.out j (by omega)
            have hB := (hx.cell (p := ⟨w.heap.size, j, none⟩) hbl).trans hB
            have hjq : j < qs.length := by omega
            have hkX : k + j < X.length := by omega
            have hrow := Hown.out
            unfold Own at hrow
            rw [hXl] at hrow
            have hcX := World.ownsRow.cellAt hrow (k + j) (by omega)
            rw [bv_get X (k + j) hkX] at hcX
            have hfr := World.ownsRow.frozenAt hrow (k + j)
            have hst := World.ownsRow.stored hrow (k + j) (.int .u8 ((X[k + j] ^^^ qs[j]).toNat : Int))
            have hxx := u8x_w X[k + j].toNat_lt qs[j].toNat_lt
            rw [← UInt8.toNat_xor] at hxx
            have Hst := Lib.hid hst
            have Hstep := Lib.hid (turn_step qs[j] hXl hkX HX1.out HX2.out)
            clear hst hrow
            have hB1 := qs[j].toNat_lt
            have hX1 := X[k + j].toNat_lt
            generalize qs[j] = B at hB hxx hB1 Hst Hstep
            generalize X[k + j] = Y at hcX hxx Hst Hstep hX1
            have hj2 : ((j : Int) < 4) := by omega
            have hB2 : ((wr.setCell ⟨g, k + j, none⟩ (.int .u8 ((Y.toNat ^^^ B.toNat : Nat) : Int))).drew).cell? ⟨w.heap.size, j, none⟩ = some (.int .u8 (B.toNat : Int)) := by
              rw [← hB]
              exact World.cell?_setCell_far wr _ _ _ (by simp; omega)
            have hnew : Own (wr.setCell ⟨g, k + j, none⟩ (.int .u8 ((Y.toNat ^^^ B.toNat : Nat) : Int))).drew w1.heap.size (.slice (some ⟨g, 0, none⟩) xs.length cap) (X.set (k + j) (Y ^^^ B)) ∧
                Ext w1 (wr.setCell ⟨g, k + j, none⟩ (.int .u8 ((Y.toNat ^^^ B.toNat : Nat) : Int))).drew := by
              refine ⟨Own.ext ?_ (Ext.drew _), (hx.grown (row := some g) (by rw [← UInt8.toNat_xor]; exact Hst.out.2) hx.size (fun k' hk' => ?_)).drew⟩
              · unfold Own
                rw [bv_set, List.length_set, hXl, ← UInt8.toNat_xor]
                exact Hst.out.1
              · cases hk'
                exact hgb
            have Hnew := Lib.hid hnew
            clear hnew
            generalize hT : decide (X ≠ xs) = T
            have HT := Lib.hid hT
            clear hT
            have hlen := hXl
            clear hXl
            cases T
            · go_wp2
              go_region
              go_wp2
              exact ⟨⟨j + 1, X.set (k + j) (Y ^^^ B), by omega, rfl, by rw [Hstep.out.2.2.2, HT.out, Bool.false_or, u8_ne], Hnew.out.1, Hstep.out.1, Hstep.out.2.1, Hstep.out.2.2.1, Hnew.out.2⟩, by simp only [intOf]; omega⟩
            · go_wp2
              go_region
              go_wp2
              exact ⟨⟨j + 1, X.set (k + j) (Y ^^^ B), by omega, rfl, by rw [Hstep.out.2.2.2, HT.out, Bool.true_or], Hnew.out.1, Hstep.out.1, Hstep.out.2.1, Hstep.out.2.2.1, Hnew.out.2⟩, by simp only [intOf]; omega⟩
          · skip
            go_wp2_with fail
            refine (sum_any (wr.alloc (.cells #[.slice (some ⟨g, 0, none⟩) xs.length cap] 22)) _ [X] (by simpa using one_ wr _ X (Own.bs Hown.out)) (by simp; omega) (by simp)).mono ?_
            rintro e w3 ⟨rfl, hx3⟩
            have hx4 := Hx.out.trans ((Ext.of_alloc wr (.cells #[.slice (some ⟨g, 0, none⟩) xs.length cap] 22)).trans hx3)
            have hb3 := (Ha.out.ext (Nat.le_refl _) hx4).more hx4.size
            have Hx4 := Lib.hid hx4
            clear hx4 hx3
            go_wp2_with fail
            refine (sum_any (w3.alloc (.cells #[.slice A xs.length c] 22)) _ [xs] (by simpa using one_ w3 _ xs hb3) (by simp; omega) (by simp)).mono ?_
            rintro e w4 ⟨rfl, hx5⟩
            have hsum := sum_ne (k := k) (j := j) hXl HX1.out HX2.out hj (by omega)
            go_wp2_with fail
            refine (awake_any w4).mono ?_
            rintro e w5 ⟨rfl, hx6⟩
            go_wp2
            go_ret
            exact ⟨rfl, (Hx1.out.trans Hx4.out).trans (((Ext.of_alloc _ _).trans hx5).trans hx6)⟩
        · skip
          go_wp2_with fail
          refine (sum_any (wr.alloc (.cells #[.slice (some ⟨g, 0, none⟩) xs.length cap] 22)) _ [X] (by simpa using one_ wr _ X (Own.bs Hown.out)) (by simp; omega) (by simp)).mono ?_
          rintro e w3 ⟨rfl, hx3⟩
          have hx4 := Hx.out.trans ((Ext.of_alloc wr (.cells #[.slice (some ⟨g, 0, none⟩) xs.length cap] 22)).trans hx3)
          have hb3 := (Ha.out.ext (Nat.le_refl _) hx4).more hx4.size
          have Hx4 := Lib.hid hx4
          clear hx4 hx3
          go_wp2_with fail
          refine (sum_any (w3.alloc (.cells #[.slice A xs.length c] 22)) _ [xs] (by simpa using one_ w3 _ xs hb3) (by simp; omega) (by simp)).mono ?_
          rintro e w4 ⟨rfl, hx5⟩
          have hsum := sum_ne (k := k) (j := j) hXl HX1.out HX2.out hj (by omega)
          go_wp2_with fail
          refine (awake_any w4).mono ?_
          rintro e w5 ⟨rfl, hx6⟩
          go_wp2
          go_ret
          exact ⟨rfl, (Hx1.out.trans Hx4.out).trans (((Ext.of_alloc _ _).trans hx5).trans hx6)⟩

end Go.Proofs.Ytohocioglinknaa
