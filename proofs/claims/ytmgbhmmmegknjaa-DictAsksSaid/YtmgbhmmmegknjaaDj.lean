/-
  Contracts of dict.reader's number and text.
  Conditions: at most 1,000,000 bytes.
-/
import Derived.Test.YtmgbhmmmegknjaaDf
namespace Go.Proofs.Ytmgbhmmmegknjaa
open Go.RowKit Go.Op

/-- the reader's own block -/
def RBox (W : World) (B : Nat) (v : Value) (bad : Bool) : Prop := W.heap[B]? = some (.cells #[v, .bool bad] 62 (0, 0))
theorem RBox.cell {W : World} {B : Nat} {v : Value} {bad : Bool} (h : RBox W B v bad) : W.cell? ⟨B, 0, none⟩ = some v ∧ W.cell? ⟨B, 1, none⟩ = some (.bool bad) ∧ W.frozen? ⟨B, 0, none⟩ = false ∧ W.frozen? ⟨B, 1, none⟩ = false := by
  simp [World.cell?, World.frozen?, show W.heap[B]? = _ from h]
theorem RBox.lt {W : World} {B : Nat} {v : Value} {bad : Bool} (h : RBox W B v bad) : B < W.heap.size := (Array.getElem?_eq_some_iff.1 h).1
theorem RBox.new (W : World) (v : Value) (bad : Bool) : RBox (W.alloc (.cells #[v, .bool bad] 62)) W.heap.size v bad := heap_alloc_new W _
theorem RBox.keep {T : Nat → Prop} {W W' : World} {B : Nat} {v : Value} {bad : Bool} (h : RBox W B v bad) (hk : Kept T W W') (hT : ¬T B) : RBox W' B v bad := (hk.block B h.lt hT).trans h
theorem RBox.ext {W W' : World} {B : Nat} {v : Value} {bad : Bool} (h : RBox W B v bad) (hx : Ext W W') : RBox W' B v bad := (hx.block B h.lt).trans h
theorem RBox.set0 {W : World} {B : Nat} {v : Value} {bad : Bool} (v' : Value) (h : RBox W B v bad) : RBox (W.setCell ⟨B, 0, none⟩ v') B v' bad := by
  obtain ⟨hlt, hk⟩ := Array.getElem?_eq_some_iff.1 h
  show (W.heap.modify B _)[B]? = _
  rw [Array.getElem?_eq_getElem (by rw [Array.size_modify]; exact hlt), Array.getElem_modify_self, hk]
  rfl
theorem RBox.set1 {W : World} {B : Nat} {v : Value} {bad : Bool} (b' : Bool) (h : RBox W B v bad) : RBox (W.setCell ⟨B, 1, none⟩ (.bool b')) B v b' := by
  obtain ⟨hlt, hk⟩ := Array.getElem?_eq_some_iff.1 h
  show (W.heap.modify B _)[B]? = _
  rw [Array.getElem?_eq_getElem (by rw [Array.size_modify]; exact hlt), Array.getElem_modify_self, hk]
  rfl
theorem BS.kept {T : Nat → Prop} {W W' : World} {n0 : Nat} {v : Value} {bs : List UInt8} (h : BS W n0 v bs) (hn : n0 ≤ W.heap.size) (hk : Kept T W W') (hT : ∀ k, k < n0 → ¬T k) : BS W' n0 v bs := by
  obtain ⟨A, c, hv, h1, h2, h3, h4⟩ := h
  refine ⟨A, c, hv, h1, h2, h3, h4.keep fun p hp => ?_⟩
  exact World.cell?_of_block (hk.block _ (by omega) (hT _ hp))
/-- the reader at B: what is left lies below n0 -/
structure RdSt (n0 L : Nat) (W : World) (B : Nat) (st : RSt) : Prop where
  ex : ∃ v, RBox W B v st.2 ∧ BS W n0 v st.1
  ge : n0 ≤ B
  len : st.1.length ≤ L
theorem RdSt.lt {n0 L : Nat} {W : World} {B : Nat} {st : RSt} (h : RdSt n0 L W B st) : B < W.heap.size := by
  obtain ⟨v, h1, _⟩ := h.ex
  exact h1.lt
theorem RdSt.kept {T : Nat → Prop} {n0 L : Nat} {W W' : World} {B : Nat} {st : RSt} (h : RdSt n0 L W B st) (hk : Kept T W W') (hT : ∀ k, T k → n0 ≤ k ∧ k ≠ B) : RdSt n0 L W' B st := by
  obtain ⟨v, h1, h2⟩ := h.ex
  have := h.ge
  have := h.lt
  exact ⟨⟨v, h1.keep hk fun ht => (hT B ht).2 rfl, h2.kept (by omega) hk fun k hk' ht => by have := (hT k ht).1; omega⟩, h.ge, h.len⟩
theorem RdSt.ext {n0 L : Nat} {W W' : World} {B : Nat} {st : RSt} (h : RdSt n0 L W B st) (hx : Ext W W') : RdSt n0 L W' B st := h.kept (hx.kept fun _ => False) fun _ h => h.elim
theorem rdN_bad {most : Nat} {bs : List UInt8} : rdN most (bs, true) = (0, (bs, true)) := rfl
theorem rdN_no {most : Nat} {bs : List UInt8} (h : ¬(vgE bs = 0 ∧ vgN bs ≤ most)) : rdN most (bs, false) = (0, (bs, true)) := by
  have : num most bs = none := if_neg h
  unfold rdN
  rw [if_neg (by simp)]
  simp only
  rw [this]
theorem rdN_ok {most : Nat} {bs : List UInt8} (h : vgE bs = 0 ∧ vgN bs ≤ most) : rdN most (bs, false) = (vgN bs, (vgRest bs, false)) := by
  have : num most bs = some (vgN bs, vgRest bs) := if_pos h
  unfold rdN
  rw [if_neg (by simp)]
  simp only
  rw [this]

set_option maxHeartbeats 1600000 in
set_option maxRecDepth 100000 in
theorem number_any (n0 L : Nat) (W : World) (B : Nat) (st : RSt) (most : Nat) (hL : L ≤ 1000000) (hb : most ≤ 9223372036854775807) (h : RdSt n0 L W B st) :
    Calls Try.prog 29 #[.pointer (some ⟨B, 0, none⟩), .int .i64 most] W fun e W' => e = .returned (.int .i64 (rdN most st).1) ∧ RdSt n0 L W' B (rdN most st).2 ∧ Kept (fun k => k = B) W W' := by
  obtain ⟨bs, bad⟩ := st
  obtain ⟨⟨v, h1, h2⟩, h3, h4⟩ := h
  dsimp only at h1 h2 h4
  have hn0 : n0 ≤ W.heap.size := by have := h1.lt; omega
  have hc := h1.cell.1
  have H1 := Lib.hid h1
  have H2 := Lib.hid h2
  have hb' : (most : Int) ≤ 9223372036854775807 := by omega
  clear h1 h2
  go_enter Try.func29, Try.ntmps29
  go_wp2_with fail
  refine (get_any W n0 v bs H2.out hn0 (by omega)).mono ?_
  rintro e w1 ⟨r, rfl, hr, hx1⟩
  have b1 := H1.out.ext hx1
  obtain ⟨c0, c1, f0, f1⟩ := b1.cell
  have B1 := Lib.hid b1
  have Hk1 := Lib.hid (Ext.kept hx1 (fun k => k = B))
  have Hr := Lib.hid hr
  have hN := (vgN_64 bs).lt
  have hR := vgRest_len bs
  have hbad : ∀ p : Nat × RSt, p = (0, (bs, true)) → RdSt n0 L (w1.setCell ⟨B, 1, none⟩ (.bool true)) B p.2 ∧ Kept (fun k => k = B) W (w1.setCell ⟨B, 1, none⟩ (.bool true)) := by
    rintro p rfl
    have hk2 : Kept (fun k => k = B) w1 (w1.setCell ⟨B, 1, none⟩ (.bool true)) := Kept.setCell _ _ _ _ rfl
    exact ⟨⟨⟨v, b1.set1 true, (H2.out.ext hn0 hx1).kept (Nat.le_trans hn0 hx1.size) hk2 (fun k hk => by omega)⟩, h3, h4⟩, Hk1.out.trans hk2⟩
  have Bad := Lib.hid hbad
  have hs1 := hx1.size
  clear b1 hr hx1 hbad hc
  cases bad with
  | true =>
    have Hd := Lib.hid (rdN_bad (most := most) (bs := bs))
    go_wp2
    go_ret
    exact ⟨by rw [Hd.out]; rfl, Bad.out _ Hd.out⟩
  | false =>
    by_cases hE : vgE bs = 0
    · by_cases hle : vgN bs ≤ most
      · have Hd := Lib.hid (rdN_ok (most := most) (bs := bs) ⟨hE, hle⟩)
        rw [hE]
        generalize vgN bs = N at hN hle Hr Hd
        generalize vgRest bs = R at hR Hr Hd
        obtain ⟨Ar, cr, rfl⟩ := Hr.out.form
        have hle' : ¬(most : Int) < (N : Int) := by omega
        have hN' : (N : Int) ≤ 9223372036854775807 := by omega
        clear hE
        go_wp2
        go_ret
        have hk2 : Kept (fun k => k = B) w1 (w1.setCell ⟨B, 0, none⟩ (.slice Ar R.length cr)) := Kept.setCell _ _ _ _ rfl
        refine ⟨by rw [Hd.out]; rfl, ?_, Hk1.out.trans hk2⟩
        rw [Hd.out]
        exact ⟨⟨_, B1.out.set0 _, Hr.out.kept (Nat.le_trans hn0 hs1) hk2 (fun k hk => by omega)⟩, h3, by simp only; omega⟩
      · have Hd := Lib.hid (rdN_no (most := most) (bs := bs) (fun h => hle h.2))
        rw [hE]
        generalize vgN bs = N at hN hle Hr
        have hle' : (most : Int) < (N : Int) := by omega
        clear hE
        go_wp2
        go_ret
        exact ⟨by rw [Hd.out]; rfl, Bad.out _ Hd.out⟩
    · have Hd := Lib.hid (rdN_no (most := most) (bs := bs) (fun h => hE h.1))
      have hE' : ((vgE bs : Int) != 0) = true := by rw [bne_iff_ne]; omega
      generalize vgE bs = E at hE'
      clear hE
      go_wp2
      go_ret
      exact ⟨by rw [Hd.out]; rfl, Bad.out _ Hd.out⟩

theorem txt_vt (bs : List UInt8) : txt 65 bs = if vtE bs 65 = 0 then some (vtS bs 65, vtRest bs 65) else none := by
  unfold txt num vtS vtRest vtE
  by_cases h1 : vgE bs = 0
  · by_cases h2 : vgN bs ≤ 65
    · have h2' : ¬(max 0 (65 : Int) < (vgN bs : Int)) := by omega
      by_cases h3 : vgN bs ≤ (vgRest bs).length
      · simp [h1, h2, h2', h3, Nat.not_lt.2 h3]
      · simp [h1, h2, h2', h3, Nat.not_le.1 h3]
    · have h2' : (max 0 (65 : Int) < (vgN bs : Int)) := by omega
      simp [h1, h2, h2']
  · simp [h1]
theorem rdT_bad {bs : List UInt8} : rdT (bs, true) = ([], (bs, true)) := rfl
theorem rdT_no {bs : List UInt8} (h : vtE bs 65 ≠ 0) : rdT (bs, false) = ([], (bs, true)) := by
  have := txt_vt bs
  rw [if_neg h] at this
  unfold rdT
  rw [if_neg (by simp)]
  simp only
  rw [this]
theorem rdT_ok {bs : List UInt8} (h : vtE bs 65 = 0) : rdT (bs, false) = (vtS bs 65, (vtRest bs 65, false)) := by
  have := txt_vt bs
  rw [if_pos h] at this
  unfold rdT
  rw [if_neg (by simp)]
  simp only
  rw [this]
theorem vtRest_len (bs : List UInt8) (m : Int) : (vtRest bs m).length ≤ bs.length := by
  have := vgRest_len bs
  unfold vtRest
  split
  · rw [List.length_drop]; omega
  · simp

set_option maxHeartbeats 1600000 in
set_option maxRecDepth 100000 in
theorem text_any (n0 L : Nat) (W : World) (B : Nat) (st : RSt) (hL : L ≤ 1000000) (h : RdSt n0 L W B st) :
    Calls Try.prog 47 #[.pointer (some ⟨B, 0, none⟩)] W fun e W' => e = .returned (.string ⟨(rdT st).1.toArray⟩) ∧ RdSt n0 L W' B (rdT st).2 ∧ Kept (fun k => k = B) W W' := by
  obtain ⟨bs, bad⟩ := st
  obtain ⟨⟨v, h1, h2⟩, h3, h4⟩ := h
  dsimp only at h1 h2 h4
  have hn0 : n0 ≤ W.heap.size := by have := h1.lt; omega
  have hc := h1.cell.1
  have H1 := Lib.hid h1
  have H2 := Lib.hid h2
  clear h1 h2
  go_enter Try.func47, Try.ntmps47
  go_wp2_with fail
  refine (gettext_any W n0 v bs 65 H2.out hn0 (by omega) (⟨by omega, by omega⟩)).mono ?_
  rintro e w1 ⟨r, rfl, hr, hx1⟩
  have b1 := H1.out.ext hx1
  obtain ⟨c0, c1, f0, f1⟩ := b1.cell
  have B1 := Lib.hid b1
  have Hk1 := Lib.hid (Ext.kept hx1 (fun k => k = B))
  have Hr := Lib.hid hr
  have hR := vtRest_len bs 65
  have hbad : ∀ p : List UInt8 × RSt, p = ([], (bs, true)) → RdSt n0 L (w1.setCell ⟨B, 1, none⟩ (.bool true)) B p.2 ∧ Kept (fun k => k = B) W (w1.setCell ⟨B, 1, none⟩ (.bool true)) := by
    rintro p rfl
    have hk2 : Kept (fun k => k = B) w1 (w1.setCell ⟨B, 1, none⟩ (.bool true)) := Kept.setCell _ _ _ _ rfl
    exact ⟨⟨⟨v, b1.set1 true, (H2.out.ext hn0 hx1).kept (Nat.le_trans hn0 hx1.size) hk2 (fun k hk => by omega)⟩, h3, h4⟩, Hk1.out.trans hk2⟩
  have Bad := Lib.hid hbad
  have hs1 := hx1.size
  clear b1 hr hx1 hbad hc
  cases bad with
  | true =>
    have Hd := Lib.hid (rdT_bad (bs := bs))
    go_wp2
    go_ret
    exact ⟨by rw [Hd.out]; rfl, Bad.out _ Hd.out⟩
  | false =>
    by_cases hE : vtE bs 65 = 0
    · have Hd := Lib.hid (rdT_ok hE)
      rw [hE]
      generalize vtS bs 65 = N at Hd
      generalize vtRest bs 65 = R at hR Hr Hd
      obtain ⟨Ar, cr, rfl⟩ := Hr.out.form
      clear hE
      go_wp2
      go_ret
      have hk2 : Kept (fun k => k = B) w1 (w1.setCell ⟨B, 0, none⟩ (.slice Ar R.length cr)) := Kept.setCell _ _ _ _ rfl
      refine ⟨by rw [Hd.out]; rfl, ?_, Hk1.out.trans hk2⟩
      rw [Hd.out]
      exact ⟨⟨_, B1.out.set0 _, Hr.out.kept (Nat.le_trans hn0 hs1) hk2 (fun k hk => by omega)⟩, h3, by simp only; omega⟩
    · have Hd := Lib.hid (rdT_no hE)
      have hE' : ((vtE bs 65 : Int) != 0) = true := by rw [bne_iff_ne]; omega
      generalize vtE bs 65 = E at hE'
      clear hE
      go_wp2
      go_ret
      exact ⟨by rw [Hd.out]; rfl, Bad.out _ Hd.out⟩

end Go.Proofs.Ytmgbhmmmegknjaa
