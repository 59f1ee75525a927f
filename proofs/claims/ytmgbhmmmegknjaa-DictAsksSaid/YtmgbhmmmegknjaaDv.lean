/-
  Contracts of the reference's get and entry.
  Conditions: at most 1,000,000 bytes.
-/
import Derived.Test.YtmgbhmmmegknjaaDk
import Derived.Test.YtmgbhmmmegknjaaVd
import Derived.Deep.DeepCutAuto
namespace Go.Proofs.Ytmgbhmmmegknjaa
open Go.RowKit Go.Op

/-- a number of at most so much, by the reference -/
def NumIs (n0 : Nat) (W' : World) (e : Ending) : Option (Nat × List UInt8) → Prop
  | none => e = .returned (.tuple #[.int .i64 0, .slice none 0 0, .bool false])
  | some (n, r) => ∃ u, e = .returned (.tuple #[.int .i64 n, u, .bool true]) ∧ BS W' n0 u r
set_option maxHeartbeats 1600000 in
set_option maxRecDepth 100000 in
theorem rnum_any (n0 : Nat) (W : World) (v : Value) (bs : List UInt8) (b : Nat) (hv : BS W n0 v bs) (hn : n0 ≤ W.heap.size) (hL : bs.length ≤ 1000000) (hb : b ≤ 9223372036854775807) :
    Calls Try.prog 31 #[v, .int .i64 b] W fun e W' => NumIs n0 W' e (num b bs) ∧ Ext W W' := by
  have Hv := Lib.hid hv
  have hb' : (b : Int) ≤ 9223372036854775807 := by omega
  clear hv
  go_enter Try.func31, Try.ntmps31
  go_wp2_with fail
  refine (rget_any W n0 v bs Hv.out hn (by omega)).mono ?_
  rintro e w1 ⟨r, rfl, hr, hx1⟩
  have Hr := Lib.hid hr
  have hN := (vgN_64 bs).lt
  have Hx1 := Lib.hid hx1
  clear hx1 hr
  by_cases hE : vgE bs = 0
  · by_cases hle : vgN bs ≤ b
    · have hnum : num b bs = some (vgN bs, vgRest bs) := if_pos ⟨hE, hle⟩
      rw [hE]
      generalize vgN bs = N at hN hle hnum
      have hle' : ¬(b : Int) < (N : Int) := by omega
      have hN' : (N : Int) ≤ 9223372036854775807 := by omega
      have Hnum := Lib.hid hnum
      clear hnum hE
      go_wp2
      go_ret3
      rw [Hnum.out]
      exact ⟨⟨_, rfl, Hr.out⟩, Hx1.out⟩
    · have hnum : num b bs = none := if_neg (fun h => hle h.2)
      rw [hE]
      generalize vgN bs = N at hN hle
      have hle' : (b : Int) < (N : Int) := by omega
      have Hnum := Lib.hid hnum
      clear hnum hE
      go_wp2
      go_ret3
      rw [Hnum.out]
      exact ⟨rfl, Hx1.out⟩
  · have hnum : num b bs = none := if_neg (fun h => hE h.1)
    have hE' : ((vgE bs : Int) != 0) = true := by rw [bne_iff_ne]; omega
    generalize vgE bs = E at hE'
    have Hnum := Lib.hid hnum
    clear hnum hE
    go_wp2
    go_ret3
    rw [Hnum.out]
    exact ⟨rfl, Hx1.out⟩

/-- an entry that memory can hold -/
def Fine (e : Ent) : Prop := e.1.b.length ≤ 1000000 ∧ (0 ≤ e.2.1 ∧ e.2.1 ≤ 67108864) ∧ (0 ≤ e.2.2.1 ∧ e.2.2.1 ≤ 67108864) ∧ (0 ≤ e.2.2.2 ∧ e.2.2.2 ≤ 67108864)
def EntIs (n0 : Nat) (W' : World) (e : Ending) : Option (Ent × List UInt8) → Prop
  | none => ∃ x, e = .returned (.tuple #[entV x, .slice none 0 0, .bool false]) ∧ Fine x
  | some (x, r) => ∃ u, e = .returned (.tuple #[entV x, u, .bool true]) ∧ BS W' n0 u r ∧ Fine x
theorem EBox.set0 {W : World} {E : Nat} {t : Tx} {x y z : Int} (t' : Tx) (h : EBox W E (t, x, y, z)) : EBox (W.setCell ⟨E, 0, none⟩ (.string ⟨t'.b.toArray⟩)) E (t', x, y, z) := by
  obtain ⟨hlt, hk⟩ := Array.getElem?_eq_some_iff.1 h
  show (W.heap.modify E _)[E]? = _
  rw [Array.getElem?_eq_getElem (by rw [Array.size_modify]; exact hlt), Array.getElem_modify_self, hk]
  rfl
theorem rtxt_is (bs : List UInt8) : (vtE bs 65 = 0 ∧ txt 65 bs = some (vtS bs 65, vtRest bs 65)) ∨ (vtE bs 65 ≠ 0 ∧ txt 65 bs = none) := by
  have := txt_vt bs
  by_cases h : vtE bs 65 = 0
  · rw [if_pos h] at this; exact .inl ⟨h, this⟩
  · rw [if_neg h] at this; exact .inr ⟨h, this⟩

set_option maxHeartbeats 8000000 in
set_option maxRecDepth 100000 in
theorem rentry_any (n0 : Nat) (W : World) (v : Value) (bs ahead : List UInt8) (hv : BS W n0 v bs) (hn : n0 ≤ W.heap.size) (hL : bs.length ≤ 100000) (ha : ahead.length ≤ 900000) :
    Calls Try.prog 32 #[v, .string ⟨ahead.toArray⟩] W fun e W' => EntIs n0 W' e (entR ahead bs) ∧ Ext W W' := by
  have Hv := Lib.hid hv
  have hR0 := (EBox.new W)
  have hx0 : Ext W ((W.alloc (.cells #[.string ⟨#[]⟩, .int .i64 0, .int .i64 0, .int .i64 0] 42)).alloc (.cells #[.string ⟨#[]⟩, .int .i64 0, .int .i64 0, .int .i64 0] 42)) := Ext.al (Ext.of_alloc _ _) _
  have hX0 := EBox.new (W.alloc (.cells #[.string ⟨#[]⟩, .int .i64 0, .int .i64 0, .int .i64 0] 42))
  rw [World.size_alloc] at hX0
  have HR0 := Lib.hid (hR0.keep ((Ext.of_alloc _ (.cells #[.string ⟨#[]⟩, .int .i64 0, .int .i64 0, .int .i64 0] 42)).kept (fun _ => False)) (fun h => h))
  have HX0 := Lib.hid hX0
  have Hx0 := Lib.hid hx0
  have hdf : entR ahead bs = entR ahead bs := rfl
  conv at hdf => rhs; unfold entR
  have hal : (ahead.length : Int) ≤ 900000 := by omega
  clear hv hR0 hx0 hX0
  go_enter Try.func32, Try.ntmps32
  go_wp2_with fail
  refine (rnum_any n0 _ v bs ahead.length (Hv.out.ext hn Hx0.out) (by have := Hx0.out.size; omega) (by omega) (by omega)).mono ?_
  rintro e w1 ⟨h1, hx1⟩
  have hR1 := HR0.out.keep (T := fun _ => False) (Ext.kept hx1 _) (fun h => h)
  have hX1 := HX0.out.keep (T := fun _ => False) (Ext.kept hx1 _) (fun h => h)
  have HX := Lib.hid (Ext.trans Hx0.out hx1)
  have hsz := hX1.lt
  clear hx1 Hx0 HR0 HX0
  cases hn1 : num ahead.length bs with
  | none =>
    rw [hn1] at h1 hdf
    obtain rfl := h1
    have Hdf := Lib.hid hdf
    have HR1 := Lib.hid hR1
    clear hdf
    obtain ⟨c0, c1, c2, c3, f0, f1, f2, f3⟩ := hR1.cell
    obtain ⟨d0, d1, d2, d3, g0, g1, g2, g3⟩ := hX1.cell
    go_wp2
    have hf := HR1.out.set4 (t := ⟨[]⟩) (x := 0) (y := 0) (z := 0)
    obtain ⟨e0, e1, e2, e3, _⟩ := hf.cell
    dsimp only at e0 e1 e2 e3
    refine bodyPost_ret (v := .tuple #[entV (⟨[]⟩, 0, 0, 0), .slice none 0 0, .bool false]) (by simp [results, Try.f32, go_sem, e0, e1, e2, e3, entV]) rfl ⟨by rw [Hdf.out]; exact ⟨_, rfl, ⟨by simp, by decide, by decide, by decide⟩⟩, ?_⟩
    exact ((Ext.kept HX.out (fun _ => False)).cut (kept4 _ _ _ _ _ _) (Nat.le_refl _)).ext fun _ _ h => h
  | some q1 =>
    obtain ⟨k, r1⟩ := q1
    rw [hn1] at h1 hdf
    obtain ⟨u1, rfl, h1⟩ := h1
    have hl1 := num_len hn1
    simp only at hdf
    have Hdf := Lib.hid hdf
    have H1 := Lib.hid h1
    have HR1 := Lib.hid hR1
    have HX1 := Lib.hid hX1
    have hka : (k : Int) ≤ ahead.length := by omega
    clear hdf h1 hR1 hX1 hn1
    go_wp2_with fail
    refine (rgettext_any w1 n0 u1 r1 65 H1.out (by have := HX.out.size; omega) (by omega) ⟨by omega, by omega⟩).mono ?_
    rintro e w2 ⟨u2, rfl, h2, hx2⟩
    have hR2 := HR1.out.keep (T := fun _ => False) (Ext.kept hx2 _) (fun h => h)
    have hX2 := HX1.out.keep (T := fun _ => False) (Ext.kept hx2 _) (fun h => h)
    have HX2 := Lib.hid (Ext.trans HX.out hx2)
    have hsz2 := hX2.lt
    clear hx2
    obtain ⟨hE, ht⟩ | ⟨hE, ht⟩ := rtxt_is r1
    · have hdf := Hdf.out
      rw [ht] at hdf
      simp only at hdf
      have Hdf2 := Lib.hid hdf
      have hl2 := txt_len ht
      rw [hE]
      generalize vtS r1 65 = S at hl2 Hdf2
      generalize vtRest r1 65 = R2 at h2 hl2 Hdf2
      have H2 := Lib.hid h2
      have HR2 := Lib.hid hR2
      have HB2 := Lib.hid hX2
      have hcat : ¬9223372036854775807 < k + S.length := by omega
      have HCT : Hid ((ByteArray.mk ahead.toArray).extract 0 k ++ ⟨S.toArray⟩ = ⟨(ahead.take k ++ S).toArray⟩) := Lib.hid (by
        rw [ByteArray.extract_mk]
        apply ByteArray.ext
        simp)
      obtain ⟨d0, d1, d2, d3, g0, g1, g2, g3⟩ := hX2.cell
      clear hdf h2 hR2 hX2 ht hE Hdf
      go_wp2_with fail
      rw [HCT.out]
      have hk3 : Kept (fun j => j = W.heap.size + 1) w2 (w2.setCell ⟨W.heap.size + 1, 0, none⟩ (.string ⟨(ahead.take k ++ S).toArray⟩)) := Kept.setCell _ _ _ _ rfl
      have HX3 := Lib.hid (HB2.out.set0 ⟨ahead.take k ++ S⟩)
      have HR3 := Lib.hid (HR2.out.keep hk3 (by omega))
      have HE3 : Hid (Ext W (w2.setCell ⟨W.heap.size + 1, 0, none⟩ (.string ⟨(ahead.take k ++ S).toArray⟩))) := Lib.hid (((Ext.kept HX2.out (fun _ => False)).cut hk3 (by omega)).ext fun _ _ h => h)
      have H3 := Lib.hid (H2.out.kept (by have := HX2.out.size; omega) hk3 (fun j hj h => by omega))
      have hTl : (ahead.take k ++ S).length ≤ 1000000 := by rw [List.length_append, List.length_take]; omega
      clear d0 d1 d2 d3 g0 g1 g2 g3 hk3 hcat
      generalize ahead.take k ++ S = T at HX3 HR3 HE3 H3 hTl Hdf2
      generalize hW3 : w2.setCell ⟨W.heap.size + 1, 0, none⟩ (.string ⟨T.toArray⟩) = w3 at HX3 HR3 HE3 H3
      clear hW3
      refine (rnum_any n0 w3 u2 R2 67108864 H3.out (by have := HE3.out.size; omega) (by omega) (by decide)).mono ?_
      rintro e w4 ⟨h4, hx4⟩
      have HR4 := Lib.hid (HR3.out.keep (T := fun _ => False) (Ext.kept hx4 _) (fun h => h))
      have HX4 := Lib.hid (HX3.out.keep (T := fun _ => False) (Ext.kept hx4 _) (fun h => h))
      have HE4 := Lib.hid (Ext.trans HE3.out hx4)
      clear hx4 HR3 HX3
      have hdf := Hdf2.out
      cases hn4 : num 67108864 R2 with
      | none =>
        rw [hn4] at h4 hdf
        obtain rfl := h4
        have Hdf4 := Lib.hid hdf
        clear hdf hn4
        obtain ⟨c0, c1, c2, c3, f0, f1, f2, f3⟩ := HR4.out.cell
        obtain ⟨d0, d1, d2, d3, g0, g1, g2, g3⟩ := HX4.out.cell
        go_wp2
        have hf := HR4.out.set4 (t := ⟨T⟩) (x := 0) (y := 0) (z := 0)
        obtain ⟨e0, e1, e2, e3, _⟩ := hf.cell
        dsimp only at e0 e1 e2 e3
        refine bodyPost_ret (v := .tuple #[entV (⟨T⟩, 0, 0, 0), .slice none 0 0, .bool false]) (by simp [results, Try.f32, go_sem, e0, e1, e2, e3, entV]) rfl ⟨by rw [Hdf4.out]; exact ⟨_, rfl, ⟨hTl, by simp, by simp, by simp⟩⟩, ?_⟩
        exact ((Ext.kept HE4.out (fun _ => False)).cut (kept4 _ _ _ _ _ _) (Nat.le_refl _)).ext fun _ _ h => h
      | some q4 =>
        obtain ⟨o4, r4⟩ := q4
        rw [hn4] at h4 hdf
        obtain ⟨u4, rfl, h4⟩ := h4
        have hl4 := num_len hn4
        simp only at hdf
        have Hdf4 := Lib.hid hdf
        have H4 := Lib.hid h4
        have ho4 : (o4 : Int) ≤ 67108864 := by omega
        clear hdf h4 hn4
        go_wp2_with fail
        refine (rnum_any n0 w4 u4 r4 67108864 H4.out (by have := HE4.out.size; omega) (by omega) (by decide)).mono ?_
        rintro e w5 ⟨h5, hx5⟩
        have HR5 := Lib.hid (HR4.out.keep (T := fun _ => False) (Ext.kept hx5 _) (fun h => h))
        have HX5 := Lib.hid (HX4.out.keep (T := fun _ => False) (Ext.kept hx5 _) (fun h => h))
        have HE5 := Lib.hid (Ext.trans HE4.out hx5)
        clear hx5 HR4 HX4
        have hdf := Hdf4.out
        cases hn5 : num 67108864 r4 with
        | none =>
          rw [hn5] at h5 hdf
          obtain rfl := h5
          have Hdf5 := Lib.hid hdf
          clear hdf hn5
          obtain ⟨c0, c1, c2, c3, f0, f1, f2, f3⟩ := HR5.out.cell
          obtain ⟨d0, d1, d2, d3, g0, g1, g2, g3⟩ := HX5.out.cell
          go_wp2
          have hf := HR5.out.set4 (t := ⟨T⟩) (x := 0) (y := 0) (z := 0)
          obtain ⟨e0, e1, e2, e3, _⟩ := hf.cell
          dsimp only at e0 e1 e2 e3
          refine bodyPost_ret (v := .tuple #[entV (⟨T⟩, 0, 0, 0), .slice none 0 0, .bool false]) (by simp [results, Try.f32, go_sem, e0, e1, e2, e3, entV]) rfl ⟨by rw [Hdf5.out]; exact ⟨_, rfl, ⟨hTl, by simp, by simp, by simp⟩⟩, ?_⟩
          exact ((Ext.kept HE5.out (fun _ => False)).cut (kept4 _ _ _ _ _ _) (Nat.le_refl _)).ext fun _ _ h => h
        | some q5 =>
          obtain ⟨o5, r5⟩ := q5
          rw [hn5] at h5 hdf
          obtain ⟨u5, rfl, h5⟩ := h5
          have hl5 := num_len hn5
          simp only at hdf
          have Hdf5 := Lib.hid hdf
          have H5 := Lib.hid h5
          have ho5 : (o5 : Int) ≤ 67108864 := by omega
          clear hdf h5 hn5
          go_wp2_with fail
          refine (rnum_any n0 w5 u5 r5 67108864 H5.out (by have := HE5.out.size; omega) (by omega) (by decide)).mono ?_
          rintro e w6 ⟨h6, hx6⟩
          have HR6 := Lib.hid (HR5.out.keep (T := fun _ => False) (Ext.kept hx6 _) (fun h => h))
          have HX6 := Lib.hid (HX5.out.keep (T := fun _ => False) (Ext.kept hx6 _) (fun h => h))
          have HE6 := Lib.hid (Ext.trans HE5.out hx6)
          clear hx6 HR5 HX5
          have hdf := Hdf5.out
          have fin : ∀ (o6 : Int), EBox (((w6.setCell ⟨W.heap.size + 1, 1, none⟩ (.int .i64 o4)).setCell ⟨W.heap.size + 1, 2, none⟩ (.int .i64 o5)).setCell ⟨W.heap.size + 1, 3, none⟩ (.int .i64 o6)) (W.heap.size + 1) (⟨T⟩, (o4 : Int), (o5 : Int), o6) ∧
              EBox (((w6.setCell ⟨W.heap.size + 1, 1, none⟩ (.int .i64 o4)).setCell ⟨W.heap.size + 1, 2, none⟩ (.int .i64 o5)).setCell ⟨W.heap.size + 1, 3, none⟩ (.int .i64 o6)) W.heap.size (⟨[]⟩, 0, 0, 0) ∧
              Ext W (((w6.setCell ⟨W.heap.size + 1, 1, none⟩ (.int .i64 o4)).setCell ⟨W.heap.size + 1, 2, none⟩ (.int .i64 o5)).setCell ⟨W.heap.size + 1, 3, none⟩ (.int .i64 o6)) := fun o6 => by
            have h := fun (W' : World) (i : Nat) (v : Value) => Kept.setCell (fun k => k = W.heap.size + 1) W' ⟨W.heap.size + 1, i, none⟩ v rfl
            have hk := ((h w6 1 (.int .i64 o4)).trans (h _ 2 (.int .i64 o5))).trans (h _ 3 (.int .i64 o6))
            exact ⟨((HX6.out.set1 _).set2 _).set3 _, HR6.out.keep hk (by omega), ((Ext.kept HE6.out (fun _ => False)).cut hk (by omega)).ext fun _ _ h => h⟩
          have Fin := Lib.hid fin
          obtain ⟨d0, d1, d2, d3, g0, g1, g2, g3⟩ := HX6.out.cell
          clear fin
          cases hn6 : num 67108864 r5 with
          | none =>
            rw [hn6] at h6 hdf
            obtain rfl := h6
            have Hdf6 := Lib.hid hdf
            obtain ⟨fb, fr, fe⟩ := Fin.out 0
            obtain ⟨c0, c1, c2, c3, f0, f1, f2, f3⟩ := HR6.out.cell
            clear hdf hn6
            go_wp2
            have hf := fr.set4 (t := ⟨T⟩) (x := o4) (y := o5) (z := 0)
            obtain ⟨e0, e1, e2, e3, _⟩ := hf.cell
            dsimp only at e0 e1 e2 e3
            refine bodyPost_ret (v := .tuple #[entV (⟨T⟩, (o4 : Int), (o5 : Int), 0), .slice none 0 0, .bool false]) (by simp [results, Try.f32, go_sem, e0, e1, e2, e3, entV]) rfl ⟨by rw [Hdf6.out]; exact ⟨_, rfl, ⟨hTl, ⟨by simp only; omega, ho4⟩, ⟨by simp only; omega, ho5⟩, by simp⟩⟩, ?_⟩
            exact ((Ext.kept fe (fun _ => False)).cut (kept4 _ _ _ _ _ _) (Nat.le_refl _)).ext fun _ _ h => h
          | some q6 =>
            obtain ⟨o6, r6⟩ := q6
            rw [hn6] at h6 hdf
            obtain ⟨u6, rfl, h6⟩ := h6
            have hl6 := num_len hn6
            simp only at hdf
            have Hdf6 := Lib.hid hdf
            have H6 := Lib.hid h6
            obtain ⟨fb, fr, fe⟩ := Fin.out o6
            obtain ⟨c0, c1, c2, c3, f0, f1, f2, f3⟩ := HR6.out.cell
            clear hdf hn6 h6
            go_wp2
            have hf := fr.set4 (t := ⟨T⟩) (x := o4) (y := o5) (z := o6)
            obtain ⟨e0, e1, e2, e3, _⟩ := hf.cell
            dsimp only at e0 e1 e2 e3
            have hx9 := ((Ext.kept fe (fun _ => False)).cut (kept4 _ W.heap.size (.string ⟨T.toArray⟩) (.int .i64 o4) (.int .i64 o5) (.int .i64 o6)) (Nat.le_refl _)).ext fun _ _ h => h
            have h := fun (W' : World) (i : Nat) (v : Value) => Kept.setCell (fun k => k = W.heap.size + 1) W' ⟨W.heap.size + 1, i, none⟩ v rfl
            have hk := ((h w6 1 (.int .i64 o4)).trans (h _ 2 (.int .i64 o5))).trans (h _ 3 (.int .i64 o6))
            have hb := H6.out.kept (by have := HE6.out.size; omega) hk (fun j hj h => by omega)
            have hbf := hb.kept (Nat.le_trans hn fe.size) (kept4 _ W.heap.size (.string ⟨T.toArray⟩) (.int .i64 o4) (.int .i64 o5) (.int .i64 o6)) (fun j hj h => by omega)
            refine bodyPost_ret (v := .tuple #[entV (⟨T⟩, (o4 : Int), (o5 : Int), (o6 : Int)), u6, .bool true]) (by simp [results, Try.f32, go_sem, e0, e1, e2, e3, entV]) rfl ⟨by rw [Hdf6.out]; exact ⟨_, rfl, hbf, ⟨hTl, ⟨by simp only; omega, ho4⟩, ⟨by simp only; omega, ho5⟩, ⟨by simp only; omega, by simp only; omega⟩⟩⟩, hx9⟩
    · have hdf := Hdf.out
      rw [ht] at hdf
      simp only at hdf
      have Hdf2 := Lib.hid hdf
      have hE' : ((vtE r1 65 : Int) != 0) = true := by rw [bne_iff_ne]; omega
      generalize vtE r1 65 = E at hE'
      have HR2 := Lib.hid hR2
      obtain ⟨c0, c1, c2, c3, f0, f1, f2, f3⟩ := hR2.cell
      obtain ⟨d0, d1, d2, d3, g0, g1, g2, g3⟩ := hX2.cell
      clear hdf hE
      go_wp2
      have hf := HR2.out.set4 (t := ⟨[]⟩) (x := 0) (y := 0) (z := 0)
      obtain ⟨e0, e1, e2, e3, _⟩ := hf.cell
      dsimp only at e0 e1 e2 e3
      refine bodyPost_ret (v := .tuple #[entV (⟨[]⟩, 0, 0, 0), .slice none 0 0, .bool false]) (by simp [results, Try.f32, go_sem, e0, e1, e2, e3, entV]) rfl ⟨by rw [Hdf2.out]; exact ⟨_, rfl, ⟨by simp, by decide, by decide, by decide⟩⟩, ?_⟩
      exact ((Ext.kept HX2.out (fun _ => False)).cut (kept4 _ _ _ _ _ _) (Nat.le_refl _)).ext fun _ _ h => h

end Go.Proofs.Ytmgbhmmmegknjaa
