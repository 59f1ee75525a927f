/-
  Contract of event.Get.
  Conditions: at most 100,000 bytes.
-/
import Derived.Test.YtbnjhpknagkiaaaEe
namespace Go.Proofs.Ytbnjhpknagkiaaa
open Go.RowKit Go.Op

/-- an event's own block -/
def VBox (W : World) (B : Nat) (a : Int) (v : Value) : Prop := W.heap[B]? = some (.cells #[.int .i64 a, v] 40 (0, 0))
theorem VBox.cell {W : World} {B : Nat} {a : Int} {v : Value} (h : VBox W B a v) : W.cell? ⟨B, 0, none⟩ = some (.int .i64 a) ∧ W.cell? ⟨B, 1, none⟩ = some v ∧ W.frozen? ⟨B, 0, none⟩ = false ∧ W.frozen? ⟨B, 1, none⟩ = false := by
  simp [World.cell?, World.frozen?, show W.heap[B]? = _ from h]
theorem VBox.lt {W : World} {B : Nat} {a : Int} {v : Value} (h : VBox W B a v) : B < W.heap.size := (Array.getElem?_eq_some_iff.1 h).1
theorem VBox.ext {W W' : World} {B : Nat} {a : Int} {v : Value} (h : VBox W B a v) (hx : Ext W W') : VBox W' B a v := (hx.block B h.lt).trans h
theorem VBox.set0 {W : World} {B : Nat} {a : Int} {v : Value} (a' : Int) (h : VBox W B a v) : VBox (W.setCell ⟨B, 0, none⟩ (.int .i64 a')) B a' v := by
  obtain ⟨hlt, hk⟩ := Array.getElem?_eq_some_iff.1 h
  show (W.heap.modify B _)[B]? = _
  rw [Array.getElem?_eq_getElem (by rw [Array.size_modify]; exact hlt), Array.getElem_modify_self, hk]
  rfl
theorem VBox.set1 {W : World} {B : Nat} {a : Int} {v : Value} (v' : Value) (h : VBox W B a v) : VBox (W.setCell ⟨B, 1, none⟩ v') B a v' := by
  obtain ⟨hlt, hk⟩ := Array.getElem?_eq_some_iff.1 h
  show (W.heap.modify B _)[B]? = _
  rw [Array.getElem?_eq_getElem (by rw [Array.size_modify]; exact hlt), Array.getElem_modify_self, hk]
  rfl
theorem VBox.set2 {W : World} {B : Nat} {a a' : Int} {v v' : Value} (h : VBox W B a v) : VBox ((W.setCell ⟨B, 0, none⟩ (.int .i64 a')).setCell ⟨B, 1, none⟩ v') B a' v' := (h.set0 a').set1 v'
theorem kept2 (W : World) (B : Nat) (u v : Value) : Kept (fun k => k = B) W ((W.setCell ⟨B, 0, none⟩ u).setCell ⟨B, 1, none⟩ v) :=
  (Kept.setCell (fun k => k = B) W ⟨B, 0, none⟩ u rfl).trans (Kept.setCell (fun k => k = B) _ ⟨B, 1, none⟩ v rfl)
/-- a field's own block -/
def FBox (W : World) (B : Nat) (a b : List UInt8) : Prop := W.heap[B]? = some (.cells #[.string ⟨a.toArray⟩, .string ⟨b.toArray⟩] 59 (0, 0))
theorem FBox.cell {W : World} {B : Nat} {a b : List UInt8} (h : FBox W B a b) : W.cell? ⟨B, 0, none⟩ = some (.string ⟨a.toArray⟩) ∧ W.cell? ⟨B, 1, none⟩ = some (.string ⟨b.toArray⟩) ∧ W.frozen? ⟨B, 0, none⟩ = false ∧ W.frozen? ⟨B, 1, none⟩ = false := by
  simp [World.cell?, World.frozen?, show W.heap[B]? = _ from h]
theorem FBox.lt {W : World} {B : Nat} {a b : List UInt8} (h : FBox W B a b) : B < W.heap.size := (Array.getElem?_eq_some_iff.1 h).1
theorem FBox.ext {W W' : World} {B : Nat} {a b : List UInt8} (h : FBox W B a b) (hx : Ext W W') : FBox W' B a b := (hx.block B h.lt).trans h
theorem FBox.set0 {W : World} {B : Nat} {a b : List UInt8} (a' : List UInt8) (h : FBox W B a b) : FBox (W.setCell ⟨B, 0, none⟩ (.string ⟨a'.toArray⟩)) B a' b := by
  obtain ⟨hlt, hk⟩ := Array.getElem?_eq_some_iff.1 h
  show (W.heap.modify B _)[B]? = _
  rw [Array.getElem?_eq_getElem (by rw [Array.size_modify]; exact hlt), Array.getElem_modify_self, hk]
  rfl
theorem FBox.set1 {W : World} {B : Nat} {a b : List UInt8} (b' : List UInt8) (h : FBox W B a b) : FBox (W.setCell ⟨B, 1, none⟩ (.string ⟨b'.toArray⟩)) B a b' := by
  obtain ⟨hlt, hk⟩ := Array.getElem?_eq_some_iff.1 h
  show (W.heap.modify B _)[B]? = _
  rw [Array.getElem?_eq_getElem (by rw [Array.size_modify]; exact hlt), Array.getElem_modify_self, hk]
  rfl
theorem BS.kept {T : Nat → Prop} {W W' : World} {n0 : Nat} {v : Value} {bs : List UInt8} (h : BS W n0 v bs) (hn : n0 ≤ W.heap.size) (hk : Kept T W W') (hT : ∀ k, k < n0 → ¬T k) : BS W' n0 v bs := by
  obtain ⟨A, c, hv, h1, h2, h3, h4⟩ := h
  refine ⟨A, c, hv, h1, h2, h3, h4.keep fun p hp => ?_⟩
  exact World.cell?_of_block (hk.block _ (by omega) (hT _ hp))
/-- what is made new from w0 on keeps what was -/
theorem Ext.put {w0 w w' : World} {B : Nat} (h : Ext w0 w) (hk : Kept (fun k => k = B) w w') (hB : w0.heap.size ≤ B) : Ext w0 w' := Below.trans h (hk.below h.size fun j hj => by omega)
theorem OwnL.kpt {α : Type} [Rep α] {w w' : World} {base : Nat} {e : TypeId} {S T : Nat → Prop} {v : Value} {l : List α} (h : OwnL w base e S v l) (hk : Kept T w w') (hT : ∀ k, T k → k < base ∨ w.heap.size ≤ k) (hS : ∀ k, S k → base ≤ k) : OwnL w' base e S v l := by
  obtain ⟨xs, h1, h2⟩ := h
  refine ⟨xs, ⟨h1.1, ?_⟩, (h2.keep (Sm.of_kept hk fun k hk' => ⟨hk'.2.1, fun ht => ?_⟩)).more fun k hk' => ⟨hk'.1, Nat.lt_of_lt_of_le hk'.2.1 hk.size, hk'.2.2⟩⟩
  · rcases h1.2 with hn | ⟨g, cap, cur, rfl, hb, hgg, rest⟩
    · exact .inl hn
    · refine .inr ⟨g, cap, cur, rfl, hb, ?_, rest⟩
      have hlt := (Array.getElem?_eq_some_iff.1 hgg).1
      rw [hk.block g hlt fun ht => by rcases hT g ht with h | h <;> omega]
      exact hgg
  · have := hS k hk'.1
    rcases hT k ht with h | h
    · omega
    · have := hk'.2.1
      omega
theorem info_fld : (Try.prog.info? 59).map (fun i => (i.zero, i.size, i.bytes)) = some (some (.agg #[.string ⟨#[]⟩, .string ⟨#[]⟩]), 2, 32) := by kernel_rfl
theorem reps_flds {w w' : World} {S S' : Nat → Prop} : ∀ {l : List Fld} {xs : List Value}, Reps w S xs l → Reps w' S' xs l
  | [], _, h => h
  | _ :: _, _, h => by
    obtain ⟨cs, rest, e, h1, h2⟩ := h
    exact ⟨cs, rest, e, h1, reps_flds h2⟩
theorem txt_vt (m : Nat) (bs : List UInt8) : txt m bs = if vtE bs m = 0 then some (vtS bs m, vtRest bs m) else none := by
  unfold txt num vtS vtRest vtE
  by_cases h1 : vgE bs = 0
  · by_cases h2 : vgN bs ≤ m
    · by_cases h3 : vgN bs ≤ (vgRest bs).length
      · simp [h1, h2, h3, Nat.not_lt.2 h3]
      · simp [h1, h2, h3, Nat.not_le.1 h3, Nat.not_lt.2 h2]
    · simp [h1, h2, Nat.not_le.1 h2]
  · simp [h1]
theorem txt_is (m : Nat) (bs : List UInt8) : (vtE bs m = 0 ∧ txt m bs = some (vtS bs m, vtRest bs m)) ∨ (vtE bs m ≠ 0 ∧ txt m bs = none) := by
  have := txt_vt m bs
  by_cases h : vtE bs m = 0
  · rw [if_pos h] at this; exact .inl ⟨h, this⟩
  · rw [if_neg h] at this; exact .inr ⟨h, this⟩
/-- fields behind others -/
def fldsR (m : Nat) (fs : List Fld) (bs : List UInt8) : Option (List Fld × List UInt8) := (fldsG m bs).map fun x => (fs ++ x.1, x.2)
theorem fldsR_zero (fs : List Fld) (bs : List UInt8) : fldsR 0 fs bs = some (fs, bs) := by simp [fldsR, fldsG]
theorem fldsR_succ (m : Nat) (fs : List Fld) (bs : List UInt8) : fldsR (m + 1) fs bs = match txt 32 bs with
    | none => none
    | some (s, r) => match txt 4096 r with
      | none => none
      | some (t, q) => fldsR m (fs ++ [(⟨s⟩, ⟨t⟩)]) q := by
  simp only [fldsR, fldsG, fldG]
  cases h1 : txt 32 bs with
  | none => rfl
  | some x =>
    obtain ⟨s, r⟩ := x
    simp only
    cases h2 : txt 4096 r with
    | none => rfl
    | some y =>
      obtain ⟨t, q⟩ := y
      simp only
      cases h3 : fldsG m q with
      | none => rfl
      | some z => simp
def EvIs (n0 n1 : Nat) (W' : World) (e : Ending) : Option (Ev × List UInt8) → Prop
  | none => e = .returned (.tuple #[.agg #[.int .i64 0, .slice none 0 0], .slice none 0 0, .int .i64 100])
  | some (x, r) => ∃ u vf, e = .returned (.tuple #[.agg #[.int .i64 x.1, vf], u, .int .i64 0]) ∧ BS W' n0 u r ∧ SL W' (fun k => n1 ≤ k ∧ k < W'.heap.size) vf x.2
theorem evG_err {bs : List UInt8} (h : vgE bs ≠ 0) : evG bs = none := if_neg h
theorem evG_ok {bs : List UInt8} (h : vgE bs = 0) : evG bs = match num 16 (vgRest bs) with
    | none => none
    | some (n, r) => match fldsR n [] r with
      | none => none
      | some (l, q) => if evE (zag (vgN bs), l) = 0 then some ((zag (vgN bs), l), q) else none := by
  unfold evG
  rw [if_pos h]
  cases num 16 (vgRest bs) with
  | none => rfl
  | some x =>
    obtain ⟨n, r⟩ := x
    simp only [fldsR]
    cases fldsG n r with
    | none => rfl
    | some y => simp
theorem num_is (b : Nat) (bs : List UInt8) : (vgE bs = 0 ∧ vgN bs ≤ b ∧ num b bs = some (vgN bs, vgRest bs)) ∨ (vgE bs = 0 ∧ b < vgN bs ∧ num b bs = none) ∨ (vgE bs ≠ 0 ∧ num b bs = none) := by
  by_cases h1 : vgE bs = 0
  · by_cases h2 : vgN bs ≤ b
    · exact .inl ⟨h1, h2, if_pos ⟨h1, h2⟩⟩
    · exact .inr (.inl ⟨h1, by omega, if_neg fun h => h2 h.2⟩)
  · exact .inr (.inr ⟨h1, if_neg fun h => h1 h.1⟩)

set_option maxHeartbeats 8000000 in
set_option maxRecDepth 100000 in
theorem eget_any (n0 : Nat) (W : World) (v : Value) (bs : List UInt8) (hv : BS W n0 v bs) (hn : n0 ≤ W.heap.size) (hL : bs.length ≤ 100000) :
    Calls Try.prog 19 #[v] W fun e W' => EvIs n0 W.heap.size W' e (evG bs) ∧ Ext W W' := by
  have Hv := Lib.hid hv
  have hx0 : Ext W (W.alloc (.cells #[.int .i64 0, .slice none 0 0] 40)) := Ext.of_alloc _ _
  have HR0 : Hid (VBox (W.alloc (.cells #[.int .i64 0, .slice none 0 0] 40)) W.heap.size 0 (.slice none 0 0)) := Lib.hid (heap_alloc_new W _)
  have Hx0 := Lib.hid hx0
  clear hv hx0
  go_enter Try.func19, Try.ntmps19
  go_wp2_with fail
  refine (getint_any _ n0 v bs (Hv.out.ext hn Hx0.out) (Nat.le_trans hn Hx0.out.size) (by omega)).mono ?_
  rintro e w1 ⟨r1, rfl, hr1, hx1⟩
  have HX1 := Lib.hid (Ext.trans Hx0.out hx1)
  have HR1 := Lib.hid (HR0.out.ext hx1)
  have Hr1 := Lib.hid hr1
  clear hx1 hr1
  by_cases hE : vgE bs = 0
  · have hdf := evG_ok hE
    have hvi := viN_ok hE
    have hrl := vgRest_len bs
    have hi64 := zag_64 (vgN_64 bs)
    rw [hvi, hE]
    generalize zag (vgN bs) = at_ at hdf hi64
    generalize vgRest bs = q1 at hdf Hr1 hrl
    have Hdf := Lib.hid hdf
    have hlo := hi64.lo
    have hhi := hi64.hi
    have Hi64 := Lib.hid hi64
    clear hdf hvi hE hi64
    go_wp2_with fail
    refine (get_any w1 n0 r1 q1 Hr1.out (Nat.le_trans hn HX1.out.size) (by omega)).mono ?_
    rintro e w2 ⟨r2, rfl, hr2, hx2⟩
    have HX2 := Lib.hid (Ext.trans HX1.out hx2)
    have HR2 := Lib.hid (HR1.out.ext hx2)
    have hrl2 := vgRest_len q1
    clear hx2
    obtain ⟨hE2, hle, hnum⟩ | ⟨hE2, hlt, hnum⟩ | ⟨hE2, hnum⟩ := num_is 16 q1
    · have hdf := Hdf.out
      rw [hnum] at hdf
      simp only at hdf
      rw [hE2]
      generalize vgN q1 = n at hle hdf
      generalize vgRest q1 = q2 at hr2 hdf hrl2
      have Hr2 := Lib.hid hr2
      have Hdf2 := Lib.hid hdf
      have hni : ¬(16 : Int) < (n : Int) := by omega
      have hni2 : (n : Int) ≤ 16 := by omega
      obtain ⟨c0, c1, f0, f1⟩ := HR2.out.cell
      clear hdf hnum hE2 hr2
      go_wp2_with fail
      have hRa := HR2.out.set0 at_
      have hXa := Ext.put HX2.out (Kept.setCell (fun k => k = W.heap.size) w2 ⟨W.heap.size, 0, none⟩ (.int .i64 at_) rfl) (Nat.le_refl _)
      have hra := Hr2.out.kept (Nat.le_trans hn HX2.out.size) (Kept.setCell (fun k => k = W.heap.size) w2 ⟨W.heap.size, 0, none⟩ (.int .i64 at_) rfl) (fun j hj h => by omega)
      generalize w2.setCell ⟨W.heap.size, 0, none⟩ (.int .i64 at_) = w3 at hRa hXa hra
      have HR3 := Lib.hid hRa
      have HX3 := Lib.hid hXa
      have Hr3 := Lib.hid hra
      clear hRa hXa hra HR2 HX2 Hr2 c0 c1 f0 f1
      have hsum : q2.length ≤ 100000 := by omega
      go_loopw [3, 4, 33] (fun vr ve i wr => ∃ (k : Nat) (fs : List Fld) (r : List UInt8) (vf : Value), i = .int .u64 k ∧ k ≤ n ∧ ve = .int .i64 0 ∧ BS wr n0 vr r ∧ r.length ≤ 100000 ∧ VBox wr W.heap.size at_ vf ∧ OwnL wr (W.heap.size + 1) 59 (fun _ => False) vf fs ∧ fs.length = k ∧ fldsR n [] q2 = fldsR (n - k) fs r ∧ Ext W wr) (fun _ _ i _ => n - (intOf i).toNat)
      case atStart => exact ⟨0, [], q2, _, rfl, Nat.zero_le _, rfl, Hr3.out, hsum, HR3.out, OwnL.nil_ _ _ _ _, rfl, rfl, HX3.out⟩
      case round =>
        obtain ⟨k, fs, r, vf, rfl, hk, rfl, hr, hrle, hR, hol, hfl, hfr, hx⟩ := hrel
        have Hr := Lib.hid hr
        have HR := Lib.hid hR
        have Hol := Lib.hid hol
        have Hfl := Lib.hid hfl
        have Hx := Lib.hid hx
        obtain ⟨Al, cl, rfl, hcl, hml⟩ := hol.form
        have hszr := hx.size
        have hRlt := hR.lt
        by_cases hlt : k < n
        · have hklt : (k : Int) < n := by omega
          have hsucc := fldsR_succ (n - k - 1) fs r
          rw [show n - k - 1 + 1 = n - k from by omega, ← hfr] at hsucc
          have Hfr := Lib.hid hsucc
          clear hr hR hol hfl hx hfr hsucc
          have hF0 : FBox (wr.alloc (.cells #[.string ⟨#[]⟩, .string ⟨#[]⟩] 59)) wr.heap.size [] [] := heap_alloc_new wr _
          have HF0 := Lib.hid hF0
          have HXa : Hid (Ext wr (wr.alloc (.cells #[.string ⟨#[]⟩, .string ⟨#[]⟩] 59))) := Lib.hid (Ext.of_alloc _ _)
          clear hF0
          go_wp2_with fail
          refine (gettext_any _ n0 _ r 32 (Hr.out.ext (Nat.le_trans hn hszr) HXa.out) (by have := HXa.out.size; omega) (by omega) ⟨by omega, by omega⟩).mono ?_
          rintro e w5 ⟨u5, rfl, hu5, hx5⟩
          have hF5 := HF0.out.ext hx5
          obtain ⟨g0, g1, p0, p1⟩ := hF5.cell
          have Hu5 := Lib.hid hu5
          have HF5 := Lib.hid hF5
          have HX5 := Lib.hid (Ext.trans HXa.out hx5)
          clear hx5 hu5 hF5
          obtain ⟨hE5, ht5⟩ | ⟨hE5, ht5⟩ := txt_is 32 r
          · have hfr := Hfr.out
            rw [show (32 : Nat) = 32 from rfl] at hfr
            rw [ht5] at hfr
            simp only at hfr
            have hl5 := txt_len ht5
            rw [show ((32 : Nat) : Int) = 32 from rfl] at hE5 hfr hl5
            rw [hE5]
            generalize vtS r 32 = S5 at hfr hl5
            generalize vtRest r 32 = r5 at hfr hl5 Hu5
            have Hfr5 := Lib.hid hfr
            have hF6 := HF5.out.set0 S5
            have hx6 := Ext.put HX5.out (Kept.setCell (fun k => k = wr.heap.size) w5 ⟨wr.heap.size, 0, none⟩ (.string ⟨S5.toArray⟩) rfl) (Nat.le_refl _)
            have hu6 := Hu5.out.kept (Nat.le_trans hn (Nat.le_trans hszr HX5.out.size)) (Kept.setCell (fun k => k = wr.heap.size) w5 ⟨wr.heap.size, 0, none⟩ (.string ⟨S5.toArray⟩) rfl) (fun j hj h => by omega)
            have Hall := Lib.hid (And.intro hF6 (And.intro hx6 hu6))
            clear hfr ht5 hE5 hF6 hx6 hu6
            go_wp2_with fail
            obtain ⟨hF6, hx6, hu6⟩ := Hall.out
            generalize w5.setCell ⟨wr.heap.size, 0, none⟩ (.string ⟨S5.toArray⟩) = w6 at hF6 hx6 hu6
            have HF6 := Lib.hid hF6
            have HX6 := Lib.hid hx6
            have Hu6 := Lib.hid hu6
            clear hF6 hx6 hu6 Hall g0 g1 p0 p1
            refine (gettext_any w6 n0 _ r5 4096 Hu6.out (by have := HX6.out.size; omega) (by omega) ⟨by omega, by omega⟩).mono ?_
            rintro e w7 ⟨u7, rfl, hu7, hx7⟩
            have hF7 := HF6.out.ext hx7
            obtain ⟨g0, g1, p0, p1⟩ := hF7.cell
            have Hu7 := Lib.hid hu7
            have HF7 := Lib.hid hF7
            have HX7 := Lib.hid (Ext.trans HX6.out hx7)
            clear hx7 hu7 hF7
            obtain ⟨hE7, ht7⟩ | ⟨hE7, ht7⟩ := txt_is 4096 r5
            · have hfr := Hfr5.out
              rw [ht7] at hfr
              simp only at hfr
              have hl7 := txt_len ht7
              rw [show ((4096 : Nat) : Int) = 4096 from rfl] at hE7 hfr hl7
              rw [hE7]
              generalize vtS r5 4096 = S7 at hfr hl7
              generalize vtRest r5 4096 = r7 at hfr hl7 Hu7
              have Hfr7 := Lib.hid hfr
              have hF8 := HF7.out.set1 S7
              have hx8 := Ext.put HX7.out (Kept.setCell (fun k => k = wr.heap.size) w7 ⟨wr.heap.size, 1, none⟩ (.string ⟨S7.toArray⟩) rfl) (Nat.le_refl _)
              have hu8 := Hu7.out.kept (Nat.le_trans hn (Nat.le_trans hszr HX7.out.size)) (Kept.setCell (fun k => k = wr.heap.size) w7 ⟨wr.heap.size, 1, none⟩ (.string ⟨S7.toArray⟩) rfl) (fun j hj h => by omega)
              have hR7 := HR.out.ext HX7.out
              obtain ⟨b0, b1, k0, k1⟩ := hR7.cell
              have hol8 := Hol.out.ext (Ext.trans hx8 (Ext.of_alloc (w7.setCell ⟨wr.heap.size, 1, none⟩ (.string ⟨S7.toArray⟩)) (.cells #[.string ⟨S5.toArray⟩, .string ⟨S7.toArray⟩] 59)))
              have hsv := SV.one_ (w7.setCell ⟨wr.heap.size, 1, none⟩ (.string ⟨S7.toArray⟩)) #[.string ⟨S5.toArray⟩, .string ⟨S7.toArray⟩] 59 2 rfl
              have hR8 := HR.out.ext hx8
              have hs8 := hx8.size
              have hsz8 : (w7.setCell ⟨wr.heap.size, 1, none⟩ (.string ⟨S7.toArray⟩)).heap.size = w7.heap.size := by simp
              rw [hsz8] at hsv hs8
              have hrep : ∀ W' : World, Reps (α := Fld) W' (fun j => False ∧ j < W'.heap.size ∧ some j ≠ (Value.slice Al fs.length cl).ownBlock) [.string ⟨S5.toArray⟩, .string ⟨S7.toArray⟩] [(⟨S5⟩, ⟨S7⟩)] := fun W' => Reps.single ⟨[.string ⟨S5.toArray⟩], [.string ⟨S7.toArray⟩], rfl, ⟨rfl, by simp only [maxLen]; omega⟩, ⟨rfl, by simp only [maxLen]; omega⟩⟩
              have Hrep := Lib.hid hrep
              have Hsv := Lib.hid hsv
              have Hol8 := Lib.hid hol8
              have HR8 := Lib.hid hR8
              have HX8 := Lib.hid hx8
              have Hu8 := Lib.hid hu8
              have HF8 := Lib.hid hF8
              have hsz8' := Lib.hid hsz8
              have hfl17 : fs.length + 1 ≤ 1000000000 := by have := Hfl.out; omega
              clear hrep hsv hol8 hR7 hR8 hx8 hu8 hF8 hfr ht7 hE7 hsz8
              go_wp2_with (at_builtin; go_loud (refine wpList_append_l _ rfl (.tmp 56) (.tmp 58) 38 rfl (W.heap.size + 1) 59 (fun _ => False) (.agg #[.string ⟨#[]⟩, .string ⟨#[]⟩]) 32 Try.underlying38 info_fld rfl (by decide) (.slice Al fs.length cl) fs rfl Hol8.out (w7.heap.size + 1) (.slice (some ⟨w7.heap.size, 0, none⟩) 1 1) [(⟨S5⟩, ⟨S7⟩)] [.string ⟨S5.toArray⟩, .string ⟨S7.toArray⟩] rfl Hsv.out (Hrep.out _) hfl17 (by omega) (by simp; omega) ?_; intro v10 w10 hown10 hg10 hat10; generalize hps : fs ++ [((⟨S5⟩, ⟨S7⟩) : Fld)] = PS at hown10; have Hps := Lib.hid hps; obtain ⟨A10, c10, rfl, _, _⟩ := hown10.form; have hlt8 : W.heap.size < (World.alloc (w7.setCell ⟨wr.heap.size, 1, none⟩ (.string ⟨S7.toArray⟩)) (.cells #[.string ⟨S5.toArray⟩, .string ⟨S7.toArray⟩] 59)).heap.size := (by simp; omega); have hR10 : VBox w10 W.heap.size at_ (.slice Al fs.length cl) := (hg10.block W.heap.size hlt8 (fun e => by have := Hol.out.ge _ e.symm; omega)).trans (HR8.out.ext (Ext.of_alloc _ _)); have hk10 : Kept (fun j => W.heap.size ≤ j) (w7.setCell ⟨wr.heap.size, 1, none⟩ (.string ⟨S7.toArray⟩)) w10 := (Ext.kept (Ext.of_alloc _ _) _).trans (grown_kept hg10 fun r hr _ => by have := Hol.out.ge r hr; omega); obtain ⟨z0, z1, y0, y1⟩ := hR10.cell; have Hown10 := Lib.hid hown10; have HR10 := Lib.hid hR10; have Hk10 := Lib.hid hk10; clear hown10 hg10 hat10 hR10 hk10 hps))
              go_roundw
              case rel =>
                have hk11 := Kept.setCell (fun j => j = W.heap.size) w10 ⟨W.heap.size, 1, none⟩ (.slice A10 PS.length c10) rfl
                have hs10 := Hk10.out.size
                have e8 := hsz8'.out
                have hx10 : Ext W w10 := Below.trans (Ext.trans Hx.out HX8.out) (Hk10.out.below (by omega) fun j hj => hj)
                refine ⟨k + 1, PS, r7, _, rfl, by omega, rfl, ?_, by omega, HR10.out.set1 _, Hown10.out.kpt hk11 (fun j hj => .inl (by omega)) (fun j hj => hj.elim), by rw [← Hps.out, List.length_append, Hfl.out]; rfl, ?_, Ext.put hx10 hk11 (Nat.le_refl _)⟩
                · exact (Hu8.out.kept (by omega) Hk10.out (fun j hj h => by omega)).kept (by omega) hk11 (fun j hj h => by omega)
                · rw [Hfr7.out, show n - k - 1 = n - (k + 1) from by omega, Hps.out]
              case measure => simp only [intOf]; omega
            · have hdf := Hdf2.out
              have hfr := Hfr5.out
              rw [ht7] at hfr
              simp only at hfr
              rw [hfr] at hdf
              have Hdf7 := Lib.hid hdf
              rw [show ((4096 : Nat) : Int) = 4096 from rfl] at hE7
              have hE' : ((vtE r5 4096 : Int) != 0) = true := by rw [bne_iff_ne]; omega
              generalize vtE r5 4096 = E at hE'
              clear hdf hfr ht7 hE7
              have hx8 := Ext.put HX7.out (Kept.setCell (fun k => k = wr.heap.size) w7 ⟨wr.heap.size, 1, none⟩ (.string ⟨(vtS r5 4096).toArray⟩) rfl) (Nat.le_refl _)
              have HX8 := Lib.hid hx8
              clear hx8
              obtain ⟨c0, c1, f0, f1⟩ := (HR.out.ext HX7.out).cell
              go_wp2
              have hf := (HR.out.ext HX8.out).set2 (a' := 0) (v' := .slice none 0 0)
              obtain ⟨e0, e1, _⟩ := hf.cell
              refine bodyPost_ret (v := .tuple #[.agg #[.int .i64 0, .slice none 0 0], .slice none 0 0, .int .i64 100]) (by simp [results, Try.f19, go_sem, e0, e1]) rfl ⟨by rw [Hdf7.out]; rfl, ?_⟩
              exact Ext.put (Ext.trans Hx.out HX8.out) (kept2 _ _ _ _) (Nat.le_refl _)
          · have hdf := Hdf2.out
            have hfr := Hfr.out
            rw [ht5] at hfr
            simp only at hfr
            rw [hfr] at hdf
            have Hdf5 := Lib.hid hdf
            rw [show ((32 : Nat) : Int) = 32 from rfl] at hE5
            have hE' : ((vtE r 32 : Int) != 0) = true := by rw [bne_iff_ne]; omega
            generalize vtE r 32 = E at hE'
            clear hdf hfr ht5 hE5
            have hx6 := Ext.put HX5.out (Kept.setCell (fun k => k = wr.heap.size) w5 ⟨wr.heap.size, 0, none⟩ (.string ⟨(vtS r 32).toArray⟩) rfl) (Nat.le_refl _)
            have HX6 := Lib.hid hx6
            clear hx6
            obtain ⟨c0, c1, f0, f1⟩ := (HR.out.ext HX5.out).cell
            go_wp2
            have hf := (HR.out.ext HX6.out).set2 (a' := 0) (v' := .slice none 0 0)
            obtain ⟨e0, e1, _⟩ := hf.cell
            refine bodyPost_ret (v := .tuple #[.agg #[.int .i64 0, .slice none 0 0], .slice none 0 0, .int .i64 100]) (by simp [results, Try.f19, go_sem, e0, e1]) rfl ⟨by rw [Hdf5.out]; rfl, ?_⟩
            exact Ext.put (Ext.trans Hx.out HX6.out) (kept2 _ _ _ _) (Nat.le_refl _)
        · have hklt : ¬(k : Int) < n := by omega
          obtain rfl : k = n := by omega
          rw [Nat.sub_self, fldsR_zero] at hfr
          have hdf := Hdf2.out
          rw [hfr] at hdf
          simp only at hdf
          have Hdf3 := Lib.hid hdf
          have Hsl := Lib.hid hol.sl
          have Hso := Lib.hid (hol.sl_own fun _ _ _ _ h => reps_flds h)
          obtain ⟨c0, c1, f0, f1⟩ := hR.cell
          clear hr hR hol hfl hx hfr hdf
          go_wp2_with fail
          refine (check_any wr at_ _ fs Hsl.out).mono ?_
          rintro e w5 ⟨rfl, hx5⟩
          have HX5 := Lib.hid (Ext.trans Hx.out hx5)
          have HR5 := Lib.hid (HR.out.ext hx5)
          have Hr5 := Lib.hid (Hr.out.ext (by omega) hx5)
          have Hso5 := Lib.hid ((Hso.out.keep (Sm.of_ext hx5 fun j hj => hj.2)).more fun j hj => (show W.heap.size + 1 ≤ j ∧ j < w5.heap.size from ⟨hj.1, Nat.lt_of_lt_of_le hj.2 hx5.size⟩))
          have hs5 := hx5.size
          clear hx5 c0 c1 f0 f1
          by_cases hev : evE (at_, fs) = 0
          · have hdf := Hdf3.out
            rw [if_pos hev] at hdf
            have Hdf4 := Lib.hid hdf
            rw [hev]
            obtain ⟨c0, c1, f0, f1⟩ := HR5.out.cell
            clear hdf hev
            go_wp2
            have hf := HR5.out.set2 (a' := at_) (v' := .slice Al fs.length cl)
            obtain ⟨e0, e1, _⟩ := hf.cell
            have hk := kept2 w5 W.heap.size (.int .i64 at_) (.slice Al fs.length cl)
            refine bodyPost_ret (v := .tuple #[.agg #[.int .i64 at_, .slice Al fs.length cl], _, .int .i64 0]) (by simp [results, Try.f19, go_sem, e0, e1]; rfl) rfl ⟨by rw [Hdf4.out]; exact ⟨_, _, rfl, Hr5.out.kept (by omega) hk (fun j hj h => by omega), (Hso5.out.keep (Sm.of_kept hk fun j hj => ⟨hj.2, fun e => by have := hj.1; omega⟩)).more fun j hj => ⟨by omega, Nat.lt_of_lt_of_le hj.2 hk.size⟩⟩, Ext.put HX5.out hk (Nat.le_refl _)⟩
          · have hdf := Hdf3.out
            rw [if_neg hev] at hdf
            have Hdf4 := Lib.hid hdf
            have hE' : ((evE (at_, fs) : Int) != 0) = true := by rw [bne_iff_ne]; omega
            generalize evE (at_, fs) = E at hE'
            clear hdf hev
            obtain ⟨c0, c1, f0, f1⟩ := HR5.out.cell
            go_wp2
            have hf := (HR5.out).set2 (a' := 0) (v' := .slice none 0 0)
            obtain ⟨e0, e1, _⟩ := hf.cell
            refine bodyPost_ret (v := .tuple #[.agg #[.int .i64 0, .slice none 0 0], .slice none 0 0, .int .i64 100]) (by simp [results, Try.f19, go_sem, e0, e1]) rfl ⟨by rw [Hdf4.out]; rfl, ?_⟩
            exact Ext.put HX5.out (kept2 _ _ _ _) (Nat.le_refl _)
    · have hdf := Hdf.out
      rw [hnum] at hdf
      have Hdf2 := Lib.hid hdf
      have hni : (16 : Int) < (vgN q1 : Int) := by omega
      rw [hE2]
      generalize vgN q1 = n at hni
      clear hdf hnum hE2 hr2 hlt
      obtain ⟨c0, c1, f0, f1⟩ := HR2.out.cell
      go_wp2
      have hf := HR2.out.set2 (a' := 0) (v' := .slice none 0 0)
      obtain ⟨e0, e1, _⟩ := hf.cell
      refine bodyPost_ret (v := .tuple #[.agg #[.int .i64 0, .slice none 0 0], .slice none 0 0, .int .i64 100]) (by simp [results, Try.f19, go_sem, e0, e1]) rfl ⟨by rw [Hdf2.out]; rfl, ?_⟩
      exact Below.trans HX2.out ((kept2 _ _ _ _).below (by have := HX2.out.size; omega) (fun j hj => by omega))
    · have hdf := Hdf.out
      rw [hnum] at hdf
      have Hdf2 := Lib.hid hdf
      have hE' : ((vgE q1 : Int) != 0) = true := by rw [bne_iff_ne]; omega
      generalize vgE q1 = E at hE'
      clear hdf hnum hE2 hr2
      obtain ⟨c0, c1, f0, f1⟩ := HR2.out.cell
      go_wp2
      have hf := HR2.out.set2 (a' := 0) (v' := .slice none 0 0)
      obtain ⟨e0, e1, _⟩ := hf.cell
      refine bodyPost_ret (v := .tuple #[.agg #[.int .i64 0, .slice none 0 0], .slice none 0 0, .int .i64 100]) (by simp [results, Try.f19, go_sem, e0, e1]) rfl ⟨by rw [Hdf2.out]; rfl, ?_⟩
      exact Below.trans HX2.out ((kept2 _ _ _ _).below (by have := HX2.out.size; omega) (fun j hj => by omega))
  · have Hdf := Lib.hid (evG_err hE)
    have hE' : ((vgE bs : Int) != 0) = true := by rw [bne_iff_ne]; omega
    generalize vgE bs = E at hE'
    clear hE
    obtain ⟨c0, c1, f0, f1⟩ := HR1.out.cell
    go_wp2
    have hf := HR1.out.set2 (a' := 0) (v' := .slice none 0 0)
    obtain ⟨e0, e1, _⟩ := hf.cell
    refine bodyPost_ret (v := .tuple #[.agg #[.int .i64 0, .slice none 0 0], .slice none 0 0, .int .i64 100]) (by simp [results, Try.f19, go_sem, e0, e1]) rfl ⟨by rw [Hdf.out]; rfl, ?_⟩
    exact Below.trans HX1.out ((kept2 _ _ _ _).below (by have := HX1.out.size; omega) (fun j hj => by omega))

end Go.Proofs.Ytbnjhpknagkiaaa
