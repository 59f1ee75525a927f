/-
  Contract of slices.insertionSortCmpFunc over terms.
  Conditions: those of each statement.
-/
import Derived.Test.YtbnjhpknagkiaaaUg
import Derived.BigQuiet
namespace Go.Proofs.Ytbnjhpknagkiaaa
open Go.RowKit Go.Op

/-- terms' places are slices -/
def TmS (l : List Tm) : Prop := ∀ t ∈ l, ∃ A n c, t.2 = .slice A n c
theorem add_row {ad : Addr} {g : Nat} (h : ad = ⟨g, 0, none⟩) (i : Nat) : ad.add i = ⟨g, i, none⟩ := by
  subst h
  unfold Addr.add
  split <;> simp_all
theorem nth1 (a : List Tm) (y x : Tm) (t : List Tm) : (a ++ y :: x :: t)[a.length]? = some y := by rw [List.getElem?_append_right (Nat.le_refl _)]; simp
theorem nth2 (a : List Tm) (y x : Tm) (t : List Tm) : (a ++ y :: x :: t)[a.length + 1]? = some x := by rw [List.getElem?_append_right (by omega)]; simp
theorem frozen_ext {w w' : World} {p : Addr} {v : Value} (h : Ext w w') (hc : w.cell? p = some v) : w'.frozen? p = w.frozen? p := by
  have := h.block _ (World.block_lt_of_cell? _ _ hc)
  simp only [World.frozen?, this]
theorem insR_mem : ∀ (x : Tm) (q : List Tm) (t : Tm), t ∈ insR x q → t = x ∨ t ∈ q
  | x, [], t, h => by simpa [insR] using h
  | x, y :: q, t, h => by
    unfold insR at h
    split at h
    · rcases List.mem_cons.1 h with h | h
      · exact .inr (by simp [h])
      · rcases insR_mem x q t h with h | h
        · exact .inl h
        · exact .inr (by simp [h])
    · rcases List.mem_cons.1 h with h | h
      · exact .inl h
      · exact .inr h

set_option maxHeartbeats 3200000 in
set_option maxRecDepth 100000 in
theorem isort_any (w : World) (g n cap : Nat) (rs : List Value) (pre mid post : List Tm) (htr : TR w g rs (pre ++ (mid ++ post))) (hs : TmS mid) (hn : n = (pre ++ (mid ++ post)).length) (hn2 : n ≤ 1000000) (_hc : n ≤ cap) (_hc2 : cap ≤ maxLen) :
    Calls Try.prog 85 #[.slice (some ⟨g, 0, none⟩) n cap, .int .i64 pre.length, .int .i64 ((pre.length + mid.length : Nat) : Int), .func (.func 50) #[] #[]] w fun e w' => e = .returned (.tuple #[]) ∧ TR w' g rs (pre ++ (isort mid ++ post)) ∧ Kept (fun k => k = g) w w' := by
  obtain ⟨ad, had⟩ : ∃ ad : Addr, ad = ⟨g, 0, none⟩ := ⟨_, rfl⟩
  rw [← had]
  have Had := Lib.hid had
  have Htr := Lib.hid htr
  have Hs := Lib.hid hs
  have Hn := Lib.hid hn
  obtain ⟨a0, ha0⟩ : ∃ a0, a0 = pre.length := ⟨_, rfl⟩
  obtain ⟨b0, hb0⟩ : ∃ b0, b0 = pre.length + mid.length := ⟨_, rfl⟩
  have hab : a0 + mid.length = b0 := by omega
  have hbn : b0 ≤ n := by rw [hn, hb0]; simp only [List.length_append]; omega
  rw [← ha0, hab]
  have Ha0 := Lib.hid ha0
  clear had htr hs hn hb0 ha0
  cases mid with
  | nil =>
    have hab' : a0 = b0 := by simpa using hab
    subst hab'
    go_enter Try.func85, Try.ntmps85
    go_wp2_with fail
    refine wp_loop_rounds 1 ?_
    rw [rounds_succ]
    go_wp2
    go_end0
    exact ⟨rfl, by simpa [isort, isR] using Htr.out, Kept.refl _ _⟩
  | cons m0 mid =>
    have hml : (m0 :: mid).length = mid.length + 1 := rfl
    go_enter Try.func85, Try.ntmps85
    go_wp2_with fail
    go_loopw [8] (fun i wr => ∃ (k : Nat) (acc rest : List Tm), i = .int .i64 k ∧ k = a0 + acc.length ∧ k + rest.length = b0 ∧ isR acc rest = isR [] (m0 :: mid) ∧ (∀ t, t ∈ acc ∨ t ∈ rest → t ∈ m0 :: mid) ∧ TR wr g rs (pre ++ (acc.reverse ++ (rest ++ post))) ∧ Kept (fun k => k = g) w wr) (fun i _ => b0 - (intOf i).toNat)
    case atStart =>
      refine ⟨a0 + 1, [m0], mid, rfl, rfl, by omega, rfl, ?_, Htr.out, Kept.refl _ _⟩
      intro t ht
      rcases ht with ht | ht
      · simp only [List.mem_singleton] at ht
        simp [ht]
      · simp [ht]
    case round =>
      obtain ⟨k, acc, rest, rfl, hka, hkb, hisr, hmem, htr, hkp⟩ := hrel
      have Hka := Lib.hid hka
      have Hisr := Lib.hid hisr
      have Hmem := Lib.hid hmem
      have Htr2 := Lib.hid htr
      have Hkp := Lib.hid hkp
      clear hisr hmem htr hkp hka
      cases rest with
      | nil =>
        have hkb' : k = b0 := by simpa using hkb
        have hkl : ¬(k : Int) < b0 := by omega
        go_wp2
        go_end0
        refine ⟨rfl, ?_, Hkp.out⟩
        have := Htr2.out
        rw [show isR acc [] = acc from rfl] at Hisr
        unfold isort
        rw [← Hisr.out]
        simpa using this
      | cons x rest =>
        have hkl : (k : Int) < b0 := by have : k < b0 := by simp only [List.length_cons] at hkb; omega
                                        omega
        have Hkb := Lib.hid hkb
        clear hkb
        go_wp2_with fail
        go_loopw [9] (fun j wq => ∃ (jn : Nat) (R Q : List Tm), j = .int .i64 jn ∧ jn = a0 + Q.length ∧ insR x acc = R ++ insR x Q ∧ acc = R ++ Q ∧ TR wq g rs (pre ++ (Q.reverse ++ (x :: (R.reverse ++ (rest ++ post))))) ∧ Kept (fun k => k = g) w wq) (fun j _ => (intOf j).toNat)
        case atStart => exact ⟨k, [], acc, rfl, Hka.out, rfl, rfl, by simpa using Htr2.out, Hkp.out⟩
        case round =>
          rename World => wq
          obtain ⟨jn, R, Q, rfl, hj, hins, hacc, htr, hkp⟩ := hrel
          have Hins := Lib.hid hins
          have Hacc := Lib.hid hacc
          have Htr3 := Lib.hid htr
          have Hkp3 := Lib.hid hkp
          clear hins hacc htr hkp
          cases Q with
          | nil =>
            have hja0 : jn = a0 := by simpa using hj
            have Hja := Lib.hid hja0
            clear hj
            go_wp2_with fail
            have hlt : ¬(a0 : Int) < jn := by omega
            clear hja0
            have Hlt := Lib.hid hlt
            go_quiet (fail)
            go_wp2
            refine ⟨⟨k + 1, insR x acc, rest, rfl, by rw [insR_len, Hka.out]; omega, by have := Hkb.out; simp only [List.length_cons] at this; omega, Hisr.out, fun t ht => ?_, ?_, Hkp3.out.trans (Ext.kept (Ext.drewN wq nq) _)⟩, by simp only [intOf]; omega⟩
            · rcases ht with ht | ht
              · rcases insR_mem _ _ _ ht with ht | ht
                · exact Hmem.out t (.inr (by simp [ht]))
                · exact Hmem.out t (.inl ht)
              · exact Hmem.out t (.inr (by simp [ht]))
            · have h1 := Htr3.out.ext (Ext.drewN wq nq)
              rw [Hins.out]
              simpa [insR] using h1
          | cons y Q =>
            obtain ⟨J, rfl⟩ : ∃ J, jn = J + 1 := ⟨a0 + Q.length, by simp only [List.length_cons] at hj; omega⟩
            have HJ := Lib.hid hj
            obtain ⟨j1, hj1⟩ : ∃ j1, j1 = J + 1 := ⟨_, rfl⟩
            rw [← hj1] at hj ⊢
            have hjm : (j1 : Int) - 1 = (J : Int) := by omega
            have hja : (a0 : Int) < j1 := by simp only [List.length_cons] at hj; omega
            have hjk : j1 ≤ k := by
              have h1 := Hka.out
              have h2 := congrArg List.length Hacc.out
              simp only [List.length_append, List.length_cons] at h2 hj
              omega
            have hjn : (j1 : Int) < n := by omega
            have hj6 : (j1 : Int) ≤ 1000000 := by omega
            have hJn : (J : Int) < n := by omega
            have hJ0 : (0 : Int) ≤ J := by omega
            have hwJ : IntKind.i64.wrap (J : Int) = (J : Int) := by rw [IntKind.wrap_i64]; omega
            have hwr : IntKind.i64.wrap ((j1 : Int) - 1) = (J : Int) := by rw [IntKind.wrap_i64]; omega
            have hxs : ∃ A m c, x.2 = .slice A m c := Hs.out x (Hmem.out x (.inr (by simp)))
            have hys : ∃ A m c, y.2 = .slice A m c := Hs.out y (Hmem.out y (.inl (by rw [Hacc.out]; simp)))
            have hJlt : J < (pre ++ ((y :: Q).reverse ++ (x :: (R.reverse ++ (rest ++ post))))).length ∧ j1 < (pre ++ ((y :: Q).reverse ++ (x :: (R.reverse ++ (rest ++ post))))).length := by
              simp only [List.length_append, List.length_reverse, List.length_cons] at hj ⊢
              have := Ha0.out
              omega
            have hel : (pre ++ ((y :: Q).reverse ++ (x :: (R.reverse ++ (rest ++ post)))))[J]'hJlt.1 = y ∧ (pre ++ ((y :: Q).reverse ++ (x :: (R.reverse ++ (rest ++ post)))))[j1]'hJlt.2 = x := by
              have hL : pre ++ ((y :: Q).reverse ++ (x :: (R.reverse ++ (rest ++ post)))) = (pre ++ Q.reverse) ++ y :: x :: (R.reverse ++ (rest ++ post)) := by simp
              have hA : J = (pre ++ Q.reverse).length := by
                rw [List.length_append, List.length_reverse]
                simp only [List.length_cons] at hj
                have := Ha0.out
                omega
              have e1 : (pre ++ ((y :: Q).reverse ++ (x :: (R.reverse ++ (rest ++ post)))))[J]? = some y := by rw [hL, hA]; exact nth1 _ _ _ _
              have e2 : (pre ++ ((y :: Q).reverse ++ (x :: (R.reverse ++ (rest ++ post)))))[j1]? = some x := by rw [hL, hj1, hA]; exact nth2 _ _ _ _
              exact ⟨Option.some.inj ((List.getElem?_eq_getElem _).symm.trans e1), Option.some.inj ((List.getElem?_eq_getElem _).symm.trans e2)⟩
            have HJlt := Lib.hid hJlt
            have cj := Htr3.out.cells hJlt.2
            have cJ := Htr3.out.cells hJlt.1
            rw [hel.1] at cJ
            rw [hel.2] at cj
            have ha1 := add_row Had.out (j1 * 2)
            have ha2 := add_row Had.out (J * 2)
            have Hhj := Lib.hid hj
            have Hhj1 := Lib.hid hj1
            obtain ⟨xs, xv⟩ := x
            obtain ⟨ys, yv⟩ := y
            obtain ⟨Ax, mx, cx, hxs⟩ := hxs
            obtain ⟨Ay, my, cy, hys⟩ := hys
            dsimp only at hxs hys cj cJ
            subst hxs hys
            obtain ⟨p0, p1, pf0, pf1⟩ := cj
            obtain ⟨q0, q1, qf0, qf1⟩ := cJ
            clear hj hj1 hel hJlt
            by_cases hlt : cmpT xs ys < 0
            · have Hlt : Hid (ltT (xs, .slice Ax mx cx) (ys, .slice Ay my cy) = true) := Lib.hid (decide_eq_true hlt)
              go_wp2_with fail
              go_region_held3 (fun W => W.cell? ⟨g, j1 * 2, none⟩ = some (.string ⟨xs.toArray⟩) ∧ W.cell? ⟨g, j1 * 2 + 1, none⟩ = some (.slice Ax mx cx) ∧ W.cell? ⟨g, J * 2, none⟩ = some (.string ⟨ys.toArray⟩) ∧ W.cell? ⟨g, J * 2 + 1, none⟩ = some (.slice Ay my cy))
                (first
                  | exact ⟨p0, p1, q0, q1⟩
                  | exact ⟨Ext.keeps (Ext.drew _) p0, Ext.keeps (Ext.drew _) p1, Ext.keeps (Ext.drew _) q0, Ext.keeps (Ext.drew _) q1⟩
                  | exact ⟨Ext.keeps x5 p0, Ext.keeps x5 p1, Ext.keeps x5 q0, Ext.keeps x5 q1⟩
                  | fail)
                (first
                  | (go_at_call 50
                     refine (terms1_any _ xs ys Ax Ay mx my cx cy).mono ?_
                     rintro e w5 ⟨rfl, hx5⟩
                     have x5 := Ext.trans (Ext.drew _) hx5)
                  | fail)
              have h5 := Htr3.out.ext x5
              have Htr5 := Lib.hid h5
              have Hx5 := Lib.hid x5
              have r0 := Ext.keeps x5 p0
              have r1 := Ext.keeps x5 p1
              have r2 := Ext.keeps x5 q0
              have r3 := Ext.keeps x5 q1
              have z0 := (frozen_ext x5 p0).trans pf0
              have z1 := (frozen_ext x5 p1).trans pf1
              have z2 := (frozen_ext x5 q0).trans qf0
              have z3 := (frozen_ext x5 q1).trans qf1
              have n1 : ¬j1 * 2 = J * 2 := by omega
              have n2 : ¬j1 * 2 = J * 2 + 1 := by omega
              have n3 : ¬j1 * 2 + 1 = J * 2 := by omega
              have n4 : ¬J * 2 = j1 * 2 := by omega
              have n5 : ¬J * 2 + 1 = j1 * 2 := by omega
              have n6 : ¬J * 2 = j1 * 2 + 1 := by omega
              clear p0 p1 q0 q1 pf0 pf1 qf0 qf1 x5 hx5 h5
              go_wp2_with fail
              go_region
              go_wp2
              have e1 := Hhj1.out
              have e2 := Hhj.out
              simp only [List.length_cons] at e2
              refine ⟨⟨J, R ++ [(ys, .slice Ay my cy)], Q, rfl, by omega, ?_, ?_, ?_, ?_⟩, by simp only [intOf]; omega⟩
              · rw [Hins.out, insR, if_pos Hlt.out, List.append_assoc]
                rfl
              · rw [Hacc.out, List.append_assoc]
                rfl
              · have h6 := (Htr5.out.put HJlt.out.2 (ys, .slice Ay my cy)).put (i := J) (by rw [List.length_set]; exact HJlt.out.1) (xs, .slice Ax mx cx)
                have hL : pre ++ (((ys, .slice Ay my cy) :: Q).reverse ++ ((xs, .slice Ax mx cx) :: (R.reverse ++ (rest ++ post)))) = (pre ++ Q.reverse) ++ (ys, .slice Ay my cy) :: (xs, .slice Ax mx cx) :: (R.reverse ++ (rest ++ post)) := by simp
                have hA : J = (pre ++ Q.reverse).length := by
                  rw [List.length_append, List.length_reverse]
                  have := Ha0.out
                  omega
                rw [hL, e1, hA, swap_at] at h6
                rw [e1, hA]
                have h7 := h6.ext (Ext.drew _)
                simpa [put2] using h7
              · exact Hkp3.out.trans ((Ext.kept Hx5.out _).trans ((kept_put2 w5 g j1 (ys, .slice Ay my cy)).trans ((kept_put2 _ g J (xs, .slice Ax mx cx)).trans (Ext.kept (Ext.drew _) _))))
            · have Hlt : Hid (ltT (xs, .slice Ax mx cx) (ys, .slice Ay my cy) = false) := Lib.hid (decide_eq_false hlt)
              go_wp2_with fail
              go_region_held3 (fun W => W.cell? ⟨g, j1 * 2, none⟩ = some (.string ⟨xs.toArray⟩) ∧ W.cell? ⟨g, j1 * 2 + 1, none⟩ = some (.slice Ax mx cx) ∧ W.cell? ⟨g, J * 2, none⟩ = some (.string ⟨ys.toArray⟩) ∧ W.cell? ⟨g, J * 2 + 1, none⟩ = some (.slice Ay my cy))
                (first
                  | exact ⟨p0, p1, q0, q1⟩
                  | exact ⟨Ext.keeps (Ext.drew _) p0, Ext.keeps (Ext.drew _) p1, Ext.keeps (Ext.drew _) q0, Ext.keeps (Ext.drew _) q1⟩
                  | exact ⟨Ext.keeps x5 p0, Ext.keeps x5 p1, Ext.keeps x5 q0, Ext.keeps x5 q1⟩
                  | fail)
                (first
                  | (go_at_call 50
                     refine (terms1_any _ xs ys Ax Ay mx my cx cy).mono ?_
                     rintro e w5 ⟨rfl, hx5⟩
                     have x5 := Ext.trans (Ext.drew _) hx5)
                  | fail)
              go_wp2
              refine ⟨⟨k + 1, insR (xs, .slice Ax mx cx) acc, rest, rfl, by rw [insR_len, Hka.out]; omega, by have := Hkb.out; simp only [List.length_cons] at this; omega, Hisr.out, fun t ht => ?_, ?_, Hkp3.out.trans (Ext.kept x5 _)⟩, by simp only [intOf]; omega⟩
              · rcases ht with ht | ht
                · rcases insR_mem _ _ _ ht with ht | ht
                  · exact Hmem.out t (.inr (by simp [ht]))
                  · exact Hmem.out t (.inl ht)
                · exact Hmem.out t (.inr (by simp [ht]))
              · have h1 := Htr3.out.ext x5
                rw [Hins.out]
                simpa [insR, Hlt.out] using h1
end Go.Proofs.Ytbnjhpknagkiaaa
