/-
  Contracts of Dict's none, Len, At, All; slices.Clone over entries.
  Conditions: those of each statement.
-/
import Derived.Test.YtmgbhmmmegknjaaDl
import Derived.Test.YtmgbhmmmegknjaaDp
namespace Go.Proofs.Ytmgbhmmmegknjaa
open Go.RowKit Go.Op

/-- a dictionary, made or nobody's -/
def DAny (W : World) (d : Value) (l : List Ent) (made : Bool) : Prop :=
  (made = true ∧ esOk l = true ∧ l.length ≤ 5000 ∧ DictAt W d l) ∨ (made = false ∧ l = [] ∧ (d = .pointer none ∨ ∃ D v, d = .pointer (some ⟨D, 0, none⟩) ∧ DBox W D v false))
theorem DAny.ext {W W' : World} {d : Value} {l : List Ent} {made : Bool} (h : DAny W d l made) (hx : Ext W W') : DAny W' d l made := by
  rcases h with ⟨h1, h2, h3, h4⟩ | ⟨h1, h2, h3 | ⟨D, v, h3, h4⟩⟩
  · exact .inl ⟨h1, h2, h3, h4.ext hx⟩
  · exact .inr ⟨h1, h2, .inl h3⟩
  · exact .inr ⟨h1, h2, .inr ⟨D, v, h3, h4.ext hx⟩⟩
theorem DAny.inc {W : World} {d : Value} {l : List Ent} {made : Bool} (h : DAny W d l made) : Inc l := by
  rcases h with ⟨_, h2, _⟩ | ⟨_, rfl, _⟩
  · exact esOk_inc h2
  · exact Inc.nil
theorem DAny.len {W : World} {d : Value} {l : List Ent} {made : Bool} (h : DAny W d l made) : l.length ≤ 5000 := by
  rcases h with ⟨_, _, h3, _⟩ | ⟨_, rfl, _⟩
  · exact h3
  · simp

set_option maxHeartbeats 400000 in
theorem none_any (w : World) (d : Value) (l : List Ent) (made : Bool) (h : DAny w d l made) :
    Calls Try.prog 33 #[d] w fun e w' => e = .returned (.bool (!made)) ∧ Ext w w' := by
  rcases h with ⟨rfl, _, _, D, v, rfl, hb, _⟩ | ⟨rfl, _, rfl | ⟨D, v, rfl, hb⟩⟩
  · have hc := hb.cell.2
    go_enter Try.func33, Try.ntmps33
    go_wp2
    go_ret
    exact ⟨rfl, Below.refl _ _⟩
  · go_enter Try.func33, Try.ntmps33
    go_wp2
    go_ret
    exact ⟨rfl, Below.refl _ _⟩
  · have hc := hb.cell.2
    go_enter Try.func33, Try.ntmps33
    go_wp2
    go_ret
    exact ⟨rfl, Below.refl _ _⟩

set_option maxHeartbeats 400000 in
theorem len_any (w : World) (d : Value) (l : List Ent) (made : Bool) (h : DAny w d l made) :
    Calls Try.prog 23 #[d] w fun e w' => e = .returned (.int .i64 l.length) ∧ Ext w w' := by
  have H := Lib.hid h
  go_enter Try.func23, Try.ntmps23
  go_wp2_with fail
  refine (none_any w d l made H.out).mono ?_
  rintro e w1 ⟨rfl, hx1⟩
  have Hx1 := Lib.hid hx1
  clear hx1
  rcases h with ⟨rfl, _, _, D, v, rfl, hb, hs⟩ | ⟨rfl, rfl, _⟩
  · have hc := (hb.ext Hx1.out).cell.1
    obtain ⟨A, c, rfl, _, _⟩ := hs.form
    clear hs hb
    go_wp2
    go_ret
    exact ⟨rfl, Hx1.out⟩
  · go_wp2
    go_ret
    exact ⟨rfl, Hx1.out⟩

/-- an entry by its place -/
def atE (l : List Ent) (i : Int) : Ent × Bool := if h : 0 ≤ i ∧ i < l.length then (l[i.toNat]'(by omega), true) else (zeroE, false)
theorem atE_no {l : List Ent} {i : Int} (h : ¬(0 ≤ i ∧ i < l.length)) : atE l i = (zeroE, false) := dif_neg h
theorem atE_yes {l : List Ent} {k : Nat} (h : k < l.length) : atE l k = (l[k], true) := by
  unfold atE
  rw [dif_pos ⟨by omega, by omega⟩]
  rfl

set_option maxHeartbeats 1600000 in
set_option maxRecDepth 100000 in
theorem at_any (w : World) (d : Value) (l : List Ent) (made : Bool) (i : Int) (h : DAny w d l made) (hi : I6 i) :
    Calls Try.prog 22 #[d, .int .i64 i] w fun e w' => e = .returned (.tuple #[entV (atE l i).1, .bool (atE l i).2]) ∧ Ext w w' := by
  have H := Lib.hid h
  have hi2 := hi.le
  have hR := EBox.new w
  have hx0 : Ext w (w.alloc (.cells #[.string ⟨#[]⟩, .int .i64 0, .int .i64 0, .int .i64 0] 42)) := Ext.of_alloc _ _
  by_cases h0 : i < 0
  · have He := Lib.hid (atE_no (l := l) (i := i) (by omega))
    have HX := Lib.hid hx0
    clear h hR hx0
    go_enter Try.func22, Try.ntmps22
    go_wp2
    refine bodyPost_ret (v := .tuple #[entV zeroE, .bool false]) (by simp [results, Try.f22, go_sem, entV, zeroE]) rfl ⟨by rw [He.out], ?_⟩
    exact HX.out
  · have h0' : ¬i < 0 := h0
    have Hx0 := Lib.hid hx0
    have HR := Lib.hid hR
    clear hx0 hR
    go_enter Try.func22, Try.ntmps22
    go_wp2_with fail
    refine (len_any _ d l made (H.out.ext Hx0.out)).mono ?_
    rintro e w1 ⟨rfl, hx1⟩
    have hR1 : EBox w1 w.heap.size (⟨[]⟩, 0, 0, 0) := (hx1.block _ (by simp)).trans HR.out
    have HX := Lib.hid (Ext.trans Hx0.out hx1)
    have HR1 := Lib.hid hR1
    obtain ⟨c0, c1, c2, c3, f0, f1, f2, f3⟩ := hR1.cell
    clear hx1 hR1
    by_cases h1 : i < l.length
    · obtain ⟨k, rfl⟩ : ∃ k : Nat, i = k := ⟨i.toNat, by omega⟩
      have hk : k < l.length := by omega
      have h1' : ¬(l.length : Int) ≤ k := by omega
      have He := Lib.hid (atE_yes hk)
      rcases h with ⟨rfl, _, _, D, v, rfl, hb, hs⟩ | ⟨rfl, rfl, _⟩
      · have hc := (hb.ext HX.out).cell.1
        obtain ⟨A, c, rfl, _, _⟩ := hs.form
        obtain ⟨ad, rfl, _, d0, d1, d2, d3, _⟩ := (hs.up HX.out).ent_at hk
        generalize l[k] = N at d0 d1 d2 d3 He
        obtain ⟨⟨t⟩, x, y, z⟩ := N
        dsimp only at d0 d1 d2 d3
        clear hs hb
        go_wp2
        have hf := HR1.out.set4 (t := ⟨t⟩) (x := x) (y := y) (z := z)
        obtain ⟨e0, e1, e2, e3, _⟩ := hf.cell
        dsimp only at e0 e1 e2 e3
        have hk6 := kept4 w1 w.heap.size (.string ⟨t.toArray⟩) (.int .i64 x) (.int .i64 y) (.int .i64 z)
        refine bodyPost_ret (v := .tuple #[entV (⟨t⟩, x, y, z), .bool true]) ?_ rfl ⟨by rw [He.out], ?_⟩
        · simp [results, Try.f22, go_sem, e0, e1, e2, e3, entV]
        · exact ((Ext.kept HX.out (fun _ => False)).cut hk6 (Nat.le_refl _)).ext fun _ _ h => h
      · simp at hk
    · have h1' : (l.length : Int) ≤ i := by omega
      have He := Lib.hid (atE_no (l := l) (i := i) (by omega))
      go_wp2
      have hf := HR1.out.set4 (t := ⟨[]⟩) (x := 0) (y := 0) (z := 0)
      obtain ⟨e0, e1, e2, e3, _⟩ := hf.cell
      dsimp only at e0 e1 e2 e3
      have hk6 := kept4 w1 w.heap.size (.string ⟨#[]⟩) (.int .i64 0) (.int .i64 0) (.int .i64 0)
      refine bodyPost_ret (v := .tuple #[entV zeroE, .bool false]) ?_ rfl ⟨by rw [He.out], ?_⟩
      · simp [results, Try.f22, go_sem, e0, e1, e2, e3, entV, zeroE]
      · exact ((Ext.kept HX.out (fun _ => False)).cut hk6 (Nat.le_refl _)).ext fun _ _ h => h

theorem SL.sv {α : Type} [Rep α] {w : World} {v : Value} {l : List α} (h : SL w (Bw w) v l) : ∃ xs, SV w w.heap.size (Rep.n α) v l.length xs ∧ Reps w (Bw w) xs l := by
  obtain ⟨A, c, xs, e, h1, h2, h3, h4, h5⟩ := h
  exact ⟨xs, ⟨A, c, e, h1, h2, h3, h4.rd⟩, h5⟩
/-- a new row of no element, of no room -/
theorem OwnL.empty_ {α : Type} [Rep α] (w : World) (e t : TypeId) (S : Nat → Prop) (he : e = t) : OwnL (α := α) (w.alloc (.cells #[] t)) w.heap.size e S (.slice (some ⟨w.heap.size, 0, none⟩) 0 0) [] := by
  subst he
  exact ⟨[], World.ownsRow_made w #[] 0 (by simp) (by simp [maxLen]) (by simp), rfl⟩
set_option maxHeartbeats 400000 in
theorem clone_ents (w : World) (v : Value) (l : List Ent) (h : SL w (Bw w) v l) (hl : l.length ≤ 1000000) :
    Calls Try.prog 34 #[v] w fun e w' => ∃ v', e = .returned v' ∧ OwnL w' w.heap.size 42 (fun _ => False) v' l ∧ Ext w w' := by
  obtain ⟨xs, ⟨A, c, rfl, hc, hm, hnil, hr⟩, hreps⟩ := h.sv
  have hq := fun (W : World) => Lib.run_eql_slice_nil (P := Try.prog) W 22 42 A l.length c 0 0 Try.underlying22
  rcases A with _ | ad
  · have hb : l = [] := by
      rcases l with _ | ⟨b, bs⟩
      · rfl
      · obtain ⟨ad, h, _⟩ := hr.2 (by simp)
        cases h
    subst hb
    obtain rfl := hnil rfl
    have hq := fun (W : World) => Lib.run_eql_slice_nil (P := Try.prog) W 22 42 none 0 0 0 0 Try.underlying22
    show Calls Try.prog 34 #[.slice none 0 0] w _
    go_enter Try.func34, Try.ntmps34
    go_wp2
    go_ret
    exact ⟨_, rfl, OwnL.nil_ _ _ _ _, Below.refl _ _⟩
  · have Hsv := Lib.hid (SV.ext ⟨some ad, c, rfl, hc, hm, hnil, hr⟩ (Nat.le_refl _) (Ext.of_alloc w (.cells #[] 42)))
    have Hr := Lib.hid hreps
    clear h hr hreps hnil
    go_enter Try.func34, Try.ntmps34
    go_wp2_with (at_builtin; go_loud (refine wpList_append_l _ rfl (.tmp 5) (.tmp 6) 22 rfl w.heap.size 42 (fun _ => False) (.agg #[.string ⟨#[]⟩, .int .i64 0, .int .i64 0, .int .i64 0]) 40 Try.underlying22 info_ent rfl (by decide) (.slice (some ⟨w.heap.size, 0, none⟩) 0 0) [] rfl (OwnL.empty_ w _ _ _ rfl) w.heap.size _ l xs rfl Hsv.out (reps_ents Hr.out) (by simp; omega) (by omega) (by simp) ?_; intro v1 w1 hown1 hg1 hat1))
    go_ret
    exact ⟨_, rfl, hown1, ((Below.refl _ _).alloc (Nat.le_refl _) _).grown hg1 (by simp) (by simp [Value.ownBlock])⟩

set_option maxHeartbeats 400000 in
theorem all_any (w : World) (d : Value) (l : List Ent) (made : Bool) (h : DAny w d l made) :
    Calls Try.prog 14 #[d] w fun e w' => ∃ v, e = .returned v ∧ SL w' (Bw w') v l ∧ Ext w w' := by
  have H := Lib.hid h
  go_enter Try.func14, Try.ntmps14
  go_wp2_with fail
  refine (none_any w d l made H.out).mono ?_
  rintro e w1 ⟨rfl, hx1⟩
  have Hx1 := Lib.hid hx1
  clear hx1
  rcases h with ⟨rfl, _, hl, D, v, rfl, hb, hs⟩ | ⟨rfl, rfl, _⟩
  · have hc := (hb.ext Hx1.out).cell.1
    obtain ⟨A, c, rfl, _, _⟩ := hs.form
    have Hs := Lib.hid (hs.up Hx1.out)
    clear hs hb
    go_wp2_with fail
    refine (clone_ents w1 _ l Hs.out (by omega)).mono ?_
    rintro e w2 ⟨v2, rfl, ho, hx2⟩
    have Ho := Lib.hid ho
    have Hx2 := Lib.hid hx2
    clear ho hx2
    go_wp2
    go_ret
    exact ⟨v2, rfl, Ho.out.sl, Ext.trans Hx1.out Hx2.out⟩
  · go_wp2
    go_ret
    exact ⟨_, rfl, SL.nil_ _ _, Hx1.out⟩

end Go.Proofs.Ytmgbhmmmegknjaa
