/-
  Contracts of strings.HasPrefix, Dict's Get and Prefix.
  Conditions: texts of at most 1,000,000 bytes.
-/
import Derived.Test.YtmgbhmmmegknjaaDs
namespace Go.Proofs.Ytmgbhmmmegknjaa
open Go.RowKit Go.Op

theorem ba_eq_iff (a b : List UInt8) : (ByteArray.mk a.toArray = ByteArray.mk b.toArray) ↔ a = b := by
  constructor
  · intro h
    have := congrArg (fun x : ByteArray => x.data.toList) h
    simpa using this
  · rintro rfl
    rfl
theorem pre_ext (p t : List UInt8) : (ByteArray.mk t.toArray).extract 0 p.length = ⟨(t.take p.length).toArray⟩ := by
  rw [ByteArray.extract_mk, List.drop_zero, Nat.sub_zero]
theorem pre_beq (p t : List UInt8) : (t.take p.length == p) = isPre p t := by
  rw [Bool.eq_iff_iff, beq_iff_eq]
  simp [isPre]
theorem isPre_len {p t : List UInt8} (h : t.length < p.length) : isPre p t = false := by
  unfold isPre
  rw [decide_eq_false]
  intro e
  have := congrArg List.length e
  rw [List.length_take] at this
  omega

set_option maxHeartbeats 800000 in
theorem hasp_in (w : World) (t p : List UInt8) (_ht : t.length ≤ 1000000) (_hp : p.length ≤ 1000000) :
    Calls Try.prog 50 #[.string ⟨t.toArray⟩, .string ⟨p.toArray⟩] w fun e w' => e = .returned (.bool (isPre p t)) ∧ Ext w w' := by
  by_cases h : p.length ≤ t.length
  · have hd : (p.length : Int) ≤ t.length := by omega
    have he := pre_ext p t
    have hb := pre_beq p t
    generalize isPre p t = R at hb
    go_enter Try.func50, Try.ntmps50
    go_wp2
    go_ret
    exact ⟨rfl, Below.refl _ _⟩
  · have hd : ¬(p.length : Int) ≤ t.length := by omega
    have hb := Lib.hid (isPre_len (p := p) (t := t) (by omega))
    go_enter Try.func50, Try.ntmps50
    go_wp2
    go_ret
    exact ⟨by rw [hb.out]; rfl, Below.refl _ _⟩
set_option maxHeartbeats 400000 in
theorem hasp_any (w : World) (t p : List UInt8) (_ht : t.length ≤ 1000000) (_hp : p.length ≤ 1000000) :
    Calls Try.prog 35 #[.string ⟨t.toArray⟩, .string ⟨p.toArray⟩] w fun e w' => e = .returned (.bool (isPre p t)) ∧ Ext w w' := by
  go_enter Try.func35, Try.ntmps35
  go_wp2_with fail
  refine (hasp_in w t p _ht _hp).mono ?_
  rintro e w1 ⟨rfl, hx⟩
  go_wp2
  go_ret
  exact ⟨rfl, hx⟩

theorem ba_ne {a b : List UInt8} (h : a ≠ b) : (a == b) = false := by simpa using h
theorem ba_nn {a b : List UInt8} (h : a = b) : (a == b) = true := by simpa using h

set_option maxHeartbeats 3200000 in
set_option maxRecDepth 100000 in
theorem dget_any (w : World) (d : Value) (l : List Ent) (made : Bool) (s : List UInt8) (h : DAny w d l made) :
    Calls Try.prog 16 #[d, .string ⟨s.toArray⟩] w fun e w' => e = .returned (.tuple #[entV (getE l s).1, .bool (getE l s).2]) ∧ Ext w w' := by
  have H := Lib.hid h
  have hll := h.len
  have hinc := Lib.hid h.inc
  have HR := Lib.hid (EBox.new w)
  have Hx0 : Hid (Ext w (w.alloc (.cells #[.string ⟨#[]⟩, .int .i64 0, .int .i64 0, .int .i64 0] 42))) := Lib.hid (Ext.of_alloc _ _)
  clear h
  go_enter Try.func16, Try.ntmps16
  go_wp2_with fail
  refine (floor_any _ d l made s (H.out.ext Hx0.out)).mono ?_
  rintro e w1 ⟨k, rfl, hk, hx1⟩
  have Hk := Lib.hid hk
  have hkl := hk.1
  have Hx1 := Lib.hid (Ext.trans Hx0.out hx1)
  have Hx11 := Lib.hid hx1
  clear hk hx1
  go_wp2_with fail
  refine (at_any w1 d l made k (H.out.ext Hx1.out) (I6.mk (by omega))).mono ?_
  rintro e w2 ⟨rfl, hx2⟩
  have hR2 : EBox w2 w.heap.size (⟨[]⟩, 0, 0, 0) := ((Ext.trans Hx11.out hx2).block _ (by simp)).trans HR.out
  have HX := Lib.hid (Ext.trans Hx1.out hx2)
  have HR2 := Lib.hid hR2
  obtain ⟨c0, c1, c2, c3, f0, f1, f2, f3⟩ := hR2.cell
  have hszR := hR2.lt
  clear hx2 hR2
  have fin : ∀ (e : Ent) (o : Obj), Ext w ((((( w2.setCell ⟨w.heap.size, 0, none⟩ (.string ⟨e.1.b.toArray⟩)).setCell ⟨w.heap.size, 1, none⟩ (.int .i64 e.2.1)).setCell ⟨w.heap.size, 2, none⟩ (.int .i64 e.2.2.1)).setCell ⟨w.heap.size, 3, none⟩ (.int .i64 e.2.2.2)).alloc o) := fun e o =>
    Ext.al ((((Ext.kept HX.out (fun _ => False)).cut (kept4 _ _ _ _ _ _) (Nat.le_refl _))).ext fun _ _ h => h) _
  have Fin := Lib.hid fin
  clear fin
  by_cases h1 : k < l.length
  · rw [atE_yes h1]
    by_cases h2 : l[k].1.b = s
    · have He := Lib.hid (Hk.out.get_yes h1 h2)
      have hne := ba_nn h2
      generalize l[k] = N at hne He
      obtain ⟨⟨t⟩, x, y, z⟩ := N
      simp only [entV]
      dsimp only at hne
      clear h2
      go_wp2
      have hf := (HR2.out.set4 (t := ⟨t⟩) (x := x) (y := y) (z := z)).keep ((Ext.of_alloc _ (.cells #[.string ⟨t.toArray⟩, .int .i64 x, .int .i64 y, .int .i64 z] 42)).kept (fun _ => False)) (fun h => h)
      obtain ⟨e0, e1, e2, e3, _⟩ := hf.cell
      dsimp only at e0 e1 e2 e3
      refine bodyPost_ret (v := .tuple #[entV (⟨t⟩, x, y, z), .bool true]) ?_ rfl ⟨by rw [He.out], Fin.out (⟨t⟩, x, y, z) _⟩
      simp [results, Try.f16, go_sem, e0, e1, e2, e3, entV]
    · have He := Lib.hid (Hk.out.get_no hinc.out (fun _ => h2))
      have hne := ba_ne h2
      generalize l[k] = N at hne
      obtain ⟨⟨t⟩, x, y, z⟩ := N
      simp only [entV]
      dsimp only at hne
      clear h2
      go_wp2
      have hf := (HR2.out.set4 (t := ⟨[]⟩) (x := 0) (y := 0) (z := 0)).keep ((Ext.of_alloc _ (.cells #[.string ⟨t.toArray⟩, .int .i64 x, .int .i64 y, .int .i64 z] 42)).kept (fun _ => False)) (fun h => h)
      obtain ⟨e0, e1, e2, e3, _⟩ := hf.cell
      dsimp only at e0 e1 e2 e3
      refine bodyPost_ret (v := .tuple #[entV zeroE, .bool false]) ?_ rfl ⟨by rw [He.out], Fin.out zeroE _⟩
      simp [results, Try.f16, go_sem, e0, e1, e2, e3, entV, zeroE]
  · have He := Lib.hid (Hk.out.get_no hinc.out (fun h => absurd h h1))
    rw [atE_no (by omega)]
    simp only [entV, zeroE]
    go_wp2
    have hf := (HR2.out.set4 (t := ⟨[]⟩) (x := 0) (y := 0) (z := 0)).keep ((Ext.of_alloc _ (.cells #[.string ⟨#[]⟩, .int .i64 0, .int .i64 0, .int .i64 0] 42)).kept (fun _ => False)) (fun h => h)
    obtain ⟨e0, e1, e2, e3, _⟩ := hf.cell
    dsimp only at e0 e1 e2 e3
    refine bodyPost_ret (v := .tuple #[entV zeroE, .bool false]) ?_ rfl ⟨by rw [He.out], Fin.out zeroE _⟩
    simp [results, Try.f16, go_sem, e0, e1, e2, e3, entV, zeroE]

set_option maxHeartbeats 3200000 in
set_option maxRecDepth 100000 in
theorem prefix_any (w : World) (d : Value) (l : List Ent) (made : Bool) (p : List UInt8) (h : DAny w d l made) (hp : made = true → p.length ≤ 1000000) :
    Calls Try.prog 18 #[d, .string ⟨p.toArray⟩] w fun e w' => ∃ v, e = .returned v ∧ SL w' (Bw w') v (pfxE l p) ∧ Ext w w' := by
  have H := Lib.hid h
  have hll : (l.length : Int) ≤ 5000 := by have := h.len; omega
  have hinc := Lib.hid h.inc
  clear h
  go_enter Try.func18, Try.ntmps18
  go_wp2_with fail
  refine (floor_any w d l made p H.out).mono ?_
  rintro e w1 ⟨k, rfl, hk, hx1⟩
  have Hk := Lib.hid hk
  have hkl := hk.1
  have hpt := pfx_take hk
  have Hpt := Lib.hid hpt
  have Hx1 := Lib.hid hx1
  clear hk hx1 hpt
  go_wp2_with fail
  go_loopw [5, 6] (fun o i wr => ∃ q : Nat, i = .int .i64 q ∧ k ≤ q ∧ q ≤ l.length ∧ OwnL wr w.heap.size 42 (fun _ => False) o (pfxE (l.take q) p) ∧ Ext w wr) (fun _ i _ => l.length - (intOf i).toNat)
  case atStart => exact ⟨k, rfl, Nat.le_refl _, hkl, by rw [Hpt.out]; exact OwnL.nil_ _ _ _ _, Hx1.out⟩
  case round =>
    rename World => wr
    obtain ⟨q, rfl, hkq, hq, hol, hx⟩ := hrel
    have Hol := Lib.hid hol
    have Hx := Lib.hid hx
    clear hol hx
    by_cases hlt : q < l.length
    · have hlti : (q : Int) < l.length := by omega
      have hp := hp (by
        rcases H.out with ⟨h, _⟩ | ⟨_, h, _⟩
        · exact h
        · rw [h] at hlt; simp at hlt)
      obtain ⟨D, v, rfl, hd, hv⟩ : DictAt w d l := by
        rcases H.out with ⟨_, _, _, h⟩ | ⟨_, h, _⟩
        · exact h
        · rw [h] at hlt; simp at hlt
      obtain ⟨A, c, rfl, _, hm⟩ := hv.form
      have Hd := Lib.hid hd
      have Hv := Lib.hid hv
      clear hd hv
      go_wp2_with fail
      refine (len_any wr _ l made (H.out.ext Hx.out)).mono ?_
      rintro e w2 ⟨rfl, hx2⟩
      have Hx2 := Lib.hid (Ext.trans Hx.out hx2)
      have Hx2r := Lib.hid hx2
      have hc := (Hd.out.ext Hx2.out).cell.1
      obtain ⟨ad, rfl, _, d0, _, _, _, b0, _⟩ := (Hv.out.up Hx2.out).ent_at hlt
      have hnx := fun h => pfx_next (p := p) hlt h
      have hend := fun h => pfx_end (i := q) hinc.out Hk.out hkq h
      have hle : l[q].1.b.length ≤ 65 := by
        rcases H.out with ⟨_, h, _⟩ | ⟨_, h, _⟩
        · exact (eOk_spec (upw_mem (esOk_spec h).1 _ (List.getElem_mem hlt))).1
        · rw [h] at hlt; simp at hlt
      have Hnx := Lib.hid hnx
      have Hend := Lib.hid hend
      have Hv2 := Lib.hid (Hv.out.up Hx2.out)
      clear hx2 hnx hend
      go_wp2_with fail
      refine (hasp_any w2 l[q].1.b p (by omega) hp).mono ?_
      rintro e w3 ⟨rfl, hx3⟩
      have Hx3 := Lib.hid (Ext.trans Hx2.out hx3)
      have hc := (Hd.out.ext Hx3.out).cell.1
      have Hol3 := Lib.hid (Hol.out.ext (Ext.trans Hx2r.out hx3))
      obtain ⟨ad2, had2, _, d0, d1, d2, d3, b0, b1, b2, b3⟩ := (Hv.out.up Hx3.out).ent_at hlt
      obtain rfl : ad = ad2 := by injection had2
      clear hx3 had2
      cases hpre : isPre p l[q].1.b with
      | true =>
        have hps := Hnx.out hpre
        generalize l[q] = N at d0 d1 d2 d3 b0 b1 b2 b3 hps
        obtain ⟨⟨t⟩, x, y, z⟩ := N
        dsimp only at d0 d1 d2 d3 b0 b1 b2 b3
        obtain ⟨Al, cl, rfl, hcl, hml⟩ := Hol3.out.form
        have hPl : (pfxE (l.take q) p).length ≤ 5000 := by
          have := List.length_filter_le (fun e : Ent => isPre p e.1.b) (l.take q)
          rw [List.length_take] at this
          unfold pfxE
          omega
        generalize pfxE (l.take q) p = LS at Hol3 hPl hps hcl hml
        have Hps := Lib.hid hps
        have hsv := SV.one_ w3 #[.string ⟨t.toArray⟩, .int .i64 x, .int .i64 y, .int .i64 z] 42 4 rfl
        have Hsv := Lib.hid hsv
        have hreps : ∀ W : World, Reps (α := Ent) W (fun j => False ∧ j < W.heap.size ∧ some j ≠ (Value.slice Al LS.length cl).ownBlock) [.string ⟨t.toArray⟩, .int .i64 x, .int .i64 y, .int .i64 z] [(⟨t⟩, x, y, z)] := fun W => Reps.single (rep_ent b0 b1 b2 b3)
        have Hreps := Lib.hid hreps
        clear hps hsv hreps hpre Hol
        go_wp2_with (at_builtin; go_loud (refine wpList_append_l _ rfl (.tmp 28) (.tmp 36) 22 rfl w.heap.size 42 (fun _ => False) (.agg #[.string ⟨#[]⟩, .int .i64 0, .int .i64 0, .int .i64 0]) 40 Try.underlying22 info_ent rfl (by decide) (.slice Al LS.length cl) LS rfl (Hol3.out.ext (Ext.of_alloc _ _)) (w3.heap.size + 1) (.slice (some ⟨w3.heap.size, 0, none⟩) 1 1) [(⟨t⟩, x, y, z)] [.string ⟨t.toArray⟩, .int .i64 x, .int .i64 y, .int .i64 z] rfl Hsv.out (Hreps.out _) (by simp; omega) (by omega) (by have := Hx3.out.size; simp; omega) ?_; intro v6 w6 hown6 hg6 hat6; have hx6 : Ext w w6 := Below.grown (Ext.al Hx3.out _) hg6 (by have := Hx3.out.size; simp; omega) (fun j hj => Hol3.out.ge j hj); have Hown6 := Lib.hid hown6; have Hx6 := Lib.hid hx6; clear hown6 hg6 hat6 hx6))
        go_roundw
        case rel => exact ⟨q + 1, rfl, by omega, by omega, by rw [Hps.out]; exact Hown6.out, Hx6.out⟩
        case measure => simp only [intOf]; omega
      | false =>
        have hfin := Hend.out (fun _ => hpre)
        rw [hfin] at Hol3
        clear hpre hfin Hnx Hol
        go_wp2
        go_ret
        exact ⟨_, rfl, Hol3.out.sl, Hx3.out⟩
    · have hlti : (l.length : Int) ≤ q := by omega
      have hfin := pfx_end (i := q) hinc.out Hk.out hkq (fun h => absurd h hlt)
      rw [hfin] at Hol
      clear hfin
      go_wp2_with fail
      refine (len_any wr _ l made (H.out.ext Hx.out)).mono ?_
      rintro e w2 ⟨rfl, hx2⟩
      have Hx2 := Lib.hid (Ext.trans Hx.out hx2)
      have Hol2 := Lib.hid (Hol.out.ext hx2)
      clear hx2
      go_wp2
      go_ret
      exact ⟨_, rfl, Hol2.out.sl, Hx2.out⟩

end Go.Proofs.Ytmgbhmmmegknjaa
