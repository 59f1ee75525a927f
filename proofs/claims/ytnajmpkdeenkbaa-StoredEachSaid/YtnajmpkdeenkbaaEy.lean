/-
  Contract of the law's few; what few rows weigh.
  Conditions: none.
-/
import Derived.Test.YtnajmpkdeenkbaaEx
namespace Go.Proofs.Ytnajmpkdeenkbaa
open Go.RowKit Go.Op

set_option maxHeartbeats 3200000 in
set_option maxRecDepth 100000 in
theorem few_any (w : World) (v : Value) (l : List Doc) (hv : SL w (Bw w) v l) :
    Calls Try.prog 8 #[v] w fun e w' => ∃ u m R, e = .returned (.tuple #[u, .bool R]) ∧ SL w' (Bw w') u m ∧ (R = true → m = l.take 40) ∧ (R = false → m = []) ∧ (∀ d ∈ m, fsz (d.2.2.take 20) < 1000) ∧ Ext w w' := by
  obtain ⟨A, c, rfl, hc, hm⟩ := hv.form
  have Hv := Lib.hid hv
  clear hv
  go_enter Try.func8, Try.ntmps8
  go_wp2_with fail
  go_loopw [4, 5] (fun o i wr => ∃ k : Nat, i = .int .i64 k ∧ k ≤ l.length ∧ k ≤ 40 ∧ OwnL wr w.heap.size 45 (Bw w) o (l.take k) ∧ (∀ d ∈ l.take k, fsz (d.2.2.take 20) < 1000) ∧ Ext w wr) (fun _ i _ => 40 - (intOf i).toNat)
  case atStart => exact ⟨0, rfl, Nat.zero_le _, Nat.zero_le _, OwnL.nil_ _ _ _ _, (fun _ h => by cases h), Below.refl _ _⟩
  case round =>
    obtain ⟨k, rfl, hk, hk4, hol, hf, hx⟩ := hrel
    obtain ⟨Al, cl, rfl, hclo, hmo⟩ := hol.form
    have hsz := hx.size
    have hll : (l.take k).length = k := by rw [List.length_take]; omega
    have Hf := Lib.hid hf
    clear hf
    by_cases hstop : k < l.length ∧ k < 40
    · obtain ⟨hlk, hk40⟩ := hstop
      have hkl : (k : Int) < l.length := by omega
      have hkl4 : (k : Int) < 40 := by omega
      obtain ⟨ad, u, rfl, had, hc0, hc1, hc2, hu, h6, h7⟩ := Hv.out.doc_at hlk
      have q0 := Ext.keeps hx hc0
      have q1 := Ext.keeps hx hc1
      have q2 := Ext.keeps hx hc2
      have htk : l.take (k + 1) = l.take k ++ [l[k]] := take_nextE l hlk
      obtain ⟨Au, cu, rfl, hcu, hmu⟩ := hu.form
      generalize hN : l[k] = N at hc0 hc1 hc2 hu h6 h7 htk q0 q1 q2 hcu
      obtain ⟨s, at_, fs⟩ := N
      dsimp only at hc0 hc1 hc2 hu h6 h7 htk q0 q1 q2 hcu
      have Hu := Lib.hid (hu.keep (Sm.of_ext hx fun k hk => hk))
      have Hu2 := Lib.hid (hu.up hx)
      have Htk := Lib.hid htk
      have Hol := Lib.hid hol
      have Hx := Lib.hid hx
      have C0 := Lib.hid hc0
      have C1 := Lib.hid hc1
      have C2 := Lib.hid hc2
      clear hc0 hc1 hc2 hu htk hol hx hN
      generalize l.take k = LS at Hol hll Htk hclo Hf
      have hLS : LS.length ≤ 40 := by omega
      clear hll
      go_wp2_with fail
      refine (light_any wr at_ _ fs Hu2.out).mono ?_
      rintro e w2 ⟨R, rfl, hR, hx2⟩
      have Hx2 := Lib.hid (Ext.trans Hx.out hx2)
      cases R with
      | false =>
        clear hx2 hR
        go_wp2
        go_ret2
        exact ⟨_, [], false, rfl, SL.nil_ _ _, (fun h => by cases h), fun _ => rfl, (fun _ h => by cases h), Hx2.out⟩
      | true =>
        have hR2 := hR rfl
        have q0 := Ext.keeps hx2 q0
        have q1 := Ext.keeps hx2 q1
        have q2 := Ext.keeps hx2 q2
        have hreps : Reps (α := Doc) (w2.alloc (.cells #[.int .i64 s, .int .i64 at_, .slice Au fs.length cu] 45)) (fun k => k < w.heap.size ∧ k < (w2.alloc (.cells #[.int .i64 s, .int .i64 at_, .slice Au fs.length cu] 45)).heap.size ∧ some k ≠ (Value.slice Al LS.length cl).ownBlock) [.int .i64 s, .int .i64 at_, .slice Au fs.length cu] [(s, at_, fs)] := by
          refine Reps.single (rep_doc h6 h7 ((Hu.out.keep (Sm.of_ext (Ext.al hx2 _) fun k hk => by have : k < w.heap.size := hk; omega)).more fun k hk => ⟨hk, by have : k < w.heap.size := hk; have := hx2.size; simp; omega, fun e => ?_⟩))
          have := Hol.out.ge k e.symm
          have : k < w.heap.size := hk
          omega
        have hsv := SV.one_ w2 #[.int .i64 s, .int .i64 at_, .slice Au fs.length cu] 45 3 rfl
        have Hsv := Lib.hid hsv
        have Hreps := Lib.hid hreps
        have Hol6 := Lib.hid (Hol.out.ext (Ext.al hx2 (.cells #[.int .i64 s, .int .i64 at_, .slice Au fs.length cu] 45)))
        have hs2 := Hx2.out.size
        clear hsv hreps hx2 hR
        go_wp2_with (at_builtin; go_loud (refine wpList_append_l _ rfl (.tmp 23) (.tmp 28) 22 rfl w.heap.size 45 (Bw w) (.agg #[.int .i64 0, .int .i64 0, .slice none 0 0]) 40 Try.underlying22 info_doc rfl (by decide) (.slice Al LS.length cl) LS rfl Hol6.out (w2.heap.size + 1) (.slice (some ⟨w2.heap.size, 0, none⟩) 1 1) [(s, at_, fs)] [.int .i64 s, .int .i64 at_, .slice Au fs.length cu] rfl Hsv.out Hreps.out (by simp; omega) (by omega) (by simp; omega) ?_; intro v6 w6 hown6 hg6 hat6; have hx6 : Ext w w6 := Below.grown (Ext.al Hx2.out _) hg6 (by simp; omega) (fun j hj => Hol.out.ge j hj); have Hown6 := Lib.hid hown6; have Hx6 := Lib.hid hx6; clear hown6 hg6 hat6 hx6))
        exact ⟨⟨k + 1, rfl, by omega, by omega, by rw [Htk.out]; exact Hown6.out, by
          rw [Htk.out]
          intro d hd
          rcases List.mem_append.1 hd with hd | hd
          · exact Hf.out d hd
          · simp only [List.mem_singleton] at hd
            subst hd
            exact hR2, Hx6.out⟩, by simp only [intOf]; omega⟩
    · have hfin : l.take k = l.take 40 := by
        by_cases h : k < l.length
        · have : k = 40 := by omega
          rw [this]
        · rw [List.take_of_length_le (by omega), List.take_of_length_le (by omega)]
      have Hfin := Lib.hid hfin
      have Hsl := Lib.hid hol.sl
      have Hx := Lib.hid hx
      clear hfin hol hx
      by_cases h1 : k < l.length
      · have h1i : decide ((k : Int) < l.length) = true := decide_eq_true (by omega)
        have h2i : decide ((k : Int) < 40) = false := decide_eq_false (by omega)
        go_wp2
        go_ret2
        exact ⟨_, _, true, rfl, Hsl.out, fun _ => Hfin.out, (fun h => by cases h), Hf.out, Hx.out⟩
      · have h1i : decide ((k : Int) < l.length) = false := decide_eq_false (by omega)
        go_wp2
        go_ret2
        exact ⟨_, _, true, rfl, Hsl.out, fun _ => Hfin.out, (fun h => by cases h), Hf.out, Hx.out⟩

theorem fsby_fsz : ∀ {l : List Fld}, (∀ f ∈ l, fldE f = 0) → (fsby l).length ≤ 20 * l.length + fsz l
  | [], _ => by simp [fsby, fsz]
  | f :: l, h => by
    have := fsby_fsz (l := l) fun x hx => h x (by simp [hx])
    obtain ⟨_, h1, h2⟩ := fldE_spec (h f (by simp))
    have e1 := enc_len10 (n := f.1.b.length) (U64.mk (by omega))
    have e2 := enc_len10 (n := f.2.b.length) (U64.mk (by omega))
    simp only [fsby, fby, tby, fsz, List.length_append, List.length_cons]
    omega
theorem evby_light {e : Ev} (h : evE e = 0) (hi : I64 e.1) (hl : fsz (e.2.take 20) < 1000) : (evby e).length ≤ 1400 := by
  obtain ⟨h1, h2⟩ := evE_spec h
  rw [List.take_of_length_le (by omega)] at hl
  have := fsby_fsz (fldsE_spec h2)
  have e1 := enc_len10 (zig_64 hi)
  have e2 := enc_len10 (n := e.2.length) (U64.mk (by omega))
  simp only [evby, List.length_append]
  omega
theorem dby_light : ∀ {l : List Doc} {last : Int}, RowFrom last l → 0 ≤ last → (∀ d ∈ l, fsz (d.2.2.take 20) < 1000) → (dby last l).length ≤ 1500 * l.length
  | [], _, _, _, _ => by simp [dby]
  | d :: l, last, h, h0, hf => by
    obtain ⟨h1, h2, h3, h4, h5⟩ := h.cons
    have e1 := dby_cons_len h h0
    have e2 := evby_light h3 h4 (hf d (by simp))
    have e3 := dby_light h5 (by omega) fun x hx => hf x (by simp [hx])
    simp only [List.length_cons]
    omega
/-- a row's times are of 64 bits -/
theorem SL.tms {w : World} {S : Nat → Prop} {A : Option Addr} {n c : Nat} {l : List Doc} (h : SL w S (.slice A n c) l) : ∀ d ∈ l, I64 d.2.1 := by
  intro d hd
  obtain ⟨i, hi, rfl⟩ := List.getElem_of_mem hd
  obtain ⟨_, _, _, _, _, _, _, _, _, h7⟩ := h.doc_at hi
  exact ⟨h7.1, h7.2⟩
/-- a few light docs -/
structure Few (l : List Doc) : Prop where
  len : l.length ≤ 40
  light : ∀ d ∈ l, fsz (d.2.2.take 20) < 1000
theorem Few.dby {l : List Doc} (h : Few l) (hr : Row l) : (dby 0 l).length ≤ 60000 := by
  have := dby_light hr.from_.1 (by decide) h.light
  have := h.len
  omega
theorem Few.senc {l : List Doc} (h : Few l) (hr : Row l) : (senc l).length ≤ 70000 := by
  have h1 := h.dby hr
  have h2 := h.len
  have e1 := enc_len10 (n := l.length) (U64.mk (by omega))
  have e2 := encs_len (hns l (nbk l.length)) (hns_small hr.from_.1 (by omega) _)
  rw [hns_len] at e2
  have e3 : nbk l.length ≤ 10 := by unfold nbk; omega
  unfold Go.Proofs.Ytnajmpkdeenkbaa.senc
  simp only [List.length_append]
  omega
end Go.Proofs.Ytnajmpkdeenkbaa
