/-
  Contracts of the reference's Find, At and Some.
  Conditions: at most 1,000 places.
-/
import Derived.Test.YtnajmpkdeenkbaaHb
import Derived.Test.YtnajmpkdeenkbaaEu
namespace Go.Proofs.Ytnajmpkdeenkbaa
open Go.RowKit Go.Op

theorem TBox.new (W : World) (s a : Int) (v : Value) : TBox (W.alloc (.cells #[.int .i64 s, .int .i64 a, v] 45)) W.heap.size s a v := heap_alloc_new W _
theorem TBox.froz {W : World} {B : Nat} {s a : Int} {v : Value} (h : TBox W B s a v) : W.frozen? ⟨B, 0, none⟩ = false := by simp [World.frozen?, show W.heap[B]? = _ from h]
def set3 (W : World) (B : Nat) (s a : Int) (v : Value) : World := ((W.setCell ⟨B, 0, none⟩ (.int .i64 s)).setCell ⟨B, 1, none⟩ (.int .i64 a)).setCell ⟨B, 2, none⟩ v
theorem TBox.set3 {W : World} {B : Nat} {s a : Int} {v : Value} (h : TBox W B s a v) (s' a' : Int) (v' : Value) : TBox (set3 W B s' a' v') B s' a' v' := by
  obtain ⟨hlt, hk⟩ := Array.getElem?_eq_some_iff.1 h
  have h1 : TBox (W.setCell ⟨B, 0, none⟩ (.int .i64 s')) B s' a v := by
    show (W.heap.modify B _)[B]? = _
    rw [Array.getElem?_eq_getElem (by rw [Array.size_modify]; exact hlt), Array.getElem_modify_self, hk]
    rfl
  exact TBox.set h1
theorem kept123 (W : World) (B : Nat) (s a : Int) (v : Value) : Kept (fun k => k = B) W (set3 W B s a v) :=
  (Kept.setCell (fun k => k = B) W ⟨B, 0, none⟩ (.int .i64 s) rfl).trans (kept12 _ B (.int .i64 a) v)

set_option maxHeartbeats 3200000 in
set_option maxRecDepth 100000 in
theorem rat_any (n0 : Nat) (w : World) (v : Value) (m : List Doc) (p : Int) (hv : SL w (· < n0) v m) (hn0 : n0 ≤ w.heap.size) :
    Calls Try.prog 24 #[v, .int .i64 p] w fun e w' => ∃ x, e = .returned (.tuple #[x, .int .i64 (okE (atR m p).isSome : Nat)]) ∧ DocV w' (· < n0) x ((atR m p).getD zD) ∧ Ext w w' := by
  obtain ⟨A, c, rfl, hc, hm⟩ := hv.form
  have Hv := Lib.hid hv
  have hb := TBox.new w 0 0 (.slice none 0 0)
  have hX := Ext.of_alloc w (.cells #[.int .i64 0, .int .i64 0, .slice none 0 0] 45)
  have HX := Lib.hid hX
  obtain ⟨c0, c1, c2, f1, f2⟩ := hb.cell
  have f0 := hb.froz
  clear hv hX
  by_cases hin : 0 ≤ p ∧ p < m.length
  · obtain ⟨k, rfl⟩ : ∃ k : Nat, p = (k : Int) := ⟨p.toNat, by omega⟩
    have hk : k < m.length := by omega
    have hki : (k : Int) < m.length := by omega
    have hk0 : decide ((k : Int) < 0) = false := decide_eq_false (by omega)
    have hk1 : decide ((m.length : Int) ≤ k) = false := decide_eq_false (by omega)
    obtain ⟨ad, u, rfl, had, d0, d1, d2, hu, h6, h7⟩ := Hv.out.doc_at hk
    have q0 := Ext.keeps HX.out d0
    have q1 := Ext.keeps HX.out d1
    have q2 := Ext.keeps HX.out d2
    have Hat := Lib.hid (atR_in hk)
    generalize m[k] = N at d0 d1 d2 hu h6 h7 q0 q1 q2 Hat
    obtain ⟨s, a_, fs⟩ := N
    dsimp only at d0 d1 d2 hu h6 h7 q0 q1 q2
    obtain ⟨Au, cu, rfl, _⟩ := hu.form
    have hx2 := Ext.of_alloc w (.cells #[.int .i64 s, .int .i64 a_, .slice Au fs.length cu] 45)
    have Hu := Lib.hid (hu.ext hn0 hx2)
    have Hx2 := Lib.hid hx2
    have H6 := Lib.hid h6
    have H7 := Lib.hid h7
    clear hu h6 h7 d0 d1 d2 hin hx2 hb
    go_enter Try.func24, Try.ntmps24
    go_wp2
    obtain ⟨e0, e1, e2, _⟩ := (TBox.new w s a_ (.slice Au fs.length cu)).cell
    refine bodyPost_ret (v := .tuple #[.agg #[.int .i64 s, .int .i64 a_, .slice Au fs.length cu], .int .i64 0]) (by simp [results, Try.f24, go_sem, e0, e1, e2]) rfl ⟨_, by rw [Hat.out]; rfl, ?_, Hx2.out⟩
    rw [Hat.out]
    exact ⟨_, rfl, Hu.out, H6.out, H7.out⟩
  · have hn : p < 0 ∨ (decide (p < 0) = false ∧ (m.length : Int) ≤ p) := by
      by_cases h : p < 0
      · exact .inl h
      · exact .inr ⟨decide_eq_false h, by omega⟩
    have Hat := Lib.hid (atR_out (m := m) (p := p) (by omega))
    clear hin
    rcases hn with hn | ⟨hn, hn2⟩
    · clear hb
      go_enter Try.func24, Try.ntmps24
      go_wp2
      obtain ⟨e0, e1, e2, _⟩ := (TBox.new w 0 0 (.slice none 0 0)).cell
      refine bodyPost_ret (v := .tuple #[.agg #[.int .i64 0, .int .i64 0, .slice none 0 0], .int .i64 5]) (by simp [results, Try.f24, go_sem, e0, e1, e2]) rfl ⟨_, by rw [Hat.out]; rfl, ?_, HX.out⟩
      rw [Hat.out]
      exact DocV.zero _ _
    · clear hb
      go_enter Try.func24, Try.ntmps24
      go_wp2
      obtain ⟨e0, e1, e2, _⟩ := (TBox.new w 0 0 (.slice none 0 0)).cell
      refine bodyPost_ret (v := .tuple #[.agg #[.int .i64 0, .int .i64 0, .slice none 0 0], .int .i64 5]) (by simp [results, Try.f24, go_sem, e0, e1, e2]) rfl ⟨_, by rw [Hat.out]; rfl, ?_, HX.out⟩
      rw [Hat.out]
      exact DocV.zero _ _

set_option maxHeartbeats 3200000 in
set_option maxRecDepth 100000 in
theorem rfind_any (w : World) (v : Value) (m : List Doc) (q : Int) (hv : SL w (Bw w) v m) :
    Calls Try.prog 25 #[v, .int .i64 q] w fun e w' => ∃ x, e = .returned (.tuple #[x, .bool (fndR m q).isSome]) ∧ DocV w' (Bw w') x ((fndR m q).getD zD) ∧ Ext w w' := by
  obtain ⟨A, c, rfl, hc, hm⟩ := hv.form
  have hml : (m.length : Int) ≤ 9223372036854775807 := by unfold maxLen at hm; omega
  have Hv := Lib.hid hv
  have hb := TBox.new w 0 0 (.slice none 0 0)
  have hX := Ext.of_alloc w (.cells #[.int .i64 0, .int .i64 0, .slice none 0 0] 45)
  have HX := Lib.hid hX
  obtain ⟨c0, c1, c2, f1, f2⟩ := hb.cell
  have f0 := hb.froz
  clear hv hX hb
  go_enter Try.func25, Try.ntmps25
  go_wp2_with fail
  go_loopw [6] (fun i wr => ∃ k : Nat, i = .int .i64 k ∧ k ≤ m.length ∧ (∀ j (hj : j < m.length), j < k → (m[j]).1 ≠ q) ∧ wr = w.alloc (.cells #[.int .i64 0, .int .i64 0, .slice none 0 0] 45)) (fun i _ => m.length - (intOf i).toNat)
  case atStart => exact ⟨0, rfl, Nat.zero_le _, (fun j hj h => absurd h (by omega)), rfl⟩
  case round =>
    obtain ⟨k, rfl, hk, hf, rfl⟩ := hrel
    have Hf := Lib.hid hf
    clear hf
    by_cases hlk : k < m.length
    · have hkl : (k : Int) < m.length := by omega
      obtain ⟨ad, u, rfl, had, d0, d1, d2, hu, h6, h7⟩ := Hv.out.doc_at hlk
      have q0 := Ext.keeps HX.out d0
      have q1 := Ext.keeps HX.out d1
      have q2 := Ext.keeps HX.out d2
      generalize hN : m[k] = N at d0 d1 d2 hu h6 h7 q0 q1 q2
      have HN := Lib.hid hN
      obtain ⟨s, a_, fs⟩ := N
      dsimp only at d0 d1 d2 hu h6 h7 q0 q1 q2
      obtain ⟨Au, cu, rfl, _⟩ := hu.form
      have hx2 := Ext.of_alloc w (.cells #[.int .i64 s, .int .i64 a_, .slice Au fs.length cu] 45)
      have Hu := Lib.hid (hu.up hx2)
      have Hx2 := Lib.hid hx2
      have H6 := Lib.hid h6
      have H7 := Lib.hid h7
      clear hu h6 h7 d0 d1 d2 hx2 hN
      by_cases hs : s = q
      · have hsb : (s == q) = true := by simpa using hs
        have Hat := Lib.hid (fndR_at hlk (by rw [HN.out]; exact hs) Hf.out)
        rw [HN.out] at Hat
        clear HN
        clear hs
        go_wp2
        obtain ⟨e0, e1, e2, _⟩ := (TBox.new w s a_ (.slice Au fs.length cu)).cell
        refine bodyPost_ret (v := .tuple #[.agg #[.int .i64 s, .int .i64 a_, .slice Au fs.length cu], .bool true]) (by simp [results, Try.f25, go_sem, e0, e1, e2]) rfl ⟨_, by rw [Hat.out]; rfl, ?_, Hx2.out⟩
        rw [Hat.out]
        exact ⟨_, rfl, Hu.out, H6.out, H7.out⟩
      · have hsb : (s == q) = false := by simpa using hs
        have Hs := Lib.hid hs
        clear hs
        go_wp2
        refine ⟨⟨k + 1, rfl, by omega, fun j hj h => ?_, trivial⟩, by simp only [intOf]; omega⟩
        by_cases hjk : j = k
        · subst hjk
          rw [HN.out]
          exact Hs.out
        · exact Hf.out j hj (by omega)
    · have hkl : ¬(k : Int) < m.length := by omega
      have Hat := Lib.hid (fndR_none (m := m) (s := q) fun j hj => Hf.out j hj (by omega))
      go_wp2
      obtain ⟨e0, e1, e2, _⟩ := (TBox.new w 0 0 (.slice none 0 0)).cell
      refine bodyPost_ret (v := .tuple #[.agg #[.int .i64 0, .int .i64 0, .slice none 0 0], .bool false]) (by simp [results, Try.f25, go_sem, e0, e1, e2]) rfl ⟨_, by rw [Hat.out]; rfl, ?_, HX.out⟩
      rw [Hat.out]
      exact DocV.zero _ _

set_option maxHeartbeats 3200000 in
set_option maxRecDepth 100000 in
theorem rsome_any (w : World) (u v : Value) (m : List Doc) (ps : List Int) (hu : SL w (Bw w) u m) (hv : SL w (Bw w) v ps) (hl : ps.length ≤ 1000) :
    Calls Try.prog 26 #[u, v] w fun e w' => ∃ x, e = .returned (.tuple #[x, .int .i64 (okE (someR m ps).isSome : Nat)]) ∧ SL w' (Bw w') x ((someR m ps).getD []) ∧ Ext w w' := by
  obtain ⟨A, c, rfl, hc, hm⟩ := hv.form
  have Hv := Lib.hid hv
  have Hu := Lib.hid hu
  clear hv hu
  go_enter Try.func26, Try.ntmps26
  go_wp2_with fail
  go_loopw [6, 7] (fun o i wr => ∃ (k : Nat) (L : List Doc), i = .int .i64 k ∧ k ≤ ps.length ∧ L.length = k ∧ someR m (ps.take k) = some L ∧ OwnL wr w.heap.size 45 (Bw w) o L ∧ Ext w wr) (fun _ i _ => ps.length - (intOf i).toNat)
  case atStart => exact ⟨0, [], rfl, Nat.zero_le _, rfl, rfl, OwnL.nil_ _ _ _ _, Below.refl _ _⟩
  case round =>
    obtain ⟨k, L, rfl, hk, hL, hs, hol, hx⟩ := hrel
    obtain ⟨Al, cl, rfl, hclo, hmo⟩ := hol.form
    have hsz := hx.size
    have Hol := Lib.hid hol
    have Hx := Lib.hid hx
    have Hs := Lib.hid hs
    have hLk : L.length ≤ 1000 := by omega
    have HL := Lib.hid hL
    clear hol hs hL
    by_cases hlk : k < ps.length
    · have hkl : (k : Int) < ps.length := by omega
      obtain ⟨ad, rfl, _, d0, h6⟩ := Hv.out.int_at hlk
      have q0 := Ext.keeps hx d0
      obtain ⟨p, hp⟩ : ∃ p, p = ps[k] := ⟨_, rfl⟩
      rw [← hp] at d0 h6 q0
      have Htk : Hid (ps.take (k + 1) = ps.take k ++ [p]) := Lib.hid (by rw [hp]; exact List.take_succ_eq_append_getElem hlk)
      have Hmem : Hid (p ∈ ps) := Lib.hid (by rw [hp]; exact List.getElem_mem hlk)
      have Hu1 := Lib.hid (SL.ext Hu.out (Nat.le_refl _) hx)
      clear hp d0 hx
      go_wp2_with fail
      refine (rat_any w.heap.size wr u m p Hu1.out hsz).mono ?_
      rintro e w2 ⟨x, rfl, hdx, hx2⟩
      cases hat : atR m p with
      | none =>
        have Hbad := Lib.hid (someR_bad m ps p Hmem.out hat)
        rw [hat] at hdx
        obtain ⟨ux, rfl, hux, _⟩ := hdx
        obtain ⟨Ax, cx, rfl, _⟩ := hux.form
        dsimp only [Option.getD_none, zD, List.length_nil]
        clear hux
        have hx3 := Ext.trans Hx.out hx2
        have Hx3 := Lib.hid hx3
        clear hat hx2 hx3
        rw [show okE (none : Option Doc).isSome = 5 from rfl]
        go_wp2
        go_ret2
        exact ⟨_, by rw [Hbad.out]; rfl, by rw [Hbad.out]; exact SL.nil_ _ _, (Hx3.out).al _⟩
      | some d =>
        have Hstep := Lib.hid (someR_append m _ p Hs.out hat)
        rw [hat] at hdx
        obtain ⟨ux, rfl, hux, hd1, hd2⟩ := hdx
        rw [show okE (some d).isSome = 0 from rfl]
        obtain ⟨s, a_, fs⟩ := d
        dsimp only [Option.getD_some] at hux hd1 hd2
        obtain ⟨Au, cu, rfl, _⟩ := hux.form
        have Hux := Lib.hid hux
        have Hx3 := Lib.hid (Ext.trans Hx.out hx2)
        have Hol3 := Lib.hid (Hol.out.ext hx2)
        have hsz2 := hx2.size
        clear hat hux hx2
        have hsv := SV.one_ (w2.alloc (.cells #[.int .i64 s, .int .i64 a_, .slice Au fs.length cu] 45)) #[.int .i64 s, .int .i64 a_, .slice Au fs.length cu] 45 3 rfl
        rw [World.size_alloc] at hsv
        have hreps : Reps (α := Doc) ((w2.alloc (.cells #[.int .i64 s, .int .i64 a_, .slice Au fs.length cu] 45)).alloc (.cells #[.int .i64 s, .int .i64 a_, .slice Au fs.length cu] 45)) (fun k => k < w.heap.size ∧ k < ((w2.alloc (.cells #[.int .i64 s, .int .i64 a_, .slice Au fs.length cu] 45)).alloc (.cells #[.int .i64 s, .int .i64 a_, .slice Au fs.length cu] 45)).heap.size ∧ some k ≠ (Value.slice Al L.length cl).ownBlock) [.int .i64 s, .int .i64 a_, .slice Au fs.length cu] [(s, a_, fs)] := by
          refine Reps.single (rep_doc hd1 hd2 ((Hux.out.keep (Sm.of_ext (Ext.al (Ext.of_alloc _ _) _) fun k hk => by have : k < w.heap.size := hk; omega)).more fun k hk => ⟨hk, by have : k < w.heap.size := hk; simp; omega, fun e => ?_⟩))
          have := Hol3.out.ge k e.symm
          have : k < w.heap.size := hk
          omega
        have Hsv := Lib.hid hsv
        have Hreps := Lib.hid hreps
        have Hol6 := Lib.hid (Hol3.out.ext (Ext.al (Ext.of_alloc w2 (.cells #[.int .i64 s, .int .i64 a_, .slice Au fs.length cu] 45)) (.cells #[.int .i64 s, .int .i64 a_, .slice Au fs.length cu] 45)))
        have hs2 := Hx3.out.size
        obtain ⟨b0, b1, b2, _⟩ := (TBox.new w2 s a_ (.slice Au fs.length cu)).cell
        clear hsv hreps
        go_wp2_with (at_builtin; go_loud (refine wpList_append_l _ rfl (.tmp 28) (.tmp 30) 22 rfl w.heap.size 45 (Bw w) (.agg #[.int .i64 0, .int .i64 0, .slice none 0 0]) 40 Try.underlying22 info_doc rfl (by decide) (.slice Al L.length cl) L rfl Hol6.out (w2.heap.size + 1 + 1) (.slice (some ⟨w2.heap.size + 1, 0, none⟩) 1 1) [(s, a_, fs)] [.int .i64 s, .int .i64 a_, .slice Au fs.length cu] rfl Hsv.out Hreps.out (by simp; omega) (by omega) (by simp; omega) ?_; intro v6 w6 hown6 hg6 hat6; have hx6 : Ext w w6 := Below.grown (Ext.al (Ext.al Hx3.out _) _) hg6 (by simp; omega) (fun j hj => Hol3.out.ge j hj); have Hown6 := Lib.hid hown6; have Hx6 := Lib.hid hx6; clear hown6 hg6 hat6 hx6))
        exact ⟨⟨k + 1, _, rfl, by omega, by rw [List.length_append, HL.out]; rfl, by rw [Htk.out]; exact Hstep.out, Hown6.out, Hx6.out⟩, by simp only [intOf]; omega⟩
    · have hkl : ¬(k : Int) < ps.length := by omega
      have hs2 := Hs.out
      rw [List.take_of_length_le (by omega)] at hs2
      have Hs2 := Lib.hid hs2
      clear hs2 hx
      go_wp2
      go_ret2
      exact ⟨_, by rw [Hs2.out]; rfl, by rw [Hs2.out]; exact Hol.out.sl, Hx.out⟩
end Go.Proofs.Ytnajmpkdeenkbaa
