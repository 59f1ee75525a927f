/-
  Contracts of slices.IndexFunc over docs and of stored.Find.
  Conditions: at most 90,000 bytes.
-/
import Derived.Test.YtnajmpkdeenkbaaHc
import Derived.Test.YtnajmpkdeenkbaaEz
namespace Go.Proofs.Ytnajmpkdeenkbaa
open Go.RowKit Go.Op

set_option maxHeartbeats 1600000 in
set_option maxRecDepth 100000 in
theorem sfind1_any (w : World) (s a q : Int) (u : Value) (l : List Fld) (B : Nat) (hu : SL w (Bw w) u l) (hb : w.cell? ⟨B, 0, none⟩ = some (.int .i64 q)) :
    Calls Try.prog 44 #[.agg #[.int .i64 s, .int .i64 a, u], .pointer (some ⟨B, 0, none⟩)] w fun e w' => e = .returned (.bool (s == q)) ∧ Ext w w' := by
  obtain ⟨A, c, rfl, _⟩ := hu.form
  have Hx0 : Hid (Ext w (w.alloc (.cells #[.int .i64 s, .int .i64 a, .slice A l.length c] 45))) := Lib.hid (Ext.of_alloc _ _)
  have hb2 := Ext.keeps Hx0.out hb
  clear hu hb
  go_enter Try.func44, Try.ntmps44
  go_wp2
  go_ret
  exact ⟨rfl, Hx0.out⟩

/-- the first doc of a number -/
def IdxIs (m : List Doc) (q i : Int) : Prop := (∃ (k : Nat) (h : k < m.length), i = k ∧ (m[k]).1 = q ∧ ∀ j (hj : j < m.length), j < k → (m[j]).1 ≠ q) ∨ (i = -1 ∧ ∀ j (hj : j < m.length), (m[j]).1 ≠ q)
set_option maxHeartbeats 1600000 in
set_option maxRecDepth 100000 in
theorem index_any (w : World) (v : Value) (m : List Doc) (q : Int) (B : Nat) (hv : SL w (Bw w) v m) (hb : w.cell? ⟨B, 0, none⟩ = some (.int .i64 q)) :
    Calls Try.prog 43 #[v, .func (.func 44) #[] #[.pointer (some ⟨B, 0, none⟩)]] w fun e w' => ∃ i : Int, e = .returned (.int .i64 i) ∧ IdxIs m q i ∧ Ext w w' := by
  obtain ⟨A, c, rfl, hc, hm⟩ := hv.form
  have hml : (m.length : Int) ≤ 9223372036854775807 := by unfold maxLen at hm; omega
  have Hv := Lib.hid hv
  have Hb := Lib.hid hb
  clear hv hb
  go_enter Try.func43, Try.ntmps43
  go_wp2_with fail
  go_loopw [8] (fun i wr => ∃ k : Nat, i = .int .i64 k ∧ k ≤ m.length ∧ (∀ j (hj : j < m.length), j < k → (m[j]).1 ≠ q) ∧ Ext w wr) (fun i _ => m.length - (intOf i).toNat)
  case atStart => exact ⟨0, rfl, Nat.zero_le _, (fun j hj h => absurd h (by omega)), Below.refl _ _⟩
  case round =>
    obtain ⟨k, rfl, hk, hf, hx⟩ := hrel
    have Hf := Lib.hid hf
    have Hx := Lib.hid hx
    clear hf
    by_cases hlk : k < m.length
    · have hkl : (k : Int) < m.length := by omega
      obtain ⟨ad, u, rfl, had, d0, d1, d2, hu, h6, h7⟩ := Hv.out.doc_at hlk
      have q0 := Ext.keeps hx d0
      have q1 := Ext.keeps hx d1
      have q2 := Ext.keeps hx d2
      generalize hN : m[k] = N at d0 d1 d2 hu h6 h7 q0 q1 q2
      have HN := Lib.hid hN
      obtain ⟨s, a_, fs⟩ := N
      dsimp only at d0 d1 d2 hu h6 h7 q0 q1 q2
      obtain ⟨Au, cu, rfl, _⟩ := hu.form
      have Hu := Lib.hid (hu.up hx)
      have Hb1 := Lib.hid (Ext.keeps hx Hb.out)
      clear hu h6 h7 d0 d1 d2 hN hx
      go_wp2_with fail
      refine (sfind1_any wr s a_ q _ fs B Hu.out Hb1.out).mono ?_
      rintro e w2 ⟨rfl, hx2⟩
      have Hx2 := Lib.hid (Ext.trans Hx.out hx2)
      clear hx2
      by_cases hs : s = q
      · have hsb : (s == q) = true := by simpa using hs
        have Hs : Hid ((m[k]).1 = q) := Lib.hid (by rw [HN.out]; exact hs)
        rw [hsb]
        clear hs hsb
        go_wp2
        go_ret
        exact ⟨k, rfl, .inl ⟨k, hlk, rfl, Hs.out, Hf.out⟩, Hx2.out⟩
      · have hsb : (s == q) = false := by simpa using hs
        have Hs := Lib.hid hs
        rw [hsb]
        clear hs hsb
        go_wp2
        refine ⟨⟨k + 1, rfl, by omega, fun j hj h => ?_, Hx2.out⟩, by simp only [intOf]; omega⟩
        by_cases hjk : j = k
        · subst hjk
          rw [HN.out]
          exact Hs.out
        · exact Hf.out j hj (by omega)
    · have hkl : ¬(k : Int) < m.length := by omega
      clear hx
      go_wp2
      go_ret
      exact ⟨_, rfl, .inr ⟨rfl, fun j hj => Hf.out j hj (by omega)⟩, Hx.out⟩

set_option maxHeartbeats 1600000 in
set_option maxRecDepth 100000 in
theorem sfind_any (w : World) (v : Value) (bs : List UInt8) (q : Int) (hv : BS w w.heap.size v bs) (hl : bs.length ≤ 90000) :
    Calls Try.prog 21 #[v, .int .i64 q] w fun e w' => ∃ x m E, e = .returned (.tuple #[x, .bool (fndR m q).isSome, .int .i64 (E : Nat)]) ∧ DecIs bs m E ∧ DocV w' (Bw w') x ((fndR m q).getD zD) ∧ Ext w w' := by
  have hX := Ext.al (Ext.of_alloc w (.cells #[.int .i64 q] 3)) (.cells #[.int .i64 0, .int .i64 0, .slice none 0 0] 45)
  have hT := TBox.new (w.alloc (.cells #[.int .i64 q] 3)) 0 0 (.slice none 0 0)
  have hb0 := cell_new w #[.int .i64 q] 3 0 (v := .int .i64 q) rfl
  have HB0 := Lib.hid (Ext.keeps (Ext.of_alloc _ (.cells #[.int .i64 0, .int .i64 0, .slice none 0 0] 45)) hb0)
  rw [World.size_alloc] at hT
  have HX := Lib.hid hX
  have HT := Lib.hid hT
  have Hv := Lib.hid (BS.up' hv hX)
  clear hX hT hb0 hv
  go_enter Try.func21, Try.ntmps21
  go_wp2_with fail
  refine (sdecode_own _ v bs Hv.out hl).mono ?_
  rintro e w1 ⟨u, m, E, rfl, hu, hd, hx⟩
  obtain ⟨A, c, rfl, hc, hm⟩ := hu.form
  have Hx1 := Lib.hid (Ext.trans HX.out hx)
  have HT1 := Lib.hid (HT.out.ext hx)
  have HB1 := Lib.hid (Ext.keeps hx HB0.out)
  have Hu := Lib.hid hu
  have Hd := Lib.hid hd
  clear hx hu
  obtain ⟨c0, c1, c2, f1, f2⟩ := HT1.out.cell
  have f0 := HT1.out.froz
  rcases hd with ⟨hr, hpe, rfl⟩ | ⟨_, rfl, rfl⟩
  · clear hr hpe c0 c1 c2 f1 f2 f0
    go_wp2_with fail
    refine (index_any w1 _ m q w.heap.size (Hu.out.more fun k hk => hk.2) HB1.out).mono ?_
    rintro e w2 ⟨i, rfl, hi, hx⟩
    have Hx2 := Lib.hid (Ext.trans Hx1.out hx)
    have HT2 := Lib.hid (HT1.out.ext hx)
    have Hu2 := Lib.hid (Hu.out.keep (Sm.of_ext hx fun k hk => hk.2))
    have hsz := hx.size
    obtain ⟨c0, c1, c2, f1, f2⟩ := HT2.out.cell
    have f0 := HT2.out.froz
    rcases hi with ⟨k, hk, rfl, he, hfst⟩ | ⟨rfl, hno⟩
    · have Hat := Lib.hid (fndR_at hk he hfst)
      have hki : (k : Int) < m.length := by omega
      have hk0 : decide ((k : Int) < 0) = false := decide_eq_false (by omega)
      obtain ⟨ad, ux, rfl, had, d0, d1, d2, hux, h6, h7⟩ := Hu2.out.doc_at hk
      generalize m[k] = N at d0 d1 d2 hux h6 h7 Hat
      obtain ⟨s, a_, fs⟩ := N
      dsimp only at d0 d1 d2 hux h6 h7
      obtain ⟨Au, cu, rfl, _⟩ := hux.form
      have Hux := Lib.hid hux
      have H6 := Lib.hid h6
      have H7 := Lib.hid h7
      clear hux h6 h7 he hfst hx
      go_wp2
      obtain ⟨e0, e1, e2, _⟩ := (HT2.out.set3 s a_ (.slice Au fs.length cu)).cell
      have hkp := kept123 w2 (w.heap.size + 1) s a_ (.slice Au fs.length cu)
      unfold set3 at e0 e1 e2 hkp
      refine bodyPost_ret (v := .tuple #[.agg #[.int .i64 s, .int .i64 a_, .slice Au fs.length cu], .bool true, .int .i64 0]) (by simp [results, Try.f21, go_sem, e0, e1, e2]) rfl ⟨_, m, 0, by rw [Hat.out]; rfl, Hd.out, ?_, Ext.put Hx2.out hkp (by omega)⟩
      rw [Hat.out]
      exact ⟨_, rfl, (Hux.out.keep (Sm.of_kept hkp fun j hj => ⟨Nat.lt_of_lt_of_le hj.2 hsz, fun e => by have := hj.1; simp at this; omega⟩)).more fun j hj => by have := hj.2; have := hkp.size; omega, H6.out, H7.out⟩
    · have Hat := Lib.hid (fndR_none hno)
      clear hno hx
      go_wp2
      obtain ⟨e0, e1, e2, _⟩ := (HT2.out.set3 0 0 (.slice none 0 0)).cell
      have hkp := kept123 w2 (w.heap.size + 1) 0 0 (.slice none 0 0)
      unfold set3 at e0 e1 e2 hkp
      refine bodyPost_ret (v := .tuple #[.agg #[.int .i64 0, .int .i64 0, .slice none 0 0], .bool false, .int .i64 0]) (by simp [results, Try.f21, go_sem, e0, e1, e2]) rfl ⟨_, m, 0, by rw [Hat.out]; rfl, Hd.out, ?_, Ext.put Hx2.out hkp (by omega)⟩
      rw [Hat.out]
      exact DocV.zero _ _
  · go_wp2
    obtain ⟨e0, e1, e2, _⟩ := (HT1.out.set3 0 0 (.slice none 0 0)).cell
    have hkp := kept123 w1 (w.heap.size + 1) 0 0 (.slice none 0 0)
    unfold set3 at e0 e1 e2 hkp
    exact bodyPost_ret (v := .tuple #[.agg #[.int .i64 0, .int .i64 0, .slice none 0 0], .bool false, .int .i64 120]) (by simp [results, Try.f21, go_sem, e0, e1, e2]) rfl ⟨_, [], 120, rfl, Hd.out, DocV.zero _ _, Ext.put Hx1.out hkp (by omega)⟩
end Go.Proofs.Ytnajmpkdeenkbaa
