/-
  Contracts of stored.Some and stored.At.
  Conditions: at most 90,000 bytes, 1,000 places.
-/
import Derived.Test.YtnajmpkdeenkbaaHc
import Derived.Test.YtnajmpkdeenkbaaEz
namespace Go.Proofs.Ytnajmpkdeenkbaa
open Go.RowKit Go.Op

/-- why Some refuses -/
def okS (E : Nat) (b : Bool) : Nat := if E = 0 then okE b else E
theorem TBox.setF {W : World} {B : Nat} {s a : Int} {v v' : Value} (h : TBox W B s a v) : TBox (W.setCell ⟨B, 2, none⟩ v') B s a v' := by
  obtain ⟨hlt, hk⟩ := Array.getElem?_eq_some_iff.1 h
  show (W.heap.modify B _)[B]? = _
  rw [Array.getElem?_eq_getElem (by rw [Array.size_modify]; exact hlt), Array.getElem_modify_self, hk]
  rfl
/-- few fields an event has -/
theorem Row.flds {m : List Doc} (h : Row m) : ∀ d ∈ m, d.2.2.length ≤ 16 := by
  intro d hd
  obtain ⟨l1, l2, rfl⟩ := List.append_of_mem hd
  have h1 := h.from_.1
  obtain ⟨_, _, h3, _⟩ := (h1.split).2.cons
  exact (evE_spec h3).1

set_option maxHeartbeats 3200000 in
set_option maxRecDepth 100000 in
theorem ssome_any (w : World) (v u : Value) (bs : List UInt8) (ps : List Int) (hv : BS w w.heap.size v bs) (hu : SL w (Bw w) u ps) (hl : bs.length ≤ 90000) (hpl : ps.length ≤ 1000) :
    Calls Try.prog 22 #[v, u] w fun e w' => ∃ x m E, e = .returned (.tuple #[x, .int .i64 (okS E (someR m ps).isSome : Nat)]) ∧ DecIs bs m E ∧ SL w' (fun k => w.heap.size ≤ k ∧ k < w'.heap.size) x (if E = 0 then (someR m ps).getD [] else []) ∧ Ext w w' := by
  have Hv := Lib.hid hv
  obtain ⟨Ap, cp, rfl, _⟩ := hu.form
  have Hu := Lib.hid hu
  clear hv hu
  go_enter Try.func22, Try.ntmps22
  go_wp2_with fail
  refine (sdecode_own w v bs Hv.out hl).mono ?_
  rintro e w1 ⟨um, m, E, rfl, hm, hd, hx⟩
  obtain ⟨A, c, rfl, hc, hmx⟩ := hm.form
  have Hx1 := Lib.hid hx
  have Hm := Lib.hid hm
  have Hu1 := Lib.hid (Hu.out.up hx)
  have hsz1 := hx.size
  have Hd := Lib.hid hd
  clear hx hm
  rcases hd with ⟨hr, hpe, rfl⟩ | ⟨_, rfl, rfl⟩
  · have Hfl := Lib.hid hr.flds
    clear hr hpe
    go_wp2_with fail
    go_loopw [8, 22] (fun o i wr => ∃ (k : Nat) (L : List Doc), i = .int .i64 k ∧ k ≤ ps.length ∧ L.length = k ∧ someR m (ps.take k) = some L ∧ OwnL wr w1.heap.size 45 (fun k => w1.heap.size ≤ k) o L ∧ Ext w1 wr) (fun _ i _ => ps.length - (intOf i).toNat)
    case atStart => exact ⟨0, [], rfl, Nat.zero_le _, rfl, rfl, OwnL.nil_ _ _ _ _, Below.refl _ _⟩
    case round =>
      obtain ⟨k, L, rfl, hk, hL, hs, hol, hx⟩ := hrel
      obtain ⟨Al, cl, rfl, hclo, hmo⟩ := hol.form
      have hsz := hx.size
      have Hol := Lib.hid hol
      have Hx := Lib.hid hx
      have Hs := Lib.hid hs
      have hLk : L.length ≤ 1000 := by omega
      have HL := Lib.hid hL
      clear hol hs hL
      by_cases hlk : k < ps.length
      · have hkl : (k : Int) < ps.length := by omega
        obtain ⟨ad, rfl, _, d0, h6⟩ := (Hu1.out.up hx).int_at hlk
        obtain ⟨p, hp⟩ : ∃ p, p = ps[k] := ⟨_, rfl⟩
        rw [← hp] at d0 h6
        have Htk : Hid (ps.take (k + 1) = ps.take k ++ [p]) := Lib.hid (by rw [hp]; exact List.take_succ_eq_append_getElem hlk)
        have Hmem : Hid (p ∈ ps) := Lib.hid (by rw [hp]; exact List.getElem_mem hlk)
        clear hp
        by_cases hin : 0 ≤ p ∧ p < m.length
        · obtain ⟨j, rfl⟩ : ∃ j : Nat, p = (j : Int) := ⟨p.toNat, by omega⟩
          have hj : j < m.length := by omega
          have hji : (j : Int) < m.length := by omega
          have hk0 : decide ((j : Int) < 0) = false := decide_eq_false (by omega)
          have hk1 : decide ((m.length : Int) ≤ j) = false := decide_eq_false (by omega)
          have hm2 := Hm.out.keep (Sm.of_ext hx fun k hk => hk.2)
          obtain ⟨am, ux, rfl, ham, q0, q1, q2, hux, h8, h7⟩ := hm2.doc_at hj
          have hat := atR_in hj
          have hfl := Hfl.out _ (List.getElem_mem hj)
          have Hstep := Lib.hid (someR_append m _ _ Hs.out hat)
          generalize m[j] = N at q0 q1 q2 hux h7 h8 Hstep hfl
          obtain ⟨s, a_, fs⟩ := N
          dsimp only at q0 q1 q2 hux h7 h8 hfl
          obtain ⟨Au, cu, rfl, _⟩ := hux.form
          have hx2 := Ext.of_alloc wr (.cells #[.int .i64 s, .int .i64 a_, .slice Au fs.length cu] 45)
          have Hux : Hid (SL (wr.alloc (.cells #[.int .i64 s, .int .i64 a_, .slice Au fs.length cu] 45)) (Bw (wr.alloc (.cells #[.int .i64 s, .int .i64 a_, .slice Au fs.length cu] 45))) (.slice Au fs.length cu) fs) := Lib.hid (SL.up (hux.more fun k hk => Nat.lt_of_lt_of_le hk.2 hsz) hx2)
          have Hx2 := Lib.hid hx2
          have HT2 := Lib.hid (TBox.new wr s a_ (.slice Au fs.length cu))
          obtain ⟨b0, b1, b2, b3, b4⟩ := HT2.out.cell
          clear hux hat hx2 hin hm2 hx
          go_wp2_with fail
          refine (clonef_any _ _ fs Hux.out (by omega)).mono ?_
          rintro e w3 ⟨uc, rfl, hoc, hx3⟩
          obtain ⟨Ac, cc, rfl, _⟩ := hoc.form
          have hsc := hoc.sl_own fun _ _ _ _ => reps_fldsW
          have hT3 := HT2.out.ext hx3
          obtain ⟨t0, t1, t2, tf1, tf2⟩ := hT3.cell
          obtain ⟨z0, z1, z2, _⟩ := (hT3.setF (v' := .slice Ac fs.length cc)).cell
          have hk3 := Kept.setCell (fun k => k = wr.heap.size) w3 ⟨wr.heap.size, 2, none⟩ (.slice Ac fs.length cc) rfl
          have hs3 := (Ext.trans Hx2.out hx3).size
          have hs3b := hx3.size
          rw [World.size_alloc] at hs3b
          have hs4 : (w3.setCell ⟨wr.heap.size, 2, none⟩ (.slice Ac fs.length cc)).heap.size = w3.heap.size := by simp
          have hlto : ∀ k, (Value.slice Al L.length cl).ownBlock = some k → w1.heap.size ≤ k ∧ k < wr.heap.size := by
            intro k hk
            obtain ⟨xs, h1, _⟩ := Hol.out
            exact ⟨Hol.out.ge k hk, (World.ownsRow.lt h1 k hk).2⟩
          have hsv := SV.one_ (w3.setCell ⟨wr.heap.size, 2, none⟩ (.slice Ac fs.length cc)) #[.int .i64 s, .int .i64 a_, .slice Ac fs.length cc] 45 3 rfl
          rw [hs4] at hsv
          have hol6 : OwnL ((w3.setCell ⟨wr.heap.size, 2, none⟩ (.slice Ac fs.length cc)).alloc (.cells #[.int .i64 s, .int .i64 a_, .slice Ac fs.length cc] 45)) w1.heap.size 45 (fun k => w1.heap.size ≤ k) (.slice Al L.length cl) L :=
            (OwnL.kpt (T := fun k => k = wr.heap.size) Hol.out (((Ext.trans Hx2.out hx3).kept _).trans hk3) (fun k hk => .inr (by omega)) (fun k hk => hk)).ext (Ext.of_alloc _ _)
          have hreps : Reps (α := Doc) ((w3.setCell ⟨wr.heap.size, 2, none⟩ (.slice Ac fs.length cc)).alloc (.cells #[.int .i64 s, .int .i64 a_, .slice Ac fs.length cc] 45)) (fun k => w1.heap.size ≤ k ∧ k < ((w3.setCell ⟨wr.heap.size, 2, none⟩ (.slice Ac fs.length cc)).alloc (.cells #[.int .i64 s, .int .i64 a_, .slice Ac fs.length cc] 45)).heap.size ∧ some k ≠ (Value.slice Al L.length cl).ownBlock) [.int .i64 s, .int .i64 a_, .slice Ac fs.length cc] [(s, a_, fs)] := by
            refine Reps.single (rep_doc h8 h7 (((hsc.keep (Sm.of_kept hk3 fun k hk => ⟨hk.2, fun e => by have := hk.1; simp at this; omega⟩)).keep (Sm.of_ext (Ext.of_alloc _ (.cells #[.int .i64 s, .int .i64 a_, .slice Ac fs.length cc] 45)) fun k hk => by have := hk.2; omega)).more fun k hk => ⟨by have := hk.1; simp at this; omega, by have := hk.2; simp; omega, fun e => ?_⟩))
            have := hlto k e.symm
            have := hk.1
            simp at this
            omega
          have Hsv := Lib.hid hsv
          have Hol6 := Lib.hid hol6
          have Hreps := Lib.hid hreps
          have Hlto := Lib.hid hlto
          have hxe : Ext w1 (w3.setCell ⟨wr.heap.size, 2, none⟩ (.slice Ac fs.length cc)) := Ext.put (Ext.trans Hx.out (Ext.trans Hx2.out hx3)) hk3 hsz
          have Hxe := Lib.hid hxe
          have hqb : w1.heap.size ≤ ((w3.setCell ⟨wr.heap.size, 2, none⟩ (.slice Ac fs.length cc)).alloc (.cells #[.int .i64 s, .int .i64 a_, .slice Ac fs.length cc] 45)).heap.size := by rw [World.size_alloc, hs4]; omega
          clear hsv hol6 hreps hlto hxe hx3 hoc hsc hT3 hk3 h7 h8 b0 b1 b2 b3 b4
          go_wp2_with (at_builtin; go_loud (refine wpList_append_l _ rfl (.tmp 44) (.tmp 46) 22 rfl w1.heap.size 45 (fun j => w1.heap.size ≤ j) (.agg #[.int .i64 0, .int .i64 0, .slice none 0 0]) 40 Try.underlying22 info_doc rfl (by decide) (.slice Al L.length cl) L rfl Hol6.out (w3.heap.size + 1) (.slice (some ⟨w3.heap.size, 0, none⟩) 1 1) [(s, a_, fs)] [.int .i64 s, .int .i64 a_, .slice Ac fs.length cc] rfl Hsv.out Hreps.out (by simp; omega) (by omega) hqb ?_; intro v6 w6 hown6 hg6 hat6; generalize hps : L ++ [(s, a_, fs)] = PS at hown6; obtain ⟨A6, c6, rfl, _, _⟩ := hown6.form; have hk6 : Kept (fun j => (Value.slice Al L.length cl).ownBlock = some j) (w3.setCell ⟨wr.heap.size, 2, none⟩ (.slice Ac fs.length cc)) w6 := (Ext.kept (Ext.of_alloc _ _) _).trans (grown_kept hg6 fun r hr _ => hr); have Hps := Lib.hid hps; have Hk6 := Lib.hid hk6; have Hown6 := Lib.hid hown6; clear hps hk6 hown6 hg6 hat6))
          obtain rfl := Hps.out
          have hx6 : Below w1.heap.size (w3.setCell ⟨wr.heap.size, 2, none⟩ (.slice Ac fs.length cc)) w6 := Hk6.out.below Hxe.out.size fun k hk => (Hlto.out k hk).1
          exact ⟨⟨k + 1, _, rfl, by omega, by rw [List.length_append, HL.out]; rfl, by rw [Htk.out]; exact Hstep.out, Hown6.out, Below.trans Hxe.out hx6⟩, by simp only [intOf]; omega⟩
        · have hn : p < 0 ∨ (decide (p < 0) = false ∧ (m.length : Int) ≤ p) := by
            by_cases h : p < 0
            · exact .inl h
            · exact .inr ⟨decide_eq_false h, by omega⟩
          have Hbad := Lib.hid (someR_bad m ps p Hmem.out (atR_out (by omega)))
          have Hxr := Lib.hid (Ext.trans Hx1.out hx)
          clear hin hx
          rcases hn with hn | ⟨hn, hn2⟩
          · go_wp2
            go_ret2
            exact ⟨_, m, 0, by rw [Hbad.out]; rfl, Hd.out, by rw [Hbad.out]; exact SL.nil_ _ _, Hxr.out⟩
          · go_wp2
            go_ret2
            exact ⟨_, m, 0, by rw [Hbad.out]; rfl, Hd.out, by rw [Hbad.out]; exact SL.nil_ _ _, Hxr.out⟩
      · have hkl : ¬(k : Int) < ps.length := by omega
        have hs2 := Hs.out
        rw [List.take_of_length_le (by omega)] at hs2
        have Hs2 := Lib.hid hs2
        clear hs2 hx
        go_wp2
        go_ret2
        exact ⟨_, m, 0, by rw [Hs2.out]; rfl, Hd.out, by rw [Hs2.out]; exact Hol.out.sl_from.more fun k hk => ⟨by omega, hk.2⟩, Ext.trans Hx1.out Hx.out⟩
  · go_wp2
    go_ret2
    exact ⟨_, [], 120, rfl, Hd.out, SL.nil_ _ _, Hx1.out⟩

set_option maxHeartbeats 1600000 in
set_option maxRecDepth 100000 in
theorem sat_any (w : World) (v : Value) (bs : List UInt8) (p : Int) (hv : BS w w.heap.size v bs) (hl : bs.length ≤ 90000) (hp : I6 p) :
    Calls Try.prog 20 #[v, .int .i64 p] w fun e w' => ∃ x m E, e = .returned (.tuple #[x, .int .i64 (okS E (atR m p).isSome : Nat)]) ∧ DecIs bs m E ∧ DocV w' (Bw w') x ((atR m p).getD zD) ∧ Ext w w' := by
  have hX := Ext.al (Ext.of_alloc w (.cells #[.int .i64 0, .int .i64 0, .slice none 0 0] 45)) (.cells #[.int .i64 p] 3)
  have hT := (TBox.new w 0 0 (.slice none 0 0)).ext (Ext.of_alloc _ (.cells #[.int .i64 p] 3))
  have hsl := SL.newL (w.alloc (.cells #[.int .i64 0, .int .i64 0, .slice none 0 0] 45)) #[.int .i64 p] 3 (l := [p]) (S := fun _ => False) 1 rfl (by simp [maxLen]) (Reps.single ⟨rfl, hp⟩) (fun _ h => h.elim)
  rw [World.size_alloc] at hsl
  have HX := Lib.hid hX
  have HT := Lib.hid hT
  have Hs := Lib.hid hsl
  have Hv := Lib.hid (BS.up' hv hX)
  clear hX hT hsl hv hp
  go_enter Try.func20, Try.ntmps20
  go_wp2_with fail
  refine (ssome_any _ v _ bs [p] Hv.out Hs.out hl (by simp)).mono ?_
  rintro e w1 ⟨u, m, E, rfl, hd, hu, hx⟩
  have Hx1 := Lib.hid (Ext.trans HX.out hx)
  have hT1 := HT.out.ext hx
  have HT1 := Lib.hid hT1
  obtain ⟨c0, c1, c2, f1, f2⟩ := hT1.cell
  have f0 := hT1.froz
  have hsp : someR m [p] = (atR m p).map fun d => [d] := by
    unfold someR
    cases atR m p <;> rfl
  rw [hsp] at hu ⊢
  have Hd := Lib.hid hd
  clear hx hT1 hsp
  rcases hd with ⟨hr, hpe, rfl⟩ | ⟨_, rfl, rfl⟩
  · rw [if_pos rfl] at hu
    clear hr hpe
    cases hat : atR m p with
    | some d =>
      have Hat := Lib.hid hat
      rw [hat] at hu
      rw [show okS 0 (Option.map (fun d => [d]) (some d)).isSome = 0 from rfl]
      dsimp only [Option.map_some, Option.getD_some] at hu
      obtain ⟨s, a_, fs⟩ := d
      obtain ⟨A, c, rfl, hc, hm⟩ := hu.form
      obtain ⟨ad, ux, rfl, had, d0, d1, d2, hux, h6, h7⟩ := hu.doc_at (show 0 < [((s, a_, fs) : Doc)].length by simp)
      dsimp only [List.getElem_cons_zero] at d0 d1 d2 hux h6 h7
      obtain ⟨Au, cu, rfl, _⟩ := hux.form
      have ha : ad.add (0 * 3) = ad := by simp [Addr.add]
      rw [ha] at d0 d1 d2
      have hl1 : [((s, a_, fs) : Doc)].length = 1 := rfl
      rw [hl1]
      have Hux := Lib.hid hux
      have H6 := Lib.hid h6
      have H7 := Lib.hid h7
      clear hux h6 h7 hu ha hl1 hc hat
      go_wp2
      obtain ⟨e0, e1, e2, _⟩ := (HT1.out.set3 s a_ (.slice Au fs.length cu)).cell
      have hkp := kept123 w1 w.heap.size s a_ (.slice Au fs.length cu)
      unfold set3 at e0 e1 e2 hkp
      refine bodyPost_ret (v := .tuple #[.agg #[.int .i64 s, .int .i64 a_, .slice Au fs.length cu], .int .i64 0]) (by simp [results, Try.f20, go_sem, e0, e1, e2]) rfl ⟨_, m, 0, by rw [Hat.out]; rfl, Hd.out, ?_, Ext.put Hx1.out hkp (Nat.le_refl _)⟩
      rw [Hat.out]
      exact ⟨_, rfl, (Hux.out.keep (Sm.of_kept hkp fun j hj => ⟨hj.2, fun e => by have := hj.1; simp at this; omega⟩)).more fun j hj => by have := hj.2; have := hkp.size; omega, H6.out, H7.out⟩
    | none =>
      have Hat := Lib.hid hat
      rw [hat] at hu
      rw [show okS 0 (Option.map (fun d => [d]) (none : Option Doc)).isSome = 5 from rfl]
      obtain ⟨A, c, rfl, hc, hm⟩ := hu.form
      clear hu hc hm hat
      go_wp2
      obtain ⟨e0, e1, e2, _⟩ := (HT1.out.set3 0 0 (.slice none 0 0)).cell
      have hkp := kept123 w1 w.heap.size 0 0 (.slice none 0 0)
      unfold set3 at e0 e1 e2 hkp
      exact bodyPost_ret (v := .tuple #[.agg #[.int .i64 0, .int .i64 0, .slice none 0 0], .int .i64 5]) (by simp [results, Try.f20, go_sem, e0, e1, e2]) rfl ⟨_, m, 0, by rw [Hat.out]; rfl, Hd.out, by rw [Hat.out]; exact DocV.zero _ _, Ext.put Hx1.out hkp (Nat.le_refl _)⟩
  · have hat : atR [] p = none := by
      unfold atR
      split <;> rfl
    rw [show okS 120 (Option.map (fun d => [d]) (atR [] p)).isSome = 120 from rfl]
    rw [if_neg (by decide)] at hu
    obtain ⟨A, c, rfl, hc, hm⟩ := hu.form
    have Hat := Lib.hid hat
    clear hu hc hm hat
    go_wp2
    obtain ⟨e0, e1, e2, _⟩ := (HT1.out.set3 0 0 (.slice none 0 0)).cell
    have hkp := kept123 w1 w.heap.size 0 0 (.slice none 0 0)
    unfold set3 at e0 e1 e2 hkp
    exact bodyPost_ret (v := .tuple #[.agg #[.int .i64 0, .int .i64 0, .slice none 0 0], .int .i64 120]) (by simp [results, Try.f20, go_sem, e0, e1, e2]) rfl ⟨_, [], 120, rfl, Hd.out, by rw [Hat.out]; exact DocV.zero _ _, Ext.put Hx1.out hkp (Nat.le_refl _)⟩
end Go.Proofs.Ytnajmpkdeenkbaa
