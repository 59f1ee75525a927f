/-
  Contracts of Encode (both), Count and the statements' 'awake'.
  Conditions: those of each statement.
-/
import Derived.Test.YtccmhjlniljhcaaQu
import Derived.Test.YtccmhjlniljhcaaQv
namespace Go.Proofs.Ytccmhjlniljhcaa
open Go.RowKit

/-- what Encode leaves -/
def pencE (l : List Post) : List UInt8 := if psOk l = true then penc l else []
def errE (l : List Post) : Nat := if psOk l = true then 0 else 80
theorem encode_any (w : World) (v : Value) (l : List Post) (hv : SL w (Bw w) v l) (hw : wt l ≤ 700000) :
    Calls Try.prog 10 #[v] w fun e w' => ∃ u, e = .returned (.tuple #[u, .int .i64 (errE l)]) ∧ SL w' (Bw w') u (pencE l) ∧ Ext w w' := by
  cases hok : psOk l with
  | false =>
    refine (encode_bad w v l hv hok).mono ?_
    rintro e w' ⟨rfl, hx⟩
    exact ⟨.slice none 0 0, by simp [errE, hok], by simp only [pencE, hok]; exact SL.nil_ _ _, hx⟩
  | true =>
    refine (encode_ok w v l hv hok hw).mono ?_
    rintro e w' ⟨u, rfl, ho, hx⟩
    exact ⟨u, by simp [errE, hok], by simp only [pencE, hok, if_true]; exact (Own.bs ho).sl, hx⟩
theorem rencode_any (w : World) (v : Value) (l : List Post) (hv : SL w (Bw w) v l) (hw : wt l ≤ 700000) :
    Calls Try.prog 11 #[v] w fun e w' => ∃ u, e = .returned (.tuple #[u, .int .i64 (errE l)]) ∧ SL w' (Bw w') u (pencE l) ∧ Ext w w' := by
  cases hok : psOk l with
  | false =>
    refine (rencode_bad w v l hv hok).mono ?_
    rintro e w' ⟨rfl, hx⟩
    exact ⟨.slice none 0 0, by simp [errE, hok], by simp only [pencE, hok]; exact SL.nil_ _ _, hx⟩
  | true =>
    refine (rencode_ok w v l hv hok hw).mono ?_
    rintro e w' ⟨u, rfl, ho, hx⟩
    exact ⟨u, by simp [errE, hok], by simp only [pencE, hok, if_true]; exact (Own.bs ho).sl, hx⟩

set_option maxHeartbeats 800000 in
theorem count_any (w : World) (v : Value) (bs : List UInt8) (hv : BS w w.heap.size v bs) (hl : bs.length ≤ 20000) :
    Calls Try.prog 14 #[v] w fun e w' => ∃ (l : List Post) (E : Nat), e = .returned (.tuple #[.int .i64 l.length, .int .i64 E]) ∧ DecIs bs l E ∧ Ext w w' := by
  have Hv := Lib.hid hv
  clear hv
  go_enter Try.func14, Try.ntmps14
  go_wp2_with fail
  refine (decode_any w v bs Hv.out hl).mono ?_
  rintro e w1 ⟨u, l, E, rfl, hu, hd, hx⟩
  obtain ⟨A, c, rfl, _, _⟩ := hu.form
  go_wp2
  go_ret2
  exact ⟨l, E, rfl, hd, hx⟩

/-- a literal -/
theorem SL.newL {α : Type} [Rep α] (w : World) (cs : Array Value) (t : TypeId) {l : List α} {S : Nat → Prop} (n : Nat) (hn : l.length = n) (hm : n ≤ maxLen) (h : Reps w S cs.toList l) (hS : ∀ k, S k → k < w.heap.size) : SL (w.alloc (.cells cs t)) (Bw (w.alloc (.cells cs t))) (.slice (some ⟨w.heap.size, 0, none⟩) n n) l := by
  subst hn
  have hl := h.len
  refine ⟨_, l.length, cs.toList, rfl, Nat.le_refl _, hm, fun h => (by cases h), ⟨hl, fun _ => ⟨_, rfl, by simp, fun j u hu => ?_⟩⟩, ((h.keep (Sm.of_ext (Ext.of_alloc w _) hS)).more fun k hk => by have := hS k hk; simp; omega)⟩
  have hadd : (⟨w.heap.size, 0, none⟩ : Addr).add j = ⟨w.heap.size, j, none⟩ := by unfold Addr.add; split <;> simp_all
  rw [hadd]
  exact cell_new w cs t j (by simpa using hu)
theorem reps_int (w : World) (S : Nat → Prop) {a : Int} (h : I6 a) : Rep.r w S [.int .i64 a] a := ⟨rfl, h⟩
/-- the page's example -/
def pageP : List Post := [(0, [3, 5]), (2, [0])]
theorem page_enc : penc pageP = [2, 2, 7, 0, 2, 3, 1, 1, 1, 0] ∧ psOk pageP = true := by decide

theorem BS.up' {w w' : World} {v : Value} {bs : List UInt8} (h : BS w w.heap.size v bs) (hx : Ext w w') : BS w' w'.heap.size v bs := (SL.up h.sl hx).bs
theorem page_sl (w : World) : ∃ W : World, W = (((w.alloc (.cells #[.int .i64 3, .int .i64 5] 3)).alloc (.cells #[.int .i64 0] 3)).alloc (.cells #[.int .i64 0, .slice (some ⟨w.heap.size, 0, none⟩) 2 2, .int .i64 2, .slice (some ⟨w.heap.size + 1, 0, none⟩) 1 1] 43)) ∧
    SL W (Bw W) (.slice (some ⟨w.heap.size + 1 + 1, 0, none⟩) 2 2) pageP ∧ Ext w W := by
  refine ⟨_, rfl, ?_, Ext.al (Ext.al (Ext.of_alloc w _) _) _⟩
  have h1 : SL (w.alloc (.cells #[.int .i64 3, .int .i64 5] 3)) (Bw (w.alloc (.cells #[.int .i64 3, .int .i64 5] 3))) (.slice (some ⟨w.heap.size, 0, none⟩) 2 2) ([3, 5] : List Int) :=
    SL.newL w _ _ (S := fun _ => False) 2 rfl (by simp [maxLen]) ⟨[.int .i64 3], [.int .i64 5], rfl, reps_int _ _ (I6.mk (by decide)), Reps.single (reps_int _ _ (I6.mk (by decide)))⟩ (fun _ h => h.elim)
  have h2 := SL.newL (w.alloc (.cells #[.int .i64 3, .int .i64 5] 3)) #[.int .i64 0] 3 (l := ([0] : List Int)) (S := fun _ => False) 1 rfl (by simp [maxLen]) (Reps.single (reps_int _ _ (I6.mk (by decide)))) (fun _ h => h.elim)
  have h1' := SL.up h1 (Ext.of_alloc (w.alloc (.cells #[.int .i64 3, .int .i64 5] 3)) (.cells #[.int .i64 0] 3))
  rw [World.size_alloc] at h2
  have h3 := SL.newL ((w.alloc (.cells #[.int .i64 3, .int .i64 5] 3)).alloc (.cells #[.int .i64 0] 3)) #[.int .i64 0, .slice (some ⟨w.heap.size, 0, none⟩) 2 2, .int .i64 2, .slice (some ⟨w.heap.size + 1, 0, none⟩) 1 1] 43 (l := pageP) 2 rfl (by simp [maxLen])
    ⟨[.int .i64 0, .slice (some ⟨w.heap.size, 0, none⟩) 2 2], _, rfl, rep_post (I6.mk (by decide)) h1', Reps.single (rep_post (I6.mk (by decide)) h2)⟩ (fun _ h => h)
  rw [World.size_alloc, World.size_alloc] at h3
  exact h3

set_option maxHeartbeats 1600000 in
set_option maxRecDepth 100000 in
theorem awake_any (w : World) : Calls Try.prog 16 #[] w fun e w' => e = .returned (.bool true) ∧ Ext w w' := by
  obtain ⟨W, hW, hsl, hxW⟩ := page_sl w
  have Hsl := Lib.hid hsl
  have HxW := Lib.hid hxW
  clear hsl hxW
  go_enter Try.func16, Try.ntmps16
  go_wp2_with fail
  rw [← hW]
  clear hW
  refine (encode_ok W _ pageP Hsl.out page_enc.2 (by decide)).mono ?_
  rintro e w1 ⟨u, rfl, ho, hx⟩
  rw [page_enc.1] at ho
  have Hb1 := Lib.hid (Own.bs ho)
  have Hx1 := Lib.hid (Ext.trans HxW.out hx)
  have Hsl1 := Lib.hid (SL.up Hsl.out hx)
  clear hx ho
  go_wp2_with fail
  have hdi : DecIs [2, 2, 7, 0, 2, 3, 1, 1, 1, 0] pageP 0 := .inl ⟨rfl, page_enc.2, page_enc.1⟩
  have Hdi := Lib.hid hdi
  clear hdi
  refine (decode_any w1 u _ Hb1.out (by decide)).mono ?_
  rintro e w2 ⟨v, l, E, rfl, hv, hd, hx⟩
  obtain ⟨rfl, rfl⟩ := DecIs.unique (by decide) hd Hdi.out
  have Hb2 := Lib.hid (BS.up' Hb1.out hx)
  have Hx2 := Lib.hid (Ext.trans Hx1.out hx)
  have Hsl2 := Lib.hid (SL.up Hsl1.out hx)
  have Hv := Lib.hid hv
  clear hx hv hd
  go_wp2_with fail
  refine (count_any w2 u _ Hb2.out (by decide)).mono ?_
  rintro e w3 ⟨l, E, rfl, hd, hx⟩
  obtain ⟨rfl, rfl⟩ := DecIs.unique (by decide) hd Hdi.out
  have Hb3 := Lib.hid (BS.up' Hb2.out hx)
  have Hx3 := Lib.hid (Ext.trans Hx2.out hx)
  have Hsl3 := Lib.hid (SL.up Hsl2.out hx)
  have Hv3 := Lib.hid (SL.up Hv.out hx)
  have c1 : (convert 23 9 u).run Try.prog w3 = .ok (.string ⟨#[2, 2, 7, 0, 2, 3, 1, 1, 1, 0]⟩) w3 := str_of_bs Hb3.out _ rfl
  clear hx hd
  have hlen : pageP.length = 2 := rfl
  rw [hlen]
  go_wp2_with fail
  refine (rsame_any w3 v _ pageP pageP Hv3.out Hsl3.out).mono ?_
  rintro e w4 ⟨rfl, hx⟩
  rw [decide_eq_true rfl]
  have Hx4 := Lib.hid (Ext.trans Hx3.out hx)
  clear hx
  go_wp2
  go_ret
  exact ⟨rfl, Hx4.out⟩

end Go.Proofs.Ytccmhjlniljhcaa
