/-
  Contracts of stored.Count, the law's awake, both Encode in one form.
  Conditions: those of each statement.
-/
import Derived.Test.YtnajmpkdeenkbaaEy
import Derived.Test.YtnajmpkdeenkbaaEi
import Derived.Test.YtnajmpkdeenkbaaEj
import Derived.Test.YtnajmpkdeenkbaaVq
namespace Go.Proofs.Ytnajmpkdeenkbaa
open Go.RowKit Go.Op

theorem BS.up' {w w' : World} {v : Value} {bs : List UInt8} (h : BS w w.heap.size v bs) (hx : Ext w w') : BS w' w'.heap.size v bs := (BS.ext h (Nat.le_refl _) hx).more hx.size
/-- a literal -/
theorem SL.newL {α : Type} [Rep α] (w : World) (cs : Array Value) (t : TypeId) {l : List α} {S : Nat → Prop} (n : Nat) (hn : l.length = n) (hm : n ≤ maxLen) (h : Reps w S cs.toList l) (hS : ∀ k, S k → k < w.heap.size) : SL (w.alloc (.cells cs t)) (Bw (w.alloc (.cells cs t))) (.slice (some ⟨w.heap.size, 0, none⟩) n n) l := by
  subst hn
  have hl := h.len
  refine ⟨_, l.length, cs.toList, rfl, Nat.le_refl _, hm, fun h => (by cases h), ⟨hl, fun _ => ⟨_, rfl, by simp, fun j u hu => ?_⟩⟩, ((h.keep (Sm.of_ext (Ext.of_alloc w _) hS)).more fun k hk => by have := hS k hk; simp; omega)⟩
  have hadd : (⟨w.heap.size, 0, none⟩ : Addr).add j = ⟨w.heap.size, j, none⟩ := by unfold Addr.add; split <;> simp_all
  rw [hadd]
  exact cell_new w cs t j (by simpa using hu)
def encS (l : List Doc) : List UInt8 := if sOk l = true then senc l else []
theorem sencode_any (w : World) (v : Value) (l : List Doc) (hv : SL w (Bw w) v l) (hf : Few l) :
    Calls Try.prog 11 #[v] w fun e w' => ∃ u, e = .returned (.tuple #[u, .int .i64 (errS l)]) ∧ Own w' w.heap.size u (encS l) ∧ Ext w w' := by
  unfold encS errS
  cases h : sOk l with
  | true =>
    obtain ⟨A, c, rfl, _⟩ := hv.form
    have hr : Row l := ⟨h, hv.tms⟩
    refine (sencode_ok w _ l hv hr (by have := hf.dby hr; omega) (by have := hf.len; omega)).mono ?_
    rintro e w1 ⟨u, rfl, ho, hx⟩
    exact ⟨u, rfl, by rw [if_pos rfl]; exact ho, hx⟩
  | false =>
    refine (sencode_bad w v l hv h).mono ?_
    rintro e w1 ⟨rfl, hx⟩
    exact ⟨_, rfl, by rw [if_neg (by decide)]; exact Own.nil_ _ _, hx⟩
theorem srencode_any (w : World) (v : Value) (l : List Doc) (hv : SL w (Bw w) v l) (hf : Few l) :
    Calls Try.prog 12 #[v] w fun e w' => ∃ u, e = .returned (.tuple #[u, .int .i64 (errS l)]) ∧ Own w' w.heap.size u (encS l) ∧ Ext w w' := by
  unfold encS errS
  cases h : sOk l with
  | true =>
    obtain ⟨A, c, rfl, _⟩ := hv.form
    have hr : Row l := ⟨h, hv.tms⟩
    refine (srencode_ok w _ l hv hr (by have := hf.dby hr; omega) (by have := hf.len; omega)).mono ?_
    rintro e w1 ⟨u, rfl, ho, hx⟩
    exact ⟨u, rfl, by rw [if_pos rfl]; exact ho, hx⟩
  | false =>
    refine (srencode_bad w v l hv h).mono ?_
    rintro e w1 ⟨rfl, hx⟩
    exact ⟨_, rfl, by rw [if_neg (by decide)]; exact Own.nil_ _ _, hx⟩
theorem count_any (w : World) (v : Value) (bs : List UInt8) (hv : BS w w.heap.size v bs) (hl : bs.length ≤ 90000) :
    Calls Try.prog 15 #[v] w fun e w' => ∃ (l : List Doc) (E : Nat), e = .returned (.tuple #[.int .i64 l.length, .int .i64 E]) ∧ DecIs bs l E ∧ Ext w w' := by
  have Hv := Lib.hid hv
  clear hv
  go_enter Try.func15, Try.ntmps15
  go_wp2_with fail
  refine (sdecode_any w v bs Hv.out hl).mono ?_
  rintro e w1 ⟨u, l, E, rfl, hs, hd, hx⟩
  obtain ⟨A, c, rfl, _⟩ := hs.form
  go_wp2
  go_ret2
  exact ⟨l, E, rfl, hd, hx⟩
/-- the page's example -/
def pgD : Doc := (1, 0, [])
theorem pg_row : Row [pgD] := ⟨by decide, fun d hd => by
  simp only [List.mem_singleton] at hd
  subst hd
  exact ⟨by decide, by decide⟩⟩
theorem pg_enc : senc [pgD] = [1, 1, 3, 0, 0, 0] := by rfl
theorem pg_few : Few [pgD] := ⟨by decide, fun d hd => by
  simp only [List.mem_singleton] at hd
  subst hd
  decide⟩
theorem nil_row : Row [] := ⟨by decide, fun _ h => by cases h⟩
theorem nil_enc : senc [] = [0] := by rfl

set_option maxHeartbeats 3200000 in
set_option maxRecDepth 100000 in
theorem awake_any (w : World) : Calls Try.prog 9 #[] w fun e w' => e = .returned (.bool true) ∧ Ext w w' := by
  have hx0 : Ext w (w.alloc (.cells #[.int .i64 1, .int .i64 0, .slice none 0 0] 45)) := Ext.of_alloc _ _
  have hsl := SL.newL w #[.int .i64 1, .int .i64 0, .slice none 0 0] 45 (l := [pgD]) (S := fun _ => False) 1 rfl (by simp [maxLen]) (Reps.single (rep_doc (I6.mk (by decide)) (I6.mk (by decide)) (SL.nil_ _ _))) (fun _ h => h.elim)
  have Hx0 := Lib.hid hx0
  have Hsl := Lib.hid hsl
  clear hx0 hsl
  go_enter Try.func9, Try.ntmps9
  go_wp2_with fail
  refine (sencode_ok _ _ [pgD] Hsl.out pg_row (by have := pg_few.dby pg_row; omega) (by decide)).mono ?_
  rintro e w1 ⟨u, rfl, ho, hx1⟩
  rw [pg_enc] at ho
  have Hu := Lib.hid (Own.bs ho)
  have Hx1 := Lib.hid (Ext.trans Hx0.out hx1)
  clear ho hx1
  go_wp2_with fail
  refine (sdecode_any w1 u _ Hu.out (by decide)).mono ?_
  rintro e w2 ⟨d, m, E, rfl, hs, hd, hx2⟩
  obtain ⟨rfl, rfl⟩ := DecIs.same (by decide) hd (.inl ⟨pg_row, pg_enc, rfl⟩)
  have Hd := Lib.hid hs
  have Hu2 := Lib.hid (BS.up' Hu.out hx2)
  have Hx2 := Lib.hid (Ext.trans Hx1.out hx2)
  have hb1 := BS.one w2 0 0 rfl
  have Hb1 := Lib.hid hb1
  have Hx2a := Lib.hid (Ext.of_alloc w2 (.cells #[.int .u8 0] 5))
  clear hs hd hx2 hb1
  go_wp2_with fail
  refine (count_any _ _ [0] (by simpa using Hb1.out) (by decide)).mono ?_
  rintro e w3 ⟨m, E2, rfl, hd2, hx3⟩
  obtain ⟨rfl, rfl⟩ := DecIs.same (by decide) hd2 (.inl ⟨nil_row, nil_enc, rfl⟩)
  have Hxa := Lib.hid (Ext.trans Hx2a.out hx3)
  obtain ⟨Ad, cd, rfl, _⟩ := Hd.out.form
  obtain ⟨ad, u0, rfl, _, d0, _⟩ := (Hd.out.up Hxa.out).doc_at (show 0 < [pgD].length by decide)
  have c1 : (convert 23 9 u).run Try.prog w3 = .ok (.string ⟨#[1, 1, 3, 0, 0, 0]⟩) w3 := str_of_bs (BS.up' Hu2.out Hxa.out) _ rfl
  have d0' : w3.cell? ad = some (.int .i64 1) := by
    have ha : ad.add 0 = ad := by simp [Addr.add]
    have h2 : w3.cell? (ad.add 0) = some (.int .i64 1) := by simpa [pgD] using d0
    rwa [ha] at h2
  have hl1 : [pgD].length = 1 := rfl
  have hl0 : ([] : List Doc).length = 0 := rfl
  rw [hl1, hl0]
  have Hx3 := Lib.hid (Ext.trans Hx2.out Hxa.out)
  clear hd2 hx3 d0 hl1 hl0
  go_wp2
  go_ret
  exact ⟨rfl, Hx3.out⟩
end Go.Proofs.Ytnajmpkdeenkbaa
