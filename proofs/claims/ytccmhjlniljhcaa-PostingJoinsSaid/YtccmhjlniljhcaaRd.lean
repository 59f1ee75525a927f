/-
  Contract of slices.Clone over whole numbers.
  Conditions: at most 1,000,000 numbers.
-/
import Derived.Test.YtccmhjlniljhcaaRc
namespace Go.Proofs.Ytccmhjlniljhcaa
open Go.RowKit

theorem SL.sv {α : Type} [Rep α] {w : World} {v : Value} {l : List α} (h : SL w (Bw w) v l) : ∃ xs, SV w w.heap.size (Rep.n α) v l.length xs ∧ Reps w (Bw w) xs l := by
  obtain ⟨A, c, xs, e, h1, h2, h3, h4, h5⟩ := h
  exact ⟨xs, ⟨A, c, e, h1, h2, h3, h4.rd⟩, h5⟩
/-- a new row of no element, of no room -/
theorem OwnL.empty_ {α : Type} [Rep α] (w : World) (e t : TypeId) (S : Nat → Prop) (he : e = t) : OwnL (α := α) (w.alloc (.cells #[] t)) w.heap.size e S (.slice (some ⟨w.heap.size, 0, none⟩) 0 0) [] := by
  subst he
  exact ⟨[], World.ownsRow_made w #[] 0 (by simp) (by simp [maxLen]) (by simp), rfl⟩
theorem reps_ints {w : World} {S S' : Nat → Prop} : ∀ {l : List Int} {xs : List Value}, Reps w S xs l → Reps w S' xs l
  | [], _, h => h
  | _ :: _, _, h => by
    obtain ⟨cs, rest, e, h1, h2⟩ := h
    exact ⟨cs, rest, e, h1, reps_ints h2⟩
theorem reps_intsW {w w' : World} {S S' : Nat → Prop} : ∀ {l : List Int} {xs : List Value}, Reps w S xs l → Reps w' S' xs l
  | [], _, h => h
  | _ :: _, _, h => by
    obtain ⟨cs, rest, e, h1, h2⟩ := h
    exact ⟨cs, rest, e, h1, reps_intsW h2⟩

set_option maxHeartbeats 400000 in
theorem clonei_any (w : World) (v : Value) (l : List Int) (h : SL w (Bw w) v l) (hl : l.length ≤ 1000000) :
    Calls Try.prog 39 #[v] w fun e w' => ∃ v', e = .returned v' ∧ OwnL w' w.heap.size 3 (fun _ => False) v' l ∧ Ext w w' := by
  obtain ⟨xs, ⟨A, c, rfl, hc, hm, hnil, hr⟩, hreps⟩ := h.sv
  have hq := fun (W : World) => Lib.run_eql_slice_nil (P := Try.prog) W 39 3 A l.length c 0 0 Try.underlying39
  rcases A with _ | ad
  · have hb : l = [] := by
      rcases l with _ | ⟨b, bs⟩
      · rfl
      · obtain ⟨ad, h, _⟩ := hr.2 (by simp)
        cases h
    subst hb
    obtain rfl := hnil rfl
    have hq := fun (W : World) => Lib.run_eql_slice_nil (P := Try.prog) W 39 3 none 0 0 0 0 Try.underlying39
    show Calls Try.prog 39 #[.slice none 0 0] w _
    go_enter Try.func39, Try.ntmps39
    go_wp2
    go_ret
    exact ⟨_, rfl, OwnL.nil_ _ _ _ _, Below.refl _ _⟩
  · have Hsv := Lib.hid (SV.ext ⟨some ad, c, rfl, hc, hm, hnil, hr⟩ (Nat.le_refl _) (Ext.of_alloc w (.cells #[] 3)))
    have Hr := Lib.hid hreps
    clear h hr hreps hnil
    go_enter Try.func39, Try.ntmps39
    go_wp2_with (at_builtin; go_loud (refine wpList_append_l _ rfl (.tmp 5) (.tmp 6) 39 rfl w.heap.size 3 (fun _ => False) (.int .i64 0) 8 Try.underlying39 info_int rfl (by decide) (.slice (some ⟨w.heap.size, 0, none⟩) 0 0) [] rfl (OwnL.empty_ w _ _ _ rfl) w.heap.size _ l xs rfl Hsv.out (reps_intsW Hr.out) (by simp; omega) (by omega) (by simp) ?_; intro v1 w1 hown1 hg1 hat1))
    go_ret
    exact ⟨_, rfl, hown1, ((Below.refl _ _).alloc (Nat.le_refl _) _).grown hg1 (by simp) (by simp [Value.ownBlock])⟩

end Go.Proofs.Ytccmhjlniljhcaa
