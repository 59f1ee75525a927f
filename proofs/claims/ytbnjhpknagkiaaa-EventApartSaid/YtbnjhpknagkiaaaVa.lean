/-
  Contracts of package varint's functions that put (Clone, Put, Size).
  Conditions: a row of bytes of at most 1,000,000.
-/
import Derived.Test.YtbnjhpknagkiaaaRows
import Derived.Test.YtbnjhpknagkiaaaMem
import Derived.BigQuiet
namespace Go.Proofs.Ytbnjhpknagkiaaa
open Go.RowKit

set_option maxHeartbeats 400000 in
theorem clone_any (w : World) (B : Nat) (v : Value) (bs : List UInt8) (h : BS w B v bs) (hB : B ≤ w.heap.size) (hl : bs.length ≤ 1000000) :
    Calls Try.prog 63 #[v] w fun e w' => ∃ v', e = .returned v' ∧ Own w' w.heap.size v' bs ∧ Below w.heap.size w w' := by
  obtain ⟨A, c, rfl, hc, hm, hnil, hr⟩ := h
  have hq := fun (W : World) => Lib.run_eql_slice_nil (P := Try.prog) W 25 5 A bs.length c 0 0 Try.underlying25
  rcases A with _ | ad
  · have hb : bs = [] := by
      rcases bs with _ | ⟨b, bs⟩
      · rfl
      · obtain ⟨ad, h, _⟩ := hr.2 (by simp)
        cases h
    subst hb
    obtain rfl := hnil rfl
    have hq := fun (W : World) => Lib.run_eql_slice_nil (P := Try.prog) W 25 5 none 0 0 0 0 Try.underlying25
    show Calls Try.prog 63 #[.slice none 0 0] w _
    go_enter Try.func63, Try.ntmps63
    go_wp2
    go_ret
    exact ⟨_, rfl, Own.nil_ _ _, Below.refl _ _⟩
  · go_enter Try.func63, Try.ntmps63
    go_wp2_with (at_builtin; refine wpList_append_bytes _ rfl (.tmp 5) (.tmp 6) rfl w.heap.size (.slice (some ⟨w.heap.size, 0, none⟩) 0 0) [] rfl (own_empty _ _) B _ bs rfl (BS.ext ⟨some ad, c, rfl, hc, hm, hnil, hr⟩ hB (Ext.of_alloc _ _)) (by simp; omega) (by simp) ?_; intro v1 w1 hown1 hg1 hat1)
    go_ret
    exact ⟨_, rfl, hown1, ((Below.refl _ _).alloc (Nat.le_refl _) _).grown hg1 (by simp) (by simp [Value.ownBlock])⟩

end Go.Proofs.Ytbnjhpknagkiaaa
