/-
  A row of the call's own grows while others stand: 'GrowO'.
  Conditions: those of each statement.
-/
import Derived.Test.YtbnjhpknagkiaaaDt
namespace Go.Proofs.Ytbnjhpknagkiaaa
open Go.RowKit

/-- v has grown to v': only v's own block was written; v' lies there or in a new block -/
structure GrowO (w w' : World) (v v' : Value) : Prop where
  kept : Kept (fun k => v.ownBlock = some k) w w'
  at_ : ∀ k, v'.ownBlock = some k → v.ownBlock = some k ∨ w.heap.size ≤ k
/-- two rows in different blocks -/
def Apart (u v : Value) : Prop := ∀ k, u.ownBlock = some k → v.ownBlock ≠ some k
theorem Apart.symm {u v : Value} (h : Apart u v) : Apart v u := fun k h1 h2 => h k h2 h1
theorem Apart.nil_ (u : Value) : Apart u (.slice none 0 0) := fun k _ h => by simp [Value.ownBlock] at h
theorem Apart.nil_left (u : Value) : Apart (.slice none 0 0) u := (Apart.nil_ u).symm
section
variable {w w' w'' : World} {u v v' v'' : Value}
theorem GrowO.of_ext (h : Ext w w') (v : Value) : GrowO w w' v v := ⟨Ext.kept h _, fun _ hk => .inl hk⟩
theorem GrowO.append (hg : w.grownBy w' v.ownBlock) (hat : v'.ownBlock = v.ownBlock ∨ v'.ownBlock = some w.heap.size) : GrowO w w' v v' := by
  refine ⟨grown_kept hg fun r hr _ => hr, fun k hk => ?_⟩
  rcases hat with e | e
  · exact .inl (by rw [← e]; exact hk)
  · rw [e] at hk
    injection hk with hk
    exact .inr (by omega)
theorem GrowO.trans (h : GrowO w w' v v') (k : GrowO w' w'' v' v'') : GrowO w w'' v v'' := by
  refine ⟨⟨k.kept.os.trans h.kept.os, k.kept.tape.trans h.kept.tape, k.kept.output.trans h.kept.output, Nat.le_trans h.kept.size k.kept.size, fun i hi ht => ?_⟩, fun i hi => ?_⟩
  · refine (k.kept.block i (Nat.lt_of_lt_of_le hi h.kept.size) fun h' => ?_).trans (h.kept.block i hi ht)
    rcases h.at_ i h' with e | e
    · exact ht e
    · omega
  · rcases k.at_ i hi with e | e
    · exact h.at_ i e
    · exact .inr (Nat.le_trans h.kept.size e)
theorem GrowO.pre (hx : Ext w w') (h : GrowO w' w'' v v') : GrowO w w'' v v' := (GrowO.of_ext hx v).trans h
theorem GrowO.post (h : GrowO w w' v v') (hx : Ext w' w'') : GrowO w w'' v v' := h.trans (GrowO.of_ext hx v')
theorem GrowO.below {base : Nat} (h : GrowO w w' v v') (hb : base ≤ w.heap.size) (hv : ∀ k, v.ownBlock = some k → base ≤ k) : Below base w w' := h.kept.below hb hv
theorem GrowO.ext {base : Nat} {w0 : World} (h : GrowO w w' v v') (hx : Ext w0 w) (hb : base = w0.heap.size) (hv : ∀ k, v.ownBlock = some k → base ≤ k) : Ext w0 w' := by
  subst hb
  exact Below.trans hx (h.below hx.size hv)
theorem GrowO.row {base size n : Nat} {e : TypeId} {xs : List Value} (h : GrowO w w' v v') (ho : w.ownsRow base e size u n xs) (ha : Apart u v) : w'.ownsRow base e size u n xs ∧ Apart u v' := by
  refine ⟨?_, fun k hk hk' => ?_⟩
  · refine ⟨ho.1, ?_⟩
    rcases ho.2 with hn | ⟨g, cap, cur, rfl, hb, hgg, rest⟩
    · exact .inl hn
    · refine .inr ⟨g, cap, cur, rfl, hb, ?_, rest⟩
      rw [h.kept.block g (Array.getElem?_eq_some_iff.1 hgg).1 (ha g rfl)]
      exact hgg
  · rcases h.at_ k hk' with e | e
    · exact ha k hk e
    · have := (World.ownsRow.lt ho k hk).2
      omega
theorem GrowO.own {base : Nat} {xs : List UInt8} (h : GrowO w w' v v') (ho : Own w base u xs) (ha : Apart u v) : Own w' base u xs ∧ Apart u v' := h.row ho ha
end

end Go.Proofs.Ytbnjhpknagkiaaa
