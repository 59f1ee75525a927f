/-
  An event, a batch that came in as an argument.
  Conditions: none.
-/
import Derived.Test.YtbnjhpknagkiaaaEc
namespace Go.Proofs.Ytbnjhpknagkiaaa
open Go.RowKit Go.Op

theorem ev_arg {w : World} {v : Value} {x : Ev} {n : Nat} (o : ∃ cs, v = .agg cs ∧ cs.size = n) (h : Rep.r w (Bw w) v.cells.toList x) : ∃ u, v = .agg #[.int .i64 x.1, u] ∧ I6 x.1 ∧ SL w (Bw w) u x.2 := by
  obtain ⟨cs, rfl, _⟩ := o
  obtain ⟨c1, c2, hc, ⟨rfl, h1⟩, ⟨u, rfl, h2⟩⟩ := h
  refine ⟨u, ?_, h1, h2⟩
  have hc' : cs.toList = [.int .i64 x.1] ++ [u] := hc
  rw [show cs = #[.int .i64 x.1, u] from Array.toList_inj.1 hc']
theorem bat_arg {w : World} {v : Value} {x : Int × List Ev} {n : Nat} (o : ∃ cs, v = .agg cs ∧ cs.size = n) (h : Rep.r w (Bw w) v.cells.toList x) : ∃ u, v = .agg #[.int .i64 x.1, u] ∧ I6 x.1 ∧ SL w (Bw w) u x.2 := by
  obtain ⟨cs, rfl, _⟩ := o
  obtain ⟨c1, c2, hc, ⟨rfl, h1⟩, ⟨u, rfl, h2⟩⟩ := h
  refine ⟨u, ?_, h1, h2⟩
  have hc' : cs.toList = [.int .i64 x.1] ++ [u] := hc
  rw [show cs = #[.int .i64 x.1, u] from Array.toList_inj.1 hc']
end Go.Proofs.Ytbnjhpknagkiaaa
