/-
  Rows of terms in memory; contract of slices.insertionSortCmpFunc over terms.
  Conditions: those of each statement.
-/
import Derived.Test.YtbnjhpknagkiaaaUf
import Derived.Deep.RegionHeld3
import Derived.Deep.DrawnRows
namespace Go.Proofs.Ytbnjhpknagkiaaa
open Go.RowKit Go.Op

/-- terms' cells -/
def tmF : List Tm → List Value
  | [] => []
  | t :: l => .string ⟨t.1.toArray⟩ :: t.2 :: tmF l
theorem tmF_append : ∀ l m : List Tm, tmF (l ++ m) = tmF l ++ tmF m
  | [], _ => rfl
  | t :: l, m => by simp only [List.cons_append, tmF, tmF_append l m]
theorem tmF_len : ∀ l : List Tm, (tmF l).length = l.length * 2
  | [] => rfl
  | t :: l => by simp only [tmF, List.length_cons, tmF_len l]; omega
theorem tmF_at : ∀ (l : List Tm) (i : Nat) (h : i < l.length), (tmF l)[i * 2]? = some (.string ⟨(l[i]).1.toArray⟩) ∧ (tmF l)[i * 2 + 1]? = some (l[i]).2
  | t :: l, 0, _ => ⟨rfl, rfl⟩
  | t :: l, i + 1, h => by
    have := tmF_at l i (Nat.lt_of_succ_lt_succ h)
    rw [show (i + 1) * 2 = i * 2 + 1 + 1 from by omega]
    simpa [tmF] using this
/-- block g holds these terms from its start on -/
def TR (w : World) (g : Nat) (rs : List Value) (xs : List Tm) : Prop := w.heap[g]? = some (.cells (tmF xs ++ rs).toArray 52 (0, 0))
theorem TR.ext {w w' : World} {g : Nat} {rs : List Value} {xs : List Tm} (h : TR w g rs xs) (hx : Ext w w') : TR w' g rs xs := by
  exact (hx.block g (Array.getElem?_eq_some_iff.1 h).1).trans h
theorem TR.lt {w : World} {g : Nat} {rs : List Value} {xs : List Tm} (h : TR w g rs xs) : g < w.heap.size := by
  exact (Array.getElem?_eq_some_iff.1 h).1
theorem TR.cells {w : World} {g : Nat} {rs : List Value} {xs : List Tm} (h : TR w g rs xs) {i : Nat} (hi : i < xs.length) :
    w.cell? ⟨g, i * 2, none⟩ = some (.string ⟨(xs[i]).1.toArray⟩) ∧ w.cell? ⟨g, i * 2 + 1, none⟩ = some (xs[i]).2 ∧ w.frozen? ⟨g, i * 2, none⟩ = false ∧ w.frozen? ⟨g, i * 2 + 1, none⟩ = false := by
  have h : w.heap[g]? = some (.cells (tmF xs ++ rs).toArray 52 (0, 0)) := h
  obtain ⟨h1, h2⟩ := tmF_at xs i hi
  have hl := tmF_len xs
  refine ⟨?_, ?_, ?_, ?_⟩
  · simp only [World.cell?, h]
    simp [List.getElem?_append_left (show i * 2 < (tmF xs).length by omega), h1]
  · simp only [World.cell?, h]
    simp [List.getElem?_append_left (show i * 2 + 1 < (tmF xs).length by omega), h2]
  · simp [World.frozen?, h]
  · simp [World.frozen?, h]
theorem tmF_set : ∀ (l : List Tm) (rest : List Value) (i : Nat) (_ : i < l.length) (t : Tm), ((tmF l ++ rest).set (i * 2) (.string ⟨t.1.toArray⟩)).set (i * 2 + 1) t.2 = tmF (l.set i t) ++ rest
  | x :: l, rest, 0, _, t => rfl
  | x :: l, rest, i + 1, h, t => by
    have := tmF_set l rest i (Nat.lt_of_succ_lt_succ h) t
    rw [show (i + 1) * 2 = i * 2 + 1 + 1 from by omega]
    simpa [tmF] using this
def put2 (w : World) (g i : Nat) (t : Tm) : World := (w.setCell ⟨g, i * 2, none⟩ (.string ⟨t.1.toArray⟩)).setCell ⟨g, i * 2 + 1, none⟩ t.2
theorem setCell_row {w : World} {g i : Nat} {cs : Array Value} {t : TypeId} (v : Value) (h : w.heap[g]? = some (.cells cs t (0, 0))) : (w.setCell ⟨g, i, none⟩ v).heap[g]? = some (.cells (cs.setIfInBounds i v) t (0, 0)) := by
  obtain ⟨hlt, hk⟩ := Array.getElem?_eq_some_iff.1 h
  show (w.heap.modify g _)[g]? = _
  rw [Array.getElem?_eq_getElem (by rw [Array.size_modify]; exact hlt), Array.getElem_modify_self, hk]
  simp
theorem TR.put {w : World} {g : Nat} {rs : List Value} {xs : List Tm} (h : TR w g rs xs) {i : Nat} (hi : i < xs.length) (t : Tm) : TR (put2 w g i t) g rs (xs.set i t) := by
  have h : w.heap[g]? = some (.cells (tmF xs ++ rs).toArray 52 (0, 0)) := h
  show (put2 w g i t).heap[g]? = _
  unfold put2
  rw [setCell_row _ (setCell_row _ h), List.setIfInBounds_toArray, List.setIfInBounds_toArray, tmF_set xs rs i hi]
theorem kept_put2 (w : World) (g i : Nat) (t : Tm) : Kept (fun k => k = g) w (put2 w g i t) :=
  (Kept.setCell (fun k => k = g) w ⟨g, i * 2, none⟩ _ rfl).trans (Kept.setCell (fun k => k = g) _ ⟨g, i * 2 + 1, none⟩ _ rfl)

/-! ### plain: sorting by putting each behind the lesser ones -/
def ltT (x y : Tm) : Bool := decide (cmpT x.1 y.1 < 0)
/-- rows are read from their end -/
def insR (x : Tm) : List Tm → List Tm
  | [] => [x]
  | y :: q => if ltT x y = true then y :: insR x q else x :: y :: q
def isR : List Tm → List Tm → List Tm
  | acc, [] => acc
  | acc, x :: l => isR (insR x acc) l
def isort (l : List Tm) : List Tm := (isR [] l).reverse
theorem insR_len (x : Tm) : ∀ q, (insR x q).length = q.length + 1
  | [] => rfl
  | y :: q => by
    unfold insR
    split
    · simp [insR_len x q]
    · simp
theorem insR_pass (x : Tm) : ∀ (p q : List Tm), (∀ y ∈ p, ltT x y = true) → insR x (p ++ q) = p ++ insR x q
  | [], _, _ => rfl
  | y :: p, q, h => by
    rw [List.cons_append, insR, if_pos (h y (by simp)), insR_pass x p q fun z hz => h z (by simp [hz])]
    rfl
theorem isR_len : ∀ (l acc : List Tm), (isR acc l).length = acc.length + l.length
  | [], _ => rfl
  | x :: l, acc => by simp only [isR, isR_len l, insR_len, List.length_cons]; omega
/-- two neighbours change places -/
theorem swap_at (a : List Tm) (x y : Tm) (b : List Tm) : ((a ++ y :: x :: b).set (a.length + 1) y).set a.length x = a ++ x :: y :: b := by simp [List.set_append_right]
end Go.Proofs.Ytbnjhpknagkiaaa
