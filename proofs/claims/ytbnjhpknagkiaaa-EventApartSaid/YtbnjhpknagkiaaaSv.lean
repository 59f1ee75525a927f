/-
  Slices of any element: 'SV' (a slice that reads as a list of cells), append in these words.
  Conditions: those of each statement.
-/
import Derived.Test.YtbnjhpknagkiaaaMem
namespace Go.Proofs.Ytbnjhpknagkiaaa
open Go.RowKit

/-- The value v is a slice of n elements of 'size' cells that reads as xs, below block B. -/
def SV (w : World) (B size : Nat) (v : Value) (n : Nat) (xs : List Value) : Prop :=
  ∃ A c, v = .slice A n c ∧ n ≤ c ∧ c ≤ maxLen ∧ (A = none → c = 0) ∧ Rd w B size A n xs

section
variable {w w' : World} {B B' size n : Nat} {v : Value} {xs : List Value}
theorem SV.nil_ (w : World) (B size : Nat) : SV w B size (.slice none 0 0) 0 [] := ⟨none, 0, rfl, by simp, by simp [maxLen], fun _ => rfl, Rd.nil_⟩
theorem SV.below (h : SV w B size v n xs) (hb : Below B w w') : SV w' B size v n xs := by
  obtain ⟨A, c, hv, h1, h2, h3, h4⟩ := h
  exact ⟨A, c, hv, h1, h2, h3, h4.below hb⟩
theorem SV.ext (h : SV w B size v n xs) (hB : B ≤ w.heap.size) (hb : Ext w w') : SV w' B size v n xs := h.below (hb.mono hB)
theorem SV.more (h : SV w B size v n xs) (hB : B ≤ B') : SV w B' size v n xs := by
  obtain ⟨A, c, hv, h1, h2, h3, h4⟩ := h
  exact ⟨A, c, hv, h1, h2, h3, h4.more hB⟩
theorem SV.up (h : SV w w.heap.size size v n xs) (hb : Ext w w') : SV w' w'.heap.size size v n xs := (h.ext (Nat.le_refl _) hb).more hb.size
theorem SV.cut_ {A : Option Addr} {c : Nat} (h : SV w B size (.slice A n c) n xs) {k : Nat} (hk : k ≤ n) :
    SV w B size (.slice (if c = k then A else A.map (·.add (k * size))) (n - k) (c - k)) (n - k) (xs.drop (k * size)) := by
  obtain ⟨A', c', hv, h1, h2, h3, h4⟩ := h
  simp only [Value.slice.injEq] at hv
  obtain ⟨rfl, _, rfl⟩ := hv
  refine ⟨_, _, rfl, by omega, by omega, fun hn => ?_, h4.cut hk h1⟩
  by_cases hck : c = k
  · omega
  · rw [if_neg hck] at hn
    cases A with
    | none => have := h3 rfl; omega
    | some a => cases hn
theorem SV.take_ {A : Option Addr} {c : Nat} (h : SV w B size (.slice A n c) n xs) {k : Nat} (hk : k ≤ n) : SV w B size (.slice A k c) k (xs.take (k * size)) := by
  obtain ⟨A', c', hv, h1, h2, h3, h4⟩ := h
  simp only [Value.slice.injEq] at hv
  obtain ⟨rfl, _, rfl⟩ := hv
  exact ⟨A, c, rfl, by omega, h2, h3, h4.take hk⟩
theorem SV.of_own {base : Nat} {e : TypeId} (h : w.ownsRow base e size v n xs) : SV w w.heap.size size v n xs := by
  obtain ⟨A, c, hv, h1, h2, h3, h4⟩ := ownsRow_form h
  exact ⟨A, c, hv, h1, h2, h3, h4⟩
theorem SV.len (h : SV w B size v n xs) : xs.length = n * size := by
  obtain ⟨A, c, hv, h1, h2, h3, h4⟩ := h
  exact h4.1
/-- a new block as a slice -/
theorem SV.new_ (w : World) (cs : Array Value) (t : TypeId) (size n : Nat) (hn : cs.size = n * size) (hm : n ≤ maxLen := by simp [maxLen]) :
    SV (w.alloc (.cells cs t)) (w.heap.size + 1) size (.slice (some ⟨w.heap.size, 0, none⟩) n n) n cs.toList :=
  ⟨_, _, rfl, Nat.le_refl _, hm, fun h => (by cases h), Rd.new_ w cs t size n hn⟩
end

theorem BS.sv {w : World} {B : Nat} {v : Value} {bs : List UInt8} (h : BS w B v bs) : SV w B 1 v bs.length (bv bs) := h
theorem SV.bs {w : World} {B : Nat} {v : Value} {bs : List UInt8} (h : SV w B 1 v bs.length (bv bs)) : BS w B v bs := h

section
variable (w : World) {ops : Array Oper} {rest : List Oper} {o : Oper} {a : Act} {Q : Exit → Act → World → Prop}
/-- rows of any element type -/
theorem wpList_append_sv {P : Program} (hgd : o.guard = none) (s x : Operand) (t : TypeId)
    (ho : o.op = .call { callee := .builtin .append, args := #[s, x], argTypes := #[t, t] })
    (base : Nat) (e : TypeId) (z : Value) (size bytes : Nat) (ht : P.underlying t = some (.slice e)) (hi : (P.info? e).map (fun i => (i.zero, i.size, i.bytes)) = some (some z, size, bytes)) (hzs : z.cells.size = size) (hsz : 0 < size)
    (v : Value) (n : Nat) (xs : List Value) (hs : a.eval s = v) (hown : w.ownsRow base e size v n xs)
    (B : Nat) (u : Value) (m : Nat) (news : List Value) (hx : a.eval x = u) (hr : SV w B size u m news) (h1 : ∀ u ∈ news, u.oneCell' = true)
    (h63 : n + m ≤ 1000000000) (hby : bytes ≤ 100000) (hbase : base ≤ w.heap.size)
    (h : ∀ v' w', w'.ownsRow base e size v' (n + m) (xs ++ news) → w.grownBy w' v.ownBlock → (v'.ownBlock = v.ownBlock ∨ v'.ownBlock = some w.heap.size) → wpList P ops Q rest (a.put o.dst v') w') : wpList P ops Q (o :: rest) a w := by
  obtain ⟨i0, hi0, hz0, hz1, hz2⟩ := info_parts hi
  obtain ⟨A, c, rfl, _, _, _, hr⟩ := hr
  refine wpList_append_rd w hgd s x _ ho base e i0 z size bytes ht hi0 hz0 hz1 hz2 hzs hsz v _ _ hs hown B A m c _ hx hr h1 (by simp only [maxLen]; omega) ?_ hbase h
  have : (n + m) * bytes ≤ 1000000000 * 100000 := Nat.mul_le_mul h63 hby
  omega
end

theorem owns_ge {w : World} {base : Nat} {e : TypeId} {size : Nat} {v : Value} {n : Nat} {xs : List Value} (h : w.ownsRow base e size v n xs) : ∀ k, v.ownBlock = some k → base ≤ k := fun k hk => (World.ownsRow.lt h k hk).1

end Go.Proofs.Ytbnjhpknagkiaaa
