/-
  Data in memory, by type: 'Rep α' (how many cells an element has, and that these cells read as it, its references leading into blocks of S alone), slices of such ('SL'), rows of the call's own ('OwnL'), append in these words.
  Conditions: those of each statement.
-/
import Derived.Test.YtbnjhpknagkiaaaSv
import Derived.OwnWalkIn
namespace Go.Proofs.Ytbnjhpknagkiaaa
open Go.RowKit

/-- whatever block of S lay lies as it lay -/
def Sm (S : Nat → Prop) (w w' : World) : Prop := ∀ k, S k → w'.heap[k]? = w.heap[k]?
theorem Sm.of_below {S : Nat → Prop} {w w' : World} {B : Nat} (h : Below B w w') (hS : ∀ k, S k → k < B) : Sm S w w' := fun k hk => h.block k (hS k hk)
theorem Sm.of_ext {S : Nat → Prop} {w w' : World} (h : Ext w w') (hS : ∀ k, S k → k < w.heap.size) : Sm S w w' := fun k hk => h.block k (hS k hk)
theorem Sm.of_grown {S : Nat → Prop} {w w' : World} {row : Option Nat} (h : w.grownBy w' row) (hS : ∀ k, S k → k < w.heap.size ∧ some k ≠ row) : Sm S w w' := fun k hk => h.block k (hS k hk).1 (hS k hk).2

/-- n elements of 'size' cells at A are the cells xs; they lie in a block of S -/
def RdS (w : World) (S : Nat → Prop) (size : Nat) (A : Option Addr) (n : Nat) (xs : List Value) : Prop :=
  xs.length = n * size ∧ (0 < n → ∃ ad, A = some ad ∧ S ad.block ∧ ∀ j u, xs[j]? = some u → w.cell? (ad.add j) = some u)
theorem Rd.s {w : World} {B size n : Nat} {A : Option Addr} {xs : List Value} (h : Rd w B size A n xs) : RdS w (· < B) size A n xs := h
theorem RdS.rd {w : World} {B size n : Nat} {A : Option Addr} {xs : List Value} (h : RdS w (· < B) size A n xs) : Rd w B size A n xs := h
theorem RdS.nil_ {w : World} {S : Nat → Prop} {size : Nat} {A : Option Addr} : RdS w S size A 0 [] := ⟨by simp, fun h => absurd h (by omega)⟩
section
variable {w w' : World} {S S' : Nat → Prop} {size n : Nat} {A : Option Addr} {xs : List Value}
theorem RdS.keep (h : RdS w S size A n xs) (hk : Sm S w w') : RdS w' S size A n xs :=
  ⟨h.1, fun hn => by
    obtain ⟨ad, e, hb, hc⟩ := h.2 hn
    exact ⟨ad, e, hb, fun j u hu => (World.cell?_of_block (by rw [addBlock]; exact hk _ hb)).trans (hc j u hu)⟩⟩
theorem RdS.more (h : RdS w S size A n xs) (hS : ∀ k, S k → S' k) : RdS w S' size A n xs :=
  ⟨h.1, fun hn => by
    obtain ⟨ad, e, hb, hc⟩ := h.2 hn
    exact ⟨ad, e, hS _ hb, hc⟩⟩
theorem RdS.take {k : Nat} (h : RdS w S size A n xs) (hk : k ≤ n) : RdS w S size A k (xs.take (k * size)) := by
  refine ⟨by rw [List.length_take, h.1]; exact Nat.min_eq_left (Nat.mul_le_mul_right _ hk), fun hn => ?_⟩
  obtain ⟨ad, e, hb, hc⟩ := h.2 (by omega)
  refine ⟨ad, e, hb, fun j u hu => hc j u ?_⟩
  rw [List.getElem?_take] at hu
  split at hu
  · exact hu
  · cases hu
theorem RdS.cut (h : RdS w S size A n xs) {k cap : Nat} (hk : k ≤ n) (hc : n ≤ cap) :
    RdS w S size (if cap = k then A else A.map (·.add (k * size))) (n - k) (xs.drop (k * size)) := by
  refine ⟨by rw [List.length_drop, h.1, Nat.sub_mul], fun hn => ?_⟩
  obtain ⟨ad, rfl, hb, hcell⟩ := h.2 (by omega)
  rw [if_neg (by omega)]
  refine ⟨ad.add (k * size), rfl, by rw [addBlock]; exact hb, fun j u hu => ?_⟩
  rw [addAdd]
  exact hcell _ u (by rw [← hu, List.getElem?_drop])
end

/-- data of a type, in cells -/
class Rep (α : Type) where
  n : Nat
  r : World → (Nat → Prop) → List Value → α → Prop
  len : ∀ {w S cs a}, r w S cs a → cs.length = n
  keep : ∀ {w w' S cs a}, r w S cs a → Sm S w w' → r w' S cs a
  more : ∀ {w S S' cs a}, r w S cs a → (∀ k, S k → S' k) → r w S' cs a
  one : ∀ {w S cs a}, r w S cs a → ∀ u ∈ cs, u.oneCell' = true

/-- a number of 64 bits with a sign -/
def I6 (a : Int) : Prop := -9223372036854775808 ≤ a ∧ a ≤ 9223372036854775807
theorem I6.le {a : Int} (h : I6 a) : -9223372036854775808 ≤ a ∧ a ≤ 9223372036854775807 := h
theorem I6.mk {a : Int} (h : -9223372036854775808 ≤ a ∧ a ≤ 9223372036854775807) : I6 a := h

instance : Rep Int where
  n := 1
  r _ _ cs a := cs = [.int .i64 a] ∧ I6 a
  len := fun h => by rw [h.1]; rfl
  keep := fun h _ => h
  more := fun h _ => h
  one := fun h u hu => by
    rw [h.1] at hu
    simp only [List.mem_singleton] at hu
    subst hu
    rfl
instance : Rep UInt8 where
  n := 1
  r _ _ cs a := cs = [.int .u8 (a.toNat : Int)]
  len := fun h => by rw [h]; rfl
  keep := fun h _ => h
  more := fun h _ => h
  one := fun h u hu => by
    rw [h] at hu
    simp only [List.mem_singleton] at hu
    subst hu
    rfl
/-- a text -/
structure Tx where
  b : List UInt8
deriving DecidableEq
instance : Rep Tx where
  n := 1
  r _ _ cs a := cs = [.string ⟨a.b.toArray⟩] ∧ a.b.length ≤ maxLen
  len := fun h => by rw [h.1]; rfl
  keep := fun h _ => h
  more := fun h _ => h
  one := fun h u hu => by
    rw [h.1] at hu
    simp only [List.mem_singleton] at hu
    subst hu
    rfl
instance {α β : Type} [Rep α] [Rep β] : Rep (α × β) where
  n := Rep.n α + Rep.n β
  r w S cs a := ∃ c1 c2, cs = c1 ++ c2 ∧ Rep.r w S c1 a.1 ∧ Rep.r w S c2 a.2
  len := fun ⟨c1, c2, h, h1, h2⟩ => by rw [h, List.length_append, Rep.len h1, Rep.len h2]
  keep := fun ⟨c1, c2, h, h1, h2⟩ k => ⟨c1, c2, h, Rep.keep h1 k, Rep.keep h2 k⟩
  more := fun ⟨c1, c2, h, h1, h2⟩ k => ⟨c1, c2, h, Rep.more h1 k, Rep.more h2 k⟩
  one := fun ⟨c1, c2, h, h1, h2⟩ u hu => by
    rw [h, List.mem_append] at hu
    rcases hu with hu | hu
    · exact Rep.one h1 u hu
    · exact Rep.one h2 u hu

/-- cells that read as a list's elements, one behind the other -/
def Reps {α : Type} [Rep α] (w : World) (S : Nat → Prop) : List Value → List α → Prop
  | xs, [] => xs = []
  | xs, a :: l => ∃ cs rest, xs = cs ++ rest ∧ Rep.r w S cs a ∧ Reps w S rest l
section
variable {α : Type} [Rep α] {w w' : World} {S S' : Nat → Prop}
theorem Reps.nil_ : Reps (α := α) w S [] [] := rfl
theorem Reps.len : ∀ {l : List α} {xs : List Value}, Reps w S xs l → xs.length = l.length * Rep.n α
  | [], xs, h => by rw [show xs = [] from h]; simp
  | a :: l, xs, h => by
    obtain ⟨cs, rest, rfl, h1, h2⟩ := h
    rw [List.length_append, Rep.len h1, Reps.len h2, List.length_cons, Nat.succ_mul, Nat.add_comm]
theorem Reps.keep : ∀ {l : List α} {xs : List Value}, Reps w S xs l → Sm S w w' → Reps w' S xs l
  | [], xs, h, _ => h
  | a :: l, xs, h, k => by
    obtain ⟨cs, rest, e, h1, h2⟩ := h
    exact ⟨cs, rest, e, Rep.keep h1 k, Reps.keep h2 k⟩
theorem Reps.more : ∀ {l : List α} {xs : List Value}, Reps w S xs l → (∀ k, S k → S' k) → Reps w S' xs l
  | [], xs, h, _ => h
  | a :: l, xs, h, k => by
    obtain ⟨cs, rest, e, h1, h2⟩ := h
    exact ⟨cs, rest, e, Rep.more h1 k, Reps.more h2 k⟩
theorem Reps.one : ∀ {l : List α} {xs : List Value}, Reps w S xs l → ∀ u ∈ xs, u.oneCell' = true
  | [], xs, h, u, hu => by rw [show xs = [] from h] at hu; cases hu
  | a :: l, xs, h, u, hu => by
    obtain ⟨cs, rest, rfl, h1, h2⟩ := h
    rcases List.mem_append.1 hu with hu | hu
    · exact Rep.one h1 u hu
    · exact Reps.one h2 u hu
theorem Reps.append : ∀ {l m : List α} {xs ys : List Value}, Reps w S xs l → Reps w S ys m → Reps w S (xs ++ ys) (l ++ m)
  | [], m, xs, ys, h, k => by rw [show xs = [] from h]; exact k
  | a :: l, m, xs, ys, h, k => by
    obtain ⟨cs, rest, rfl, h1, h2⟩ := h
    exact ⟨cs, rest ++ ys, by simp, h1, Reps.append h2 k⟩
theorem Reps.single {cs : List Value} {a : α} (h : Rep.r w S cs a) : Reps w S cs [a] := ⟨cs, [], by simp, h, rfl⟩
theorem Reps.snoc {l : List α} {xs cs : List Value} {a : α} (h : Reps w S xs l) (ha : Rep.r w S cs a) : Reps w S (xs ++ cs) (l ++ [a]) := h.append (Reps.single ha)
theorem Reps.take : ∀ {l : List α} {xs : List Value} (k : Nat), Reps w S xs l → Reps w S (xs.take (k * Rep.n α)) (l.take k)
  | [], xs, k, h => by rw [show xs = [] from h]; simp [Reps]
  | a :: l, xs, 0, h => by simp [Reps]
  | a :: l, xs, k + 1, h => by
    obtain ⟨cs, rest, rfl, h1, h2⟩ := h
    have hl := Rep.len h1
    refine ⟨cs, rest.take (k * Rep.n α), ?_, h1, Reps.take k h2⟩
    rw [Nat.succ_mul, Nat.add_comm, ← hl, List.take_length_add_append]
theorem Reps.drop : ∀ {l : List α} {xs : List Value} (k : Nat), Reps w S xs l → Reps w S (xs.drop (k * Rep.n α)) (l.drop k)
  | [], xs, k, h => by rw [show xs = [] from h]; simp [Reps]
  | a :: l, xs, 0, h => by simpa using h
  | a :: l, xs, k + 1, h => by
    obtain ⟨cs, rest, rfl, h1, h2⟩ := h
    have hl := Rep.len h1
    rw [Nat.succ_mul, Nat.add_comm, ← hl, List.drop_length_add_append, List.drop_succ_cons, hl]
    exact Reps.drop k h2
theorem Reps.at_ {l : List α} {xs : List Value} (h : Reps w S xs l) {i : Nat} (hi : i < l.length) : Rep.r w S ((xs.drop (i * Rep.n α)).take (Rep.n α)) l[i] := by
  have h1 := h.drop i
  rw [List.drop_eq_getElem_cons hi] at h1
  obtain ⟨cs, rest, e, h2, _⟩ := h1
  rw [e, ← Rep.len h2, List.take_left]
  exact h2
end

/-- The value v is a slice that reads as l; all that it leads to lies in blocks of S. -/
def SL {α : Type} [Rep α] (w : World) (S : Nat → Prop) (v : Value) (l : List α) : Prop :=
  ∃ A c xs, v = .slice A l.length c ∧ l.length ≤ c ∧ c ≤ maxLen ∧ (A = none → c = 0) ∧ RdS w S (Rep.n α) A l.length xs ∧ Reps w S xs l
/-- the blocks that lie -/
abbrev Bw (w : World) : Nat → Prop := fun k => k < w.heap.size
section
variable {α : Type} [Rep α] {w w' : World} {S S' : Nat → Prop} {v : Value} {l : List α}
theorem SL.nil_ (w : World) (S : Nat → Prop) : SL (α := α) w S (.slice none 0 0) [] := ⟨none, 0, [], rfl, by simp, by simp [maxLen], fun _ => rfl, RdS.nil_, rfl⟩
theorem SL.keep (h : SL w S v l) (hk : Sm S w w') : SL w' S v l := by
  obtain ⟨A, c, xs, e, h1, h2, h3, h4, h5⟩ := h
  exact ⟨A, c, xs, e, h1, h2, h3, h4.keep hk, h5.keep hk⟩
theorem SL.more (h : SL w S v l) (hS : ∀ k, S k → S' k) : SL w S' v l := by
  obtain ⟨A, c, xs, e, h1, h2, h3, h4, h5⟩ := h
  exact ⟨A, c, xs, e, h1, h2, h3, h4.more hS, h5.more hS⟩
theorem SL.up (h : SL w (Bw w) v l) (hx : Ext w w') : SL w' (Bw w') v l := (h.keep (Sm.of_ext hx fun _ hk => hk)).more fun _ hk => Nat.lt_of_lt_of_le hk hx.size
theorem SL.ext {B : Nat} (h : SL w (· < B) v l) (hB : B ≤ w.heap.size) (hx : Ext w w') : SL w' (· < B) v l := h.keep (Sm.of_ext hx fun _ hk => Nat.lt_of_lt_of_le hk hB)
theorem SL.below {B : Nat} (h : SL w (· < B) v l) (hx : Below B w w') : SL w' (· < B) v l := h.keep (Sm.of_below hx fun _ hk => hk)
theorem SL.form (h : SL w S v l) : ∃ A c, v = .slice A l.length c ∧ l.length ≤ c ∧ c ≤ maxLen := by
  obtain ⟨A, c, xs, e, h1, h2, h3, h4, h5⟩ := h
  exact ⟨A, c, e, h1, h2⟩
theorem SL.one_ (h : SL w S v l) : v.oneCell' = true := by
  obtain ⟨A, c, rfl, _⟩ := h.form
  rfl
theorem SL.take_ {A : Option Addr} {c : Nat} (h : SL w S (.slice A l.length c) l) {k : Nat} (hk : k ≤ l.length) : SL w S (.slice A k c) (l.take k) := by
  obtain ⟨A', c', xs, e, h1, h2, h3, h4, h5⟩ := h
  simp only [Value.slice.injEq] at e
  obtain ⟨rfl, _, rfl⟩ := e
  have e2 : (l.take k).length = k := by rw [List.length_take]; omega
  refine ⟨A, c, xs.take (k * Rep.n α), by rw [e2], by omega, h2, h3, ?_, h5.take k⟩
  rw [e2]
  exact h4.take hk
theorem SL.cut_ {A : Option Addr} {c : Nat} (h : SL w S (.slice A l.length c) l) {k : Nat} (hk : k ≤ l.length) :
    SL w S (.slice (if c = k then A else A.map (·.add (k * Rep.n α))) (l.length - k) (c - k)) (l.drop k) := by
  obtain ⟨A', c', xs, e, h1, h2, h3, h4, h5⟩ := h
  simp only [Value.slice.injEq] at e
  obtain ⟨rfl, _, rfl⟩ := e
  refine ⟨_, _, xs.drop (k * Rep.n α), by rw [List.length_drop], by rw [List.length_drop]; omega, by omega, fun hn => ?_, ?_, h5.drop k⟩
  · by_cases hck : c = k
    · omega
    · rw [if_neg hck] at hn
      cases A with
      | none => have := h3 rfl; omega
      | some a => cases hn
  · rw [List.length_drop]
    exact h4.cut hk h1
/-- an element, where it lies -/
theorem SL.at_ {A : Option Addr} {c n : Nat} (h : SL w S (.slice A n c) l) {i : Nat} (hi : i < l.length) :
    ∃ ad cs, A = some ad ∧ S ad.block ∧ Rep.r w S cs l[i] ∧ ∀ j u, cs[j]? = some u → w.cell? (ad.add (i * Rep.n α + j)) = some u := by
  obtain ⟨A', c', xs, e, h1, h2, h3, h4, h5⟩ := h
  simp only [Value.slice.injEq] at e
  obtain ⟨rfl, _, _⟩ := e
  obtain ⟨ad, rfl, had, hc⟩ := h4.2 (by omega)
  refine ⟨ad, _, rfl, had, h5.at_ hi, fun j u hu => hc _ u ?_⟩
  rw [List.getElem?_take] at hu
  split at hu
  · rw [← hu, List.getElem?_drop]
  · cases hu
theorem SL.len_eq {A : Option Addr} {c n : Nat} (h : SL w S (.slice A n c) l) : n = l.length := by
  obtain ⟨A', c', e, _⟩ := h.form
  simp only [Value.slice.injEq] at e
  exact e.2.1
end
instance {α : Type} [Rep α] : Rep (List α) where
  n := 1
  r w S cs l := ∃ v, cs = [v] ∧ SL w S v l
  len := fun ⟨v, h, _⟩ => by rw [h]; rfl
  keep := fun ⟨v, h, h1⟩ k => ⟨v, h, h1.keep k⟩
  more := fun ⟨v, h, h1⟩ k => ⟨v, h, h1.more k⟩
  one := fun ⟨v, h, h1⟩ u hu => by
    rw [h] at hu
    simp only [List.mem_singleton] at hu
    subst hu
    exact h1.one_

/-! ### bytes -/
theorem reps_bytes (w : World) (S : Nat → Prop) : ∀ bs : List UInt8, Reps w S (bv bs) bs
  | [] => rfl
  | b :: bs => ⟨[.int .u8 (b.toNat : Int)], bv bs, rfl, rfl, reps_bytes w S bs⟩
theorem bytes_reps {w : World} {S : Nat → Prop} : ∀ {bs : List UInt8} {xs : List Value}, Reps w S xs bs → xs = bv bs
  | [], xs, h => h
  | b :: bs, xs, h => by
    obtain ⟨cs, rest, rfl, h1, h2⟩ := h
    rw [show cs = [.int .u8 (b.toNat : Int)] from h1, bytes_reps h2]
    rfl
theorem BS.sl {w : World} {B : Nat} {v : Value} {bs : List UInt8} (h : BS w B v bs) : SL w (· < B) v bs := by
  obtain ⟨A, c, e, h1, h2, h3, h4⟩ := h
  exact ⟨A, c, bv bs, e, h1, h2, h3, h4, reps_bytes w _ bs⟩
theorem SL.bs {w : World} {B : Nat} {v : Value} {bs : List UInt8} (h : SL w (· < B) v bs) : BS w B v bs := by
  obtain ⟨A, c, xs, e, h1, h2, h3, h4, h5⟩ := h
  rw [bytes_reps h5] at h4
  exact ⟨A, c, e, h1, h2, h3, h4⟩

/-! ### rows of the call's own -/
/-- The value v is a row of the call's own (from block 'base' on) that holds l; its elements' references lead into blocks of S, none into the row's own block. -/
def OwnL {α : Type} [Rep α] (w : World) (base : Nat) (e : TypeId) (S : Nat → Prop) (v : Value) (l : List α) : Prop :=
  ∃ xs, w.ownsRow base e (Rep.n α) v l.length xs ∧ Reps w (fun k => S k ∧ k < w.heap.size ∧ some k ≠ v.ownBlock) xs l
section
variable {α : Type} [Rep α] {w w' : World} {base : Nat} {e : TypeId} {S S' : Nat → Prop} {v : Value} {l : List α}
theorem OwnL.nil_ (w : World) (base : Nat) (e : TypeId) (S : Nat → Prop) : OwnL (α := α) w base e S (.slice none 0 0) [] := ⟨[], World.ownsRow_nil _ _ _ _, rfl⟩
theorem OwnL.kept {row : Option Nat} (h : OwnL w base e S v l) (hg : w.grownBy w' row) (hne : v.ownBlock = none ∨ v.ownBlock ≠ row) (hS : ∀ r, row = some r → S r → w.heap.size ≤ r) : OwnL w' base e S v l := by
  obtain ⟨xs, h1, h2⟩ := h
  refine ⟨xs, h1.kept hg hne, (h2.keep (Sm.of_grown hg fun k hk => ⟨hk.2.1, fun he => ?_⟩)).more fun k hk => ⟨hk.1, Nat.lt_of_lt_of_le hk.2.1 hg.size, hk.2.2⟩⟩
  have := hS k he.symm hk.1
  omega
theorem OwnL.ext (h : OwnL w base e S v l) (hx : Ext w w') : OwnL w' base e S v l := by
  obtain ⟨xs, h1, h2⟩ := h
  exact ⟨xs, ownsRow_ext h1 hx, (h2.keep (Sm.of_ext hx fun k hk => hk.2.1)).more fun k hk => ⟨hk.1, Nat.lt_of_lt_of_le hk.2.1 hx.size, hk.2.2⟩⟩
theorem OwnL.base_ {base' : Nat} (h : OwnL w base e S v l) (hb : base' ≤ base) : OwnL w base' e S v l := by
  obtain ⟨xs, h1, h2⟩ := h
  exact ⟨xs, ownsRow_base h1 hb, h2⟩
theorem OwnL.more (h : OwnL w base e S v l) (hS : ∀ k, S k → S' k) : OwnL w base e S' v l := by
  obtain ⟨xs, h1, h2⟩ := h
  exact ⟨xs, h1, h2.more fun k hk => ⟨hS k hk.1, hk.2⟩⟩
theorem OwnL.ge (h : OwnL w base e S v l) : ∀ k, v.ownBlock = some k → base ≤ k := by
  obtain ⟨xs, h1, _⟩ := h
  exact owns_ge h1
theorem OwnL.sl (h : OwnL w base e S v l) : SL w (Bw w) v l := by
  obtain ⟨xs, h1, h2⟩ := h
  obtain ⟨A, c, hv, k1, k2, k3, k4⟩ := ownsRow_form h1
  exact ⟨A, c, xs, hv, k1, k2, k3, k4, h2.more fun k hk => hk.2.1⟩
theorem OwnL.form (h : OwnL w base e S v l) : ∃ A c, v = .slice A l.length c ∧ l.length ≤ c ∧ c ≤ maxLen := h.sl.form
/-- a row of numbers leads nowhere -/
theorem OwnL.sl_own (h : OwnL w base e S v l) (hl : ∀ w S xs (m : List α), Reps w S xs m → Reps w (fun _ => False) xs m) : SL w (fun k => base ≤ k ∧ k < w.heap.size) v l := by
  obtain ⟨xs, h1, h2⟩ := h
  obtain ⟨A, c, hv, k1, k2, k3, k4⟩ := ownsRow_form h1
  refine ⟨A, c, xs, hv, k1, k2, k3, ⟨k4.1, fun hn => ?_⟩, (hl _ _ _ _ h2).more fun k hk => hk.elim⟩
  obtain ⟨ad, e, hb, hc⟩ := k4.2 hn
  refine ⟨ad, e, ⟨?_, hb⟩, hc⟩
  exact owns_ge h1 ad.block (by rw [hv, e]; rfl)
theorem OwnL.appended {m : List α} {xs news : List Value} {v' : Value} (h2 : Reps w (fun k => S k ∧ k < w.heap.size ∧ some k ≠ v.ownBlock) xs l) (hm : Reps w (fun k => S k ∧ k < w.heap.size ∧ some k ≠ v.ownBlock) news m)
    (hown' : w'.ownsRow base e (Rep.n α) v' (l.length + m.length) (xs ++ news)) (hg : w.grownBy w' v.ownBlock) (hat : v'.ownBlock = v.ownBlock ∨ v'.ownBlock = some w.heap.size) : OwnL w' base e S v' (l ++ m) := by
  refine ⟨xs ++ news, by rw [List.length_append]; exact hown', ?_⟩
  refine ((h2.append hm).keep (Sm.of_grown hg fun k hk => hk.2)).more fun k hk => ⟨hk.1, Nat.lt_of_lt_of_le hk.2.1 hg.size, ?_⟩
  rcases hat with e | e
  · rw [e]; exact hk.2.2
  · rw [e]
    intro e'
    injection e' with e'
    have := hk.2.1
    omega
end

section
variable (w : World) {ops : Array Oper} {rest : List Oper} {o : Oper} {a : Act} {Q : Exit → Act → World → Prop} {α : Type} [Rep α]
/-- append, in a plain walk -/
theorem wpList_append_l {P : Program} (hgd : o.guard = none) (s x : Operand) (t : TypeId)
    (ho : o.op = .call { callee := .builtin .append, args := #[s, x], argTypes := #[t, t] })
    (base : Nat) (e : TypeId) (S : Nat → Prop) (z : Value) (bytes : Nat) (ht : P.underlying t = some (.slice e)) (hi : (P.info? e).map (fun i => (i.zero, i.size, i.bytes)) = some (some z, Rep.n α, bytes)) (hzs : z.cells.size = Rep.n α) (hsz : 0 < Rep.n α)
    (v : Value) (l : List α) (hs : a.eval s = v) (hown : OwnL w base e S v l)
    (B : Nat) (u : Value) (m : List α) (news : List Value) (hx : a.eval x = u) (hr : SV w B (Rep.n α) u m.length news) (hm : Reps w (fun k => S k ∧ k < w.heap.size ∧ some k ≠ v.ownBlock) news m)
    (h63 : l.length + m.length ≤ 1000000000) (hby : bytes ≤ 100000) (hbase : base ≤ w.heap.size)
    (h : ∀ v' w', OwnL w' base e S v' (l ++ m) → w.grownBy w' v.ownBlock → (v'.ownBlock = v.ownBlock ∨ v'.ownBlock = some w.heap.size) → wpList P ops Q rest (a.put o.dst v') w') : wpList P ops Q (o :: rest) a w := by
  obtain ⟨xs, h1, h2⟩ := hown
  refine wpList_append_sv w hgd s x t ho base e z (Rep.n α) bytes ht hi hzs hsz v l.length xs hs h1 B u m.length news hx hr hm.one h63 hby hbase fun v' w' h3 h4 h5 => h v' w' ?_ h4 h5
  exact OwnL.appended h2 hm h3 h4 h5

/-- append, in a walk within a fence -/
theorem wpListIn_append_l {F : Fence} {nn : Nat} {P : Program} (hgd : o.guard = none) (s x : Operand) (t : TypeId)
    (ho : o.op = .call { callee := .builtin .append, args := #[s, x], argTypes := #[t, t] })
    (base : Nat) (e : TypeId) (S : Nat → Prop) (z : Value) (bytes : Nat) (ht : P.underlying t = some (.slice e)) (hi : (P.info? e).map (fun i => (i.zero, i.size, i.bytes)) = some (some z, Rep.n α, bytes)) (hzs : z.cells.size = Rep.n α) (hsz : 0 < Rep.n α)
    (v : Value) (l : List α) (hs : a.eval s = v) (hown : OwnL w base e S v l)
    (B : Nat) (u : Value) (m : List α) (news : List Value) (hx : a.eval x = u) (hr : SV w B (Rep.n α) u m.length news) (hm : Reps w (fun k => S k ∧ k < w.heap.size ∧ some k ≠ v.ownBlock) news m)
    (h63 : l.length + m.length ≤ 1000000000) (hby : bytes ≤ 100000) (hbase : base ≤ w.heap.size)
    (h : ∀ v' w', OwnL w' base e S v' (l ++ m) → w.grownBy w' v.ownBlock → (v'.ownBlock = v.ownBlock ∨ v'.ownBlock = some w.heap.size) → wpListIn F nn P ops Q rest (a.put o.dst v') w') : wpListIn F nn P ops Q (o :: rest) a w := by
  obtain ⟨xs, h1, h2⟩ := hown
  obtain ⟨i0, hi0, hz0, hz1, hz2⟩ := info_parts hi
  obtain ⟨A, c, rfl, _, _, _, hr⟩ := hr
  have hb : (l.length + m.length) * bytes ≤ 1000000000 * 100000 := Nat.mul_le_mul h63 hby
  obtain ⟨v', w', hrun, r1, r2, r3⟩ := run_append_rd (P := P) w base t o.type e i0 z (Rep.n α) bytes ht hi0 hz0 hz1 hz2 hzs hsz v l.length xs h1 B A m.length c news hr hm.one (by simp only [maxLen]; omega) (by omega) hbase
  refine wpListIn_plain hgd fun K hK => ?_
  unfold Oper.wpIn
  refine ⟨?_, ?_⟩
  · simp [Oper.about, ho, resolve, Target.leads, Sem.run_pure]
  · rw [Oper.semAt_plain F _ _ (by rw [ho]; intro c hc; cases hc)]
    simp [execOp, ho, resolve, invoke, builtin, hs, hx, hrun, Result.andThen]
    exact hK _ _ (h v' w' (OwnL.appended h2 hm r1 r2 r3) r2 r3)

/-- 'append(b, c...)' on bytes, in a walk within a fence -/
theorem wpListIn_append_bytes {F : Fence} {nn : Nat} (hgd : o.guard = none) (s x : Operand)
    (ho : o.op = .call { callee := .builtin .append, args := #[s, x], argTypes := #[25, 25] })
    (base : Nat) (v : Value) (xs : List UInt8) (hs : a.eval s = v) (hown : Own w base v xs)
    (B : Nat) (u : Value) (ys : List UInt8) (hx : a.eval x = u) (hr : BS w B u ys)
    (hlen : xs.length + ys.length ≤ 100000000) (hbase : base ≤ w.heap.size)
    (h : ∀ v' w', Own w' base v' (xs ++ ys) → w.grownBy w' v.ownBlock → (v'.ownBlock = v.ownBlock ∨ v'.ownBlock = some w.heap.size) → wpListIn F nn Try.prog ops Q rest (a.put o.dst v') w') : wpListIn F nn Try.prog ops Q (o :: rest) a w := by
  obtain ⟨i0, hi0, hz0, hz1, hz2⟩ := info_parts info_u8
  obtain ⟨A, c, rfl, _, _, _, hr⟩ := hr
  obtain ⟨v', w', hrun, r1, r2, r3⟩ := run_append_rd (P := Try.prog) w base 25 o.type 5 i0 (.int .u8 0) 1 1 Try.underlying25 hi0 hz0 hz1 hz2 rfl (by omega) v xs.length (bv xs) hown B A ys.length c (bv ys) hr (bv_one ys) (by simp only [maxLen]; omega) (by omega) hbase
  refine wpListIn_plain hgd fun K hK => ?_
  unfold Oper.wpIn
  refine ⟨?_, ?_⟩
  · simp [Oper.about, ho, resolve, Target.leads, Sem.run_pure]
  · rw [Oper.semAt_plain F _ _ (by rw [ho]; intro c hc; cases hc)]
    simp [execOp, ho, resolve, invoke, builtin, hs, hx, hrun, Result.andThen]
    refine hK _ _ (h v' w' ?_ r2 r3)
    unfold Own
    rw [bv_append, List.length_append]
    exact r1
end

/-- the cells of one struct, new, as a slice of one -/
theorem SV.one_ (w : World) (cs : Array Value) (t : TypeId) (size : Nat) (h : cs.size = size) : SV (w.alloc (.cells cs t)) (w.heap.size + 1) size (.slice (some ⟨w.heap.size, 0, none⟩) 1 1) 1 cs.toList :=
  SV.new_ w cs t size 1 (by omega)

/-! ### new memory -/
theorem Ext.al {w W : World} (h : Ext w W) (o : Obj) : Ext w (W.alloc o) := Below.alloc h h.size o
theorem Ext.sc {w W : World} {p : Addr} {u : Value} (h : Ext w W) (hp : w.heap.size ≤ p.block) : Ext w (W.setCell p u) := Below.setCell h hp u
theorem Ext.dr {w W : World} (h : Ext w W) : Ext w W.drew := Below.drew h
theorem Ext.drN {w W : World} (h : Ext w W) (n : Nat) : Ext w (W.drewN n) := Ext.trans h (Ext.drewN W n)

theorem cell_new (w : World) (cs : Array Value) (t : TypeId) (i : Nat) {v : Value} (h : cs[i]? = some v) : (w.alloc (.cells cs t)).cell? ⟨w.heap.size, i, none⟩ = some v := by
  rw [World.cell?_alloc_at _ _ _ _ rfl]
  exact h
theorem Ext.keeps {w W : World} (h : Ext w W) {p : Addr} {v : Value} (hc : w.cell? p = some v) : W.cell? p = some v := (h.cell (World.block_lt_of_cell? _ _ hc)).trans hc
theorem own_set {W : World} {b k : Nat} {v x : Value} {bs : List UInt8} (h : Own W b v bs) (hk : k < b) : Own (W.setCell ⟨k, 0, none⟩ x) b v bs := ownsRow_setCell_below h hk x
/-- a literal of one element -/
theorem SL.new1 {α : Type} [Rep α] (w : World) (cs : Array Value) (t : TypeId) {a : α} {S : Nat → Prop} (h : Rep.r w S cs.toList a) (hS : ∀ k, S k → k < w.heap.size) : SL (w.alloc (.cells cs t)) (Bw (w.alloc (.cells cs t))) (.slice (some ⟨w.heap.size, 0, none⟩) 1 1) [a] := by
  have hl := Rep.len h
  refine ⟨_, 1, cs.toList, rfl, Nat.le_refl _, by simp [maxLen], fun h => (by cases h), ⟨by simpa using hl, fun _ => ⟨_, rfl, by simp, fun j u hu => ?_⟩⟩, Reps.single (Rep.more (Rep.keep h (Sm.of_ext (Ext.of_alloc w _) hS)) fun k hk => by have := hS k hk; simp; omega)⟩
  have hadd : (⟨w.heap.size, 0, none⟩ : Addr).add j = ⟨w.heap.size, j, none⟩ := by unfold Addr.add; split <;> simp_all
  rw [hadd]
  exact cell_new w cs t j (by simpa using hu)

/-! ### all but some blocks -/
/-- what lies in blocks outside of T lies as it lay -/
structure Kept (T : Nat → Prop) (w w' : World) : Prop where
  os : w'.os = w.os
  tape : w'.tape = w.tape
  output : w'.output = w.output
  size : w.heap.size ≤ w'.heap.size
  block : ∀ k, k < w.heap.size → ¬T k → w'.heap[k]? = w.heap[k]?
section
variable {w w' w'' : World} {T T' : Nat → Prop}
theorem Kept.refl (T : Nat → Prop) (w : World) : Kept T w w := ⟨rfl, rfl, rfl, Nat.le_refl _, fun _ _ _ => rfl⟩
theorem Kept.trans (h : Kept T w w') (k : Kept T w' w'') : Kept T w w'' :=
  ⟨k.os.trans h.os, k.tape.trans h.tape, k.output.trans h.output, Nat.le_trans h.size k.size, fun i hi ht => (k.block i (Nat.lt_of_lt_of_le hi h.size) ht).trans (h.block i hi ht)⟩
theorem Kept.more (h : Kept T w w') (ht : ∀ k, k < w.heap.size → T k → T' k) : Kept T' w w' := ⟨h.os, h.tape, h.output, h.size, fun k hk hn => h.block k hk fun h' => hn (ht k hk h')⟩
theorem Ext.kept (h : Ext w w') (T : Nat → Prop) : Kept T w w' := ⟨h.os, h.tape, h.output, h.size, fun k hk _ => h.block k hk⟩
theorem Kept.ext (h : Kept T w w') (ht : ∀ k, k < w.heap.size → ¬T k) : Ext w w' := ⟨h.os, h.tape, h.output, h.size, fun k hk => h.block k hk (ht k hk)⟩
theorem Kept.below {B : Nat} (h : Kept T w w') (hB : B ≤ w.heap.size) (ht : ∀ k, T k → B ≤ k) : Below B w w' :=
  ⟨h.os, h.tape, h.output, h.size, fun k hk => h.block k (by omega) fun h' => by have := ht k h'; omega⟩
theorem Below.kept {B : Nat} (h : Below B w w') : Kept (fun k => B ≤ k) w w' := ⟨h.os, h.tape, h.output, h.size, fun k _ hn => h.block k (by omega)⟩
theorem Kept.setCell (T : Nat → Prop) (w : World) (p : Addr) (u : Value) (hp : T p.block) : Kept T w (w.setCell p u) :=
  ⟨rfl, rfl, rfl, by simp [World.setCell], fun k _ ht => Below.heap_setCell _ _ _ _ (fun e => ht (by rw [e]; exact hp))⟩
theorem grown_kept {row : Option Nat} (h : w.grownBy w' row) (hT : ∀ r, row = some r → r < w.heap.size → T r) : Kept T w w' :=
  ⟨h.os, h.tape, h.output, h.size, fun k hk ht => h.block k hk fun e => ht (hT k e.symm hk)⟩
theorem Sm.of_kept {S : Nat → Prop} (h : Kept T w w') (hS : ∀ k, S k → k < w.heap.size ∧ ¬T k) : Sm S w w' := fun k hk => h.block k (hS k hk).1 (hS k hk).2
theorem Kept.sm {S : Nat → Prop} (h : Kept T w w') (hS : ∀ k, S k → k < w.heap.size ∧ ¬T k) : Sm S w w' := fun k hk => h.block k (hS k hk).1 (hS k hk).2
end

end Go.Proofs.Ytbnjhpknagkiaaa
