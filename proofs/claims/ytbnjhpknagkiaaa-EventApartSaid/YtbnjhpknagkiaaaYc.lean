/-
  Plain: terms ordered by text and then by place; merging two ordered parts.
  Conditions: those of each statement.
-/
import Derived.Test.YtbnjhpknagkiaaaUg
namespace Go.Proofs.Ytbnjhpknagkiaaa

theorem cmp_self : ∀ s : List UInt8, cmpT s s = 0
  | [] => rfl
  | a :: s => by
    show Lib.compareBytes (a :: s) (a :: s) = 0
    rw [Lib.compareBytes, if_neg (UInt8.lt_irrefl a), if_neg (UInt8.lt_irrefl a)]
    exact cmp_self s
theorem cmp_anti : ∀ s t : List UInt8, cmpT t s = -cmpT s t
  | [], [] => rfl
  | [], _ :: _ => rfl
  | _ :: _, [] => rfl
  | a :: s, b :: t => by
    show Lib.compareBytes (b :: t) (a :: s) = -Lib.compareBytes (a :: s) (b :: t)
    rw [Lib.compareBytes, Lib.compareBytes]
    by_cases h1 : a < b
    · rw [if_pos h1, if_neg (UInt8.lt_asymm h1), if_pos h1]
      rfl
    · by_cases h2 : b < a
      · rw [if_pos h2, if_neg h1, if_pos h2]
      · rw [if_neg h2, if_neg h1, if_neg h1, if_neg h2]
        exact cmp_anti s t
theorem cmp_eq0 : ∀ s t : List UInt8, cmpT s t = 0 → s = t
  | [], [], _ => rfl
  | [], _ :: _, h => by cases h
  | _ :: _, [], h => by cases h
  | a :: s, b :: t, h => by
    have h : Lib.compareBytes (a :: s) (b :: t) = 0 := h
    rw [Lib.compareBytes] at h
    by_cases h1 : a < b
    · rw [if_pos h1] at h
      cases h
    · rw [if_neg h1] at h
      by_cases h2 : b < a
      · rw [if_pos h2] at h
        cases h
      · rw [if_neg h2] at h
        rw [UInt8.le_antisymm (UInt8.not_lt.1 h2) (UInt8.not_lt.1 h1), cmp_eq0 s t h]
theorem cmp_trans : ∀ a b c : List UInt8, cmpT a b < 0 → cmpT b c < 0 → cmpT a c < 0
  | [], [], _, h, _ => by cases h
  | _ :: _, [], _, h, _ => by cases h
  | _, _ :: _, [], _, h => by cases h
  | [], _ :: _, _ :: _, _, _ => by show (-1 : Int) < 0; decide
  | x :: a, y :: b, z :: c, h, k => by
    replace h : Lib.compareBytes (x :: a) (y :: b) < 0 := h
    replace k : Lib.compareBytes (y :: b) (z :: c) < 0 := k
    show Lib.compareBytes (x :: a) (z :: c) < 0
    rw [Lib.compareBytes] at h k ⊢
    by_cases h1 : x < y
    · by_cases k1 : y < z
      · rw [if_pos (UInt8.lt_trans h1 k1)]; decide
      · rw [if_neg k1] at k
        by_cases k2 : z < y
        · rw [if_pos k2] at k
          cases k
        · have e := UInt8.le_antisymm (UInt8.not_lt.1 k2) (UInt8.not_lt.1 k1)
          subst e
          rw [if_pos h1]; decide
    · rw [if_neg h1] at h
      by_cases h2 : y < x
      · rw [if_pos h2] at h
        cases h
      · rw [if_neg h2] at h
        have e := UInt8.le_antisymm (UInt8.not_lt.1 h2) (UInt8.not_lt.1 h1)
        subst e
        by_cases k1 : x < z
        · rw [if_pos k1]; decide
        · rw [if_neg k1] at k ⊢
          by_cases k2 : z < x
          · rw [if_pos k2] at k
            cases k
          · rw [if_neg k2] at k ⊢
            exact cmp_trans a b c h k

/-- by text, then by place in the order of coming -/
def LX (ix : Tm → Nat) (x y : Tm) : Prop := cmpT x.1 y.1 < 0 ∨ (x.1 = y.1 ∧ ix x < ix y)
section
variable {ix : Tm → Nat} {x y z : Tm}
theorem LX.trans (h : LX ix x y) (k : LX ix y z) : LX ix x z := by
  rcases h with h | ⟨h, h2⟩
  · rcases k with k | ⟨k, k2⟩
    · exact .inl (cmp_trans _ _ _ h k)
    · exact .inl (k ▸ h)
  · rcases k with k | ⟨k, k2⟩
    · exact .inl (h ▸ k)
    · exact .inr ⟨h.trans k, Nat.lt_trans h2 k2⟩
theorem LX.irrefl : ¬LX ix x x := by
  rintro (h | ⟨_, h⟩)
  · rw [cmp_self] at h
    cases h
  · exact Nat.lt_irrefl _ h
theorem LX.asymm (h : LX ix x y) : ¬LX ix y x := fun k => LX.irrefl (h.trans k)
theorem lx_of_le (h : ¬cmpT y.1 x.1 < 0) (hi : ix x < ix y) : LX ix x y := by
  by_cases h1 : cmpT x.1 y.1 < 0
  · exact .inl h1
  · have := cmp_anti x.1 y.1
    exact .inr ⟨cmp_eq0 _ _ (by omega), hi⟩
/-- x not behind y by text, y ahead of z -/
theorem LX.le_trans (h : ¬cmpT y.1 x.1 < 0) (k : LX ix y z) (hi : ix x < ix z) : LX ix x z := by
  by_cases h1 : cmpT x.1 y.1 < 0
  · exact (show LX ix x y from .inl h1).trans k
  · have := cmp_anti x.1 y.1
    have e := cmp_eq0 x.1 y.1 (by omega)
    rcases k with k | ⟨k, _⟩
    · exact .inl (e ▸ k)
    · exact .inr ⟨e.trans k, hi⟩
theorem LX.trans_le (h : LX ix x y) (k : ¬cmpT z.1 y.1 < 0) (hi : ix x < ix z) : LX ix x z := by
  by_cases h1 : cmpT y.1 z.1 < 0
  · exact h.trans (show LX ix y z from .inl h1)
  · have := cmp_anti y.1 z.1
    have e := cmp_eq0 y.1 z.1 (by omega)
    rcases h with h | ⟨h, _⟩
    · exact .inl (e ▸ h)
    · exact .inr ⟨h.trans e, hi⟩
theorem LX.lt_trans (h : cmpT x.1 y.1 < 0) (k : LX ix y z) : LX ix x z := (show LX ix x y from .inl h).trans k
end

abbrev So (ix : Tm → Nat) (l : List Tm) : Prop := l.Pairwise (LX ix)
/-- where the two parts may be cut: all ahead on the left are ahead of all behind on the right -/
theorem cut1 {ix : Tm → Nat} {A B : List Tm} (hA : So ix A) (hB : So ix B) (hix : ∀ x ∈ A, ∀ y ∈ B, ix x < ix y) (k l : Nat)
    (h : k = 0 ∨ B.length ≤ l ∨ ∀ x y, A[k - 1]? = some x → B[l]? = some y → ¬cmpT y.1 x.1 < 0) (hk : k ≤ A.length) : ∀ x ∈ A.take k, ∀ y ∈ B.drop l, LX ix x y := by
  intro x hx y hy
  obtain ⟨i, hi, rfl⟩ := List.mem_iff_getElem.1 hx
  obtain ⟨j, hj, rfl⟩ := List.mem_iff_getElem.1 hy
  rw [List.length_take] at hi
  rw [List.length_drop] at hj
  rw [List.getElem_take, List.getElem_drop]
  have hxy : ix A[i] < ix B[l + j] := hix _ (List.getElem_mem _) _ (List.getElem_mem _)
  rcases h with h | h | h
  · omega
  · omega
  · have h0 := h A[k - 1] B[l] (List.getElem?_eq_getElem (by omega)) (List.getElem?_eq_getElem (by omega))
    have hkl : ix A[k - 1] < ix B[l] := hix _ (List.getElem_mem _) _ (List.getElem_mem _)
    have h1 : LX ix A[k - 1] B[l] := lx_of_le h0 hkl
    have h2 : LX ix A[i] B[l] := by
      by_cases he : i = k - 1
      · subst he
        exact h1
      · exact (List.pairwise_iff_getElem.1 hA i (k - 1) (by omega) (by omega) (by omega)).trans h1
    by_cases he : j = 0
    · subst he
      exact h2
    · exact h2.trans (List.pairwise_iff_getElem.1 hB l (l + j) (by omega) (by omega) (by omega))
/-- all ahead on the right are ahead of all behind on the left -/
theorem cut2 {ix : Tm → Nat} {A B : List Tm} (hA : So ix A) (hB : So ix B) (k l : Nat)
    (h : l = 0 ∨ A.length ≤ k ∨ ∀ x y, A[k]? = some x → B[l - 1]? = some y → cmpT y.1 x.1 < 0) (hl : l ≤ B.length) : ∀ y ∈ B.take l, ∀ x ∈ A.drop k, LX ix y x := by
  intro y hy x hx
  obtain ⟨i, hi, rfl⟩ := List.mem_iff_getElem.1 hx
  obtain ⟨j, hj, rfl⟩ := List.mem_iff_getElem.1 hy
  rw [List.length_drop] at hi
  rw [List.length_take] at hj
  rw [List.getElem_take, List.getElem_drop]
  rcases h with h | h | h
  · omega
  · omega
  · have h0 : LX ix B[l - 1] A[k] := .inl (h A[k] B[l - 1] (List.getElem?_eq_getElem (by omega)) (List.getElem?_eq_getElem (by omega)))
    have h2 : LX ix B[j] A[k] := by
      by_cases he : j = l - 1
      · subst he
        exact h0
      · exact (List.pairwise_iff_getElem.1 hB j (l - 1) (by omega) (by omega) (by omega)).trans h0
    by_cases he : i = 0
    · subst he
      exact h2
    · exact h2.trans (List.pairwise_iff_getElem.1 hA k (k + i) (by omega) (by omega) (by omega))
/-- parts put together -/
theorem merged {ix : Tm → Nat} {A1 A2 B1 B2 Z1 Z2 : List Tm} (hA : So ix (A1 ++ A2)) (hB : So ix (B1 ++ B2)) (h1 : ∀ x ∈ A1, ∀ y ∈ B2, LX ix x y) (h2 : ∀ y ∈ B1, ∀ x ∈ A2, LX ix y x)
    (p1 : Z1.Perm (A1 ++ B1)) (p2 : Z2.Perm (A2 ++ B2)) (s1 : So ix Z1) (s2 : So ix Z2) : (Z1 ++ Z2).Perm ((A1 ++ A2) ++ (B1 ++ B2)) ∧ So ix (Z1 ++ Z2) := by
  refine ⟨?_, List.pairwise_append.2 ⟨s1, s2, fun x hx y hy => ?_⟩⟩
  · refine (p1.append p2).trans ?_
    rw [List.append_assoc, List.append_assoc]
    refine List.Perm.append_left A1 ?_
    rw [← List.append_assoc, ← List.append_assoc]
    exact List.Perm.append_right B2 List.perm_append_comm
  · have hx := p1.mem_iff.1 hx
    have hy := p2.mem_iff.1 hy
    rcases List.mem_append.1 hx with hx | hx
    · rcases List.mem_append.1 hy with hy | hy
      · exact (List.pairwise_append.1 hA).2.2 _ hx _ hy
      · exact h1 _ hx _ hy
    · rcases List.mem_append.1 hy with hy | hy
      · exact h2 _ hx _ hy
      · exact (List.pairwise_append.1 hB).2.2 _ hx _ hy
/-- two ordered rows of the same members are one -/
theorem so_uniq {ix : Tm → Nat} : ∀ {l m : List Tm}, So ix l → So ix m → l.Perm m → l = m
  | [], m, _, _, h => h.nil_eq
  | x :: l, [], _, _, h => absurd h.length_eq (by simp)
  | x :: l, y :: m, hl, hm, h => by
    have hl' := List.pairwise_cons.1 hl
    have hm' := List.pairwise_cons.1 hm
    have e : x = y := by
      rcases List.mem_cons.1 (h.mem_iff.1 (List.mem_cons_self (a := x) (l := l))) with e | h1
      · exact e
      · rcases List.mem_cons.1 (h.mem_iff.2 (List.mem_cons_self (a := y) (l := m))) with e | h2
        · exact e.symm
        · exact absurd (hl'.1 _ h2) (hm'.1 _ h1).asymm
    subst e
    rw [so_uniq hl'.2 hm'.2 (h.cons_inv)]
/-! ### the elder sort is one -/
theorem insR_perm (x : Tm) : ∀ q : List Tm, (insR x q).Perm (x :: q)
  | [] => List.Perm.refl _
  | y :: q => by
    unfold insR
    split
    · exact ((insR_perm x q).cons y).trans (List.Perm.swap _ _ _)
    · exact List.Perm.refl _
theorem isR_perm : ∀ (l acc : List Tm), (isR acc l).Perm (acc ++ l)
  | [], acc => by simp [isR]
  | x :: l, acc => by
    refine (isR_perm l (insR x acc)).trans ?_
    refine ((insR_perm x acc).append_right l).trans ?_
    rw [List.cons_append]
    exact (List.perm_middle).symm
theorem isort_perm (l : List Tm) : (isort l).Perm l := by
  refine (List.reverse_perm _).trans ?_
  simpa using isR_perm l []
/-- read from the end -/
abbrev Ro (ix : Tm → Nat) (l : List Tm) : Prop := l.Pairwise fun x y => LX ix y x
theorem insR_ro {ix : Tm → Nat} (x : Tm) : ∀ q : List Tm, Ro ix q → (∀ y ∈ q, ix y < ix x) → Ro ix (insR x q)
  | [], _, _ => List.pairwise_singleton _ _
  | y :: q, h, hi => by
    have h' := List.pairwise_cons.1 h
    unfold insR
    split
    · rename_i hlt
      have hlt : cmpT x.1 y.1 < 0 := of_decide_eq_true hlt
      refine List.pairwise_cons.2 ⟨fun z hz => ?_, insR_ro x q h'.2 fun z hz => hi z (by simp [hz])⟩
      rcases List.mem_cons.1 ((insR_perm x q).mem_iff.1 hz) with e | hz
      · rw [e]
        exact .inl hlt
      · exact h'.1 z hz
    · rename_i hlt
      have hlt : ¬cmpT x.1 y.1 < 0 := fun e => hlt (decide_eq_true e)
      have hyx : LX ix y x := lx_of_le hlt (hi y (by simp))
      refine List.pairwise_cons.2 ⟨fun z hz => ?_, h⟩
      rcases List.mem_cons.1 hz with e | hz
      · rw [e]
        exact hyx
      · exact (h'.1 z hz).trans hyx
theorem isR_ro {ix : Tm → Nat} : ∀ (l acc : List Tm), Ro ix acc → (∀ x ∈ acc, ∀ y ∈ l, ix x < ix y) → l.Pairwise (fun x y => ix x < ix y) → Ro ix (isR acc l)
  | [], _, h, _, _ => h
  | x :: l, acc, h, hi, hp => by
    have hp' := List.pairwise_cons.1 hp
    refine isR_ro l (insR x acc) (insR_ro x acc h fun y hy => hi y hy x (by simp)) (fun y hy z hz => ?_) hp'.2
    rcases List.mem_cons.1 ((insR_perm x acc).mem_iff.1 hy) with e | hy
    · rw [e]
      exact hp'.1 z hz
    · exact hi y hy z (by simp [hz])
theorem isort_so {ix : Tm → Nat} (l : List Tm) (h : l.Pairwise (fun x y => ix x < ix y)) : So ix (isort l) := by
  unfold isort So
  rw [List.pairwise_reverse]
  exact isR_ro l [] List.Pairwise.nil (by simp) h
end Go.Proofs.Ytbnjhpknagkiaaa
