/-
  Plain law: terms that rise: how many are below one; which is one; which begin so.
  Conditions: those of each statement.
-/
import Derived.Test.YtmgbhmmmegknjaaDa
namespace Go.Proofs.Ytmgbhmmmegknjaa
open Go.Op

theorem u8_lt_irrefl (x : UInt8) : ¬x < x := fun h => by rw [UInt8.lt_iff_toNat_lt] at h; omega
theorem u8_lt_asymm {x y : UInt8} (h : x < y) : ¬y < x := fun k => by rw [UInt8.lt_iff_toNat_lt] at h k; omega
theorem u8_lt_trans {x y z : UInt8} (h : x < y) (k : y < z) : x < z := by rw [UInt8.lt_iff_toNat_lt] at h k ⊢; omega
theorem u8_eq_of {x y : UInt8} (h : ¬x < y) (k : ¬y < x) : x = y := by
  apply UInt8.toNat_inj.1
  rw [UInt8.lt_iff_toNat_lt] at h k
  omega
theorem less_cons (x y : UInt8) (a b : List UInt8) : bytesLess (x :: a) (y :: b) = true ↔ x < y ∨ (x = y ∧ bytesLess a b = true) := by
  simp only [bytesLess]
  by_cases h1 : x < y
  · simp [h1]
  · by_cases h2 : y < x
    · have : x ≠ y := fun e => by rw [e] at h2; exact u8_lt_irrefl _ h2
      simp [h1, this]
    · have := u8_eq_of h1 h2
      subst this
      simp [h1]
theorem less_trans : ∀ {a b c : List UInt8}, bytesLess a b = true → bytesLess b c = true → bytesLess a c = true
  | [], [], _, h, _ => by cases h
  | [], _ :: _, [], _, k => by cases k
  | [], _ :: _, _ :: _, _, _ => rfl
  | _ :: _, [], _, h, _ => by cases h
  | _ :: _, _ :: _, [], _, k => by cases k
  | x :: a, y :: b, z :: c, h, k => by
    rw [less_cons] at h k ⊢
    rcases h with h | ⟨rfl, h⟩
    · rcases k with k | ⟨rfl, k⟩
      · exact .inl (u8_lt_trans h k)
      · exact .inl h
    · rcases k with k | ⟨rfl, k⟩
      · exact .inl k
      · exact .inr ⟨rfl, less_trans h k⟩
theorem less_irrefl : ∀ a : List UInt8, bytesLess a a = false
  | [] => rfl
  | x :: a => by
    cases h : bytesLess (x :: a) (x :: a) with
    | false => rfl
    | true =>
      rw [less_cons] at h
      rcases h with h | ⟨_, h⟩
      · exact absurd h (u8_lt_irrefl x)
      · rw [less_irrefl a] at h; cases h
/-- the terms rise -/
def Inc (l : List Ent) : Prop := ∀ i j (hi : i < l.length) (hj : j < l.length), i < j → bytesLess l[i].1.b l[j].1.b = true
theorem upw_inc : ∀ {l : List Ent} {last : List UInt8}, upw last l = true → (∀ e ∈ l, bytesLess last e.1.b = true) ∧ Inc l
  | [], _, _ => ⟨(fun _ h => by cases h), (fun i _ hi => by simp at hi)⟩
  | a :: l, last, h => by
    obtain ⟨_, h2, h3⟩ := upw_cons.1 h
    obtain ⟨i1, i2⟩ := upw_inc h3
    refine ⟨fun e he => ?_, fun i j hi hj hij => ?_⟩
    · rcases List.mem_cons.1 he with rfl | he
      · exact h2
      · exact less_trans h2 (i1 e he)
    · rcases j with _ | j
      · omega
      · rcases i with _ | i
        · exact i1 _ (List.getElem_mem _)
        · exact i2 i j (by simpa using hi) (by simpa using hj) (by omega)
theorem esOk_inc {l : List Ent} (h : esOk l = true) : Inc l := (upw_inc (esOk_spec h).1).2
/-- how many terms are below -/
def flr (l : List Ent) (s : List UInt8) : Nat := (l.filter fun e => bytesLess e.1.b s).length
/-- k terms are below, the first k -/
def Flr (l : List Ent) (s : List UInt8) (k : Nat) : Prop := k ≤ l.length ∧ (∀ j (h : j < l.length), j < k → bytesLess l[j].1.b s = true) ∧ ∀ j (h : j < l.length), k ≤ j → bytesLess l[j].1.b s = false
theorem Flr.flr {l : List Ent} {s : List UInt8} {k : Nat} (h : Flr l s k) : flr l s = k := by
  obtain ⟨hk, h1, h2⟩ := h
  have e1 : (l.take k).filter (fun e => bytesLess e.1.b s) = l.take k := by
    rw [List.filter_eq_self]
    intro e he
    obtain ⟨j, hj, rfl⟩ := List.getElem_of_mem he
    rw [List.length_take] at hj
    rw [List.getElem_take]
    exact h1 j (by omega) (by omega)
  have e2 : (l.drop k).filter (fun e => bytesLess e.1.b s) = [] := by
    rw [List.filter_eq_nil_iff]
    intro e he
    obtain ⟨j, hj, rfl⟩ := List.getElem_of_mem he
    rw [List.length_drop] at hj
    rw [List.getElem_drop, h2 (k + j) (by omega) (by omega)]
    simp
  unfold Go.Proofs.Ytmgbhmmmegknjaa.flr
  rw [← List.take_append_drop k l, List.filter_append, e1, e2, List.append_nil, List.length_take]
  omega
def zeroE : Ent := (⟨[]⟩, 0, 0, 0)
/-- the entry of a term -/
def getE (l : List Ent) (s : List UInt8) : Ent × Bool := match l.find? fun e => decide (e.1.b = s) with
  | some e => (e, true)
  | none => (zeroE, false)
theorem Flr.get_yes {l : List Ent} {s : List UInt8} {k : Nat} (h : Flr l s k) (hk : k < l.length) (he : l[k].1.b = s) : getE l s = (l[k], true) := by
  obtain ⟨_, h1, h2⟩ := h
  have : l.find? (fun e => decide (e.1.b = s)) = some l[k] := by
    rw [List.find?_eq_some_iff_getElem]
    refine ⟨by simpa using he, k, hk, rfl, fun j hj => ?_⟩
    have := h1 j (by omega) hj
    simp only [Bool.not_eq_true', decide_eq_false_iff_not]
    intro e
    rw [e, less_irrefl] at this
    cases this
  unfold getE
  rw [this]
theorem Flr.get_no {l : List Ent} {s : List UInt8} {k : Nat} (hi : Inc l) (h : Flr l s k) (he : ∀ hk : k < l.length, l[k].1.b ≠ s) : getE l s = (zeroE, false) := by
  obtain ⟨_, h1, h2⟩ := h
  have : l.find? (fun e => decide (e.1.b = s)) = none := by
    rw [List.find?_eq_none]
    intro e hm
    obtain ⟨j, hj, rfl⟩ := List.getElem_of_mem hm
    simp only [decide_eq_true_eq]
    intro e
    by_cases hjk : j < k
    · have := h1 j hj hjk
      rw [e, less_irrefl] at this
      cases this
    · by_cases hjk2 : j = k
      · subst hjk2
        exact he hj e
      · have h3 := hi k j (by omega) hj (by omega)
        rw [e, h2 k (by omega) (Nat.le_refl _)] at h3
        cases h3
  unfold getE
  rw [this]
/-- does a text begin so? -/
def isPre (p t : List UInt8) : Bool := decide (t.take p.length = p)
theorem isPre_cons (x : UInt8) (p : List UInt8) (y : UInt8) (t : List UInt8) : isPre (x :: p) (y :: t) = true ↔ y = x ∧ isPre p t = true := by
  simp [isPre]
theorem pre_not_less : ∀ {p t : List UInt8}, isPre p t = true → bytesLess t p = false
  | [], t, _ => by cases t <;> rfl
  | x :: p, [], h => by simp [isPre] at h
  | x :: p, y :: t, h => by
    obtain ⟨rfl, h'⟩ := (isPre_cons ..).1 h
    cases k : bytesLess (y :: t) (y :: p) with
    | false => rfl
    | true =>
      rcases (less_cons ..).1 k with k | ⟨_, k⟩
      · exact absurd k (u8_lt_irrefl _)
      · rw [pre_not_less h'] at k; cases k
theorem pre_mid : ∀ {p a b : List UInt8}, bytesLess a p = false → isPre p b = true → bytesLess a b = true → isPre p a = true
  | [], _, _, _, _, _ => by simp [isPre]
  | x :: p, [], _, h, _, _ => by cases h
  | x :: p, _ :: _, [], _, h, _ => by simp [isPre] at h
  | x :: p, y :: a, z :: b, h1, h2, h3 => by
    obtain ⟨rfl, h2'⟩ := (isPre_cons ..).1 h2
    have n1 : ¬(y < z ∨ (y = z ∧ bytesLess a p = true)) := fun k => by rw [(less_cons ..).2 k] at h1; cases h1
    rcases (less_cons ..).1 h3 with h3' | ⟨rfl, h3'⟩
    · exact absurd (.inl h3') n1
    · refine (isPre_cons ..).2 ⟨rfl, pre_mid ?_ h2' h3'⟩
      cases k : bytesLess a p with
      | false => rfl
      | true => exact absurd (.inr ⟨rfl, k⟩) n1
def pfxE (l : List Ent) (p : List UInt8) : List Ent := l.filter fun e => isPre p e.1.b
theorem pfx_take {l : List Ent} {p : List UInt8} {k : Nat} (h : Flr l p k) : pfxE (l.take k) p = [] := by
  obtain ⟨_, h1, _⟩ := h
  unfold pfxE
  rw [List.filter_eq_nil_iff]
  intro e he hp
  obtain ⟨j, hj, rfl⟩ := List.getElem_of_mem he
  rw [List.length_take] at hj
  rw [List.getElem_take] at hp
  have := h1 j (by omega) (by omega)
  rw [pre_not_less hp] at this
  cases this
theorem pfx_next {l : List Ent} {p : List UInt8} {i : Nat} (hi : i < l.length) (h : isPre p l[i].1.b = true) : pfxE (l.take (i + 1)) p = pfxE (l.take i) p ++ [l[i]] := by
  unfold pfxE
  rw [take_nextE l hi, List.filter_append]
  congr 1
  simp [h]
theorem pfx_end {l : List Ent} {p : List UInt8} {k i : Nat} (hinc : Inc l) (hf : Flr l p k) (hki : k ≤ i) (h : ∀ hi : i < l.length, isPre p l[i].1.b = false) : pfxE (l.take i) p = pfxE l p := by
  obtain ⟨_, _, h2⟩ := hf
  have e2 : (l.drop i).filter (fun e => isPre p e.1.b) = [] := by
    rw [List.filter_eq_nil_iff]
    intro e he hp
    obtain ⟨j, hj, rfl⟩ := List.getElem_of_mem he
    rw [List.length_drop] at hj
    rw [List.getElem_drop] at hp
    have hil : i < l.length := by omega
    have h0 := h hil
    rcases j with _ | j
    · rw [show l[i + 0] = l[i] from rfl, h0] at hp
      cases hp
    · have := pre_mid (h2 i hil hki) hp (hinc i (i + (j + 1)) hil (by omega) (by omega))
      rw [h0] at this
      cases this
  unfold pfxE
  conv => rhs; rw [← List.take_append_drop i l, List.filter_append, e2, List.append_nil]
theorem Flr.nil (s : List UInt8) : Flr [] s 0 := ⟨Nat.le_refl _, fun j h => by simp at h, fun j h => by simp at h⟩
theorem Inc.nil : Inc [] := fun i j hi => by simp at hi
end Go.Proofs.Ytmgbhmmmegknjaa
