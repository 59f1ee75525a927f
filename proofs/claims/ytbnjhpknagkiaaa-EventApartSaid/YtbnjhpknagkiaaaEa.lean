/-
  Plain law of events: which may be; their bytes; how these are read.
  Conditions: those of each statement.
-/
import Derived.Test.YtbnjhpknagkiaaaVp
import Derived.Test.YtbnjhpknagkiaaaVq
import Derived.Test.YtbnjhpknagkiaaaDt
import Derived.Test.YtbnjhpknagkiaaaVn
import Derived.Lib.Bytealg
namespace Go.Proofs.Ytbnjhpknagkiaaa
open Go.Op

/-- a field: a name, a text -/
abbrev Fld := Tx × Tx
/-- an event: a time, fields -/
abbrev Ev := Int × List Fld
def nmC (c : UInt8) : Bool := (decide (97 ≤ c.toNat) && decide (c.toNat ≤ 122)) || (decide (48 ≤ c.toNat) && decide (c.toNat ≤ 57)) || decide (c.toNat = 95)
def nmOk (s : List UInt8) : Bool := (decide (1 ≤ s.length) && decide (s.length ≤ 32)) && s.all nmC
def fldE (f : Fld) : Nat := if nmOk f.1.b = false then 100 else if 4096 < f.2.b.length then 2 else 0
def fldsE : List Fld → Nat
  | [] => 0
  | f :: l => if fldE f = 0 then fldsE l else fldE f
def evE (e : Ev) : Nat := if 16 < e.2.length then 3 else fldsE e.2
theorem fldE_spec {f : Fld} (h : fldE f = 0) : nmOk f.1.b = true ∧ f.1.b.length ≤ 32 ∧ f.2.b.length ≤ 4096 := by
  unfold fldE at h
  split at h
  · cases h
  · split at h
    · cases h
    · rename_i h1 h2
      rw [Bool.not_eq_false] at h1
      have h3 := h1
      simp only [nmOk, Bool.and_eq_true, decide_eq_true_eq] at h3
      exact ⟨h1, h3.1.2, by omega⟩
theorem fldsE_spec : ∀ {l : List Fld}, fldsE l = 0 → ∀ f ∈ l, fldE f = 0
  | [], _, _, h => by cases h
  | a :: l, h, f, hf => by
    unfold fldsE at h
    split at h
    · rename_i h1
      rcases List.mem_cons.1 hf with rfl | hf
      · exact h1
      · exact fldsE_spec h f hf
    · rename_i h1
      exact absurd h h1
theorem evE_spec {e : Ev} (h : evE e = 0) : e.2.length ≤ 16 ∧ fldsE e.2 = 0 := by
  unfold evE at h
  split at h
  · cases h
  · exact ⟨by omega, h⟩
def tby (s : List UInt8) : List UInt8 := enc s.length ++ s
def fby (f : Fld) : List UInt8 := tby f.1.b ++ tby f.2.b
def fsby : List Fld → List UInt8
  | [] => []
  | f :: l => fby f ++ fsby l
def evby (e : Ev) : List UInt8 := enc (zig e.1) ++ (enc e.2.length ++ fsby e.2)
theorem fsby_append : ∀ (l m : List Fld), fsby (l ++ m) = fsby l ++ fsby m
  | [], _ => rfl
  | f :: l, m => by simp only [List.cons_append, fsby, fsby_append l m, List.append_assoc]
theorem fsby_snoc (l : List Fld) (f : Fld) : fsby (l ++ [f]) = fsby l ++ fby f := by rw [fsby_append]; simp [fsby]
theorem take_nextE {α : Type} (l : List α) {k : Nat} (h : k < l.length) : l.take (k + 1) = l.take k ++ [l[k]] := List.take_succ_eq_append_getElem h
theorem fby_len {f : Fld} (h : fldE f = 0) : (fby f).length ≤ 4150 := by
  obtain ⟨_, h1, h2⟩ := fldE_spec h
  have e1 := enc_len10 (n := f.1.b.length) (U64.mk (by omega))
  have e2 := enc_len10 (n := f.2.b.length) (U64.mk (by omega))
  simp only [fby, tby, List.length_append]
  omega
theorem fsby_len : ∀ {l : List Fld}, (∀ f ∈ l, fldE f = 0) → (fsby l).length ≤ 4150 * l.length
  | [], _ => by simp [fsby]
  | f :: l, h => by
    have := fsby_len (l := l) fun x hx => h x (by simp [hx])
    have := fby_len (h f (by simp))
    simp only [fsby, List.length_append, List.length_cons]
    omega
theorem evby_len {e : Ev} (h : evE e = 0) (hi : I64 e.1) : (evby e).length ≤ 70000 := by
  obtain ⟨h1, h2⟩ := evE_spec h
  have := fsby_len (fldsE_spec h2)
  have e1 := enc_len10 (zig_64 hi)
  have e2 := enc_len10 (n := e.2.length) (U64.mk (by omega))
  simp only [evby, List.length_append]
  omega
/-! ### numbers and texts, read -/
/-- a number of at most so much -/
def num (b : Nat) (bs : List UInt8) : Option (Nat × List UInt8) := if vgE bs = 0 ∧ vgN bs ≤ b then some (vgN bs, vgRest bs) else none
theorem num_enc {b n : Nat} (hn : n < 18446744073709551616) (h : n ≤ b) (r : List UInt8) : num b (enc n ++ r) = some (n, r) := by
  obtain ⟨h1, h2, h3⟩ := vg_enc (U64.mk hn) r
  unfold num
  rw [h1, h2, h3, if_pos ⟨rfl, h⟩]
theorem num_len {b n : Nat} {bs r : List UInt8} (h : num b bs = some (n, r)) : r.length + 1 ≤ bs.length ∧ n ≤ b := by
  unfold num at h
  split at h
  · rename_i hc
    injection h with h
    injection h with h1 h2
    subst h1
    subst h2
    have := vg_back hc.1
    have h3 := congrArg List.length this
    rw [List.length_append] at h3
    have := enc_pos (vgN bs)
    exact ⟨by omega, hc.2⟩
  · cases h
/-- a text of at most so many bytes -/
def txt (b : Nat) (bs : List UInt8) : Option (List UInt8 × List UInt8) :=
  match num b bs with
  | none => none
  | some (n, r) => if n ≤ r.length then some (r.take n, r.drop n) else none
theorem txt_enc {b : Nat} {s : List UInt8} (hb : b < 18446744073709551616) (h : s.length ≤ b) (r : List UInt8) : txt b (enc s.length ++ (s ++ r)) = some (s, r) := by
  unfold txt
  rw [num_enc (by omega) h]
  simp
theorem txt_len {b : Nat} {bs s r : List UInt8} (h : txt b bs = some (s, r)) : r.length + 1 ≤ bs.length ∧ s.length ≤ b := by
  unfold txt at h
  cases hn : num b bs with
  | none => rw [hn] at h; cases h
  | some x =>
    obtain ⟨n, q⟩ := x
    rw [hn] at h
    simp only at h
    split at h
    · injection h with h
      injection h with h1 h2
      have := num_len hn
      subst h1
      subst h2
      rw [List.length_drop, List.length_take]
      omega
    · cases h
/-- the first field -/
def fldG (bs : List UInt8) : Option (Fld × List UInt8) := match txt 32 bs with
  | none => none
  | some (s, r) => match txt 4096 r with
    | none => none
    | some (t, q) => some ((⟨s⟩, ⟨t⟩), q)
def fldsG : Nat → List UInt8 → Option (List Fld × List UInt8)
  | 0, bs => some ([], bs)
  | n + 1, bs => match fldG bs with
    | none => none
    | some (f, r) => match fldsG n r with
      | none => none
      | some (l, q) => some (f :: l, q)
/-- the first event -/
def evG (bs : List UInt8) : Option (Ev × List UInt8) := if vgE bs = 0 then match num 16 (vgRest bs) with
    | none => none
    | some (n, r) => match fldsG n r with
      | none => none
      | some (l, q) => if evE (zag (vgN bs), l) = 0 then some ((zag (vgN bs), l), q) else none
  else none
theorem fldG_by {f : Fld} (h : fldE f = 0) (r : List UInt8) : fldG (fby f ++ r) = some (f, r) := by
  obtain ⟨_, h1, h2⟩ := fldE_spec h
  unfold fldG fby tby
  simp only [List.append_assoc]
  rw [txt_enc (by decide) h1]
  simp only
  rw [txt_enc (by decide) h2]
theorem fldsG_by : ∀ {l : List Fld}, (∀ f ∈ l, fldE f = 0) → ∀ r, fldsG l.length (fsby l ++ r) = some (l, r)
  | [], _, _ => rfl
  | f :: l, h, r => by
    simp only [List.length_cons, fldsG, fsby, List.append_assoc]
    rw [fldG_by (h f (by simp))]
    simp only
    rw [fldsG_by fun x hx => h x (by simp [hx])]
theorem evG_by {e : Ev} (h : evE e = 0) (hi : I64 e.1) (r : List UInt8) : evG (evby e ++ r) = some (e, r) := by
  obtain ⟨h1, h2⟩ := evE_spec h
  obtain ⟨g1, g2, g3⟩ := vg_enc (zig_64 hi) (enc e.2.length ++ (fsby e.2 ++ r))
  unfold evG evby
  simp only [List.append_assoc]
  rw [g1, g2, g3, if_pos rfl, num_enc (by omega) h1, zag_zig]
  simp only
  rw [fldsG_by (fldsE_spec h2)]
  simp only
  rw [if_pos h]
theorem fldG_len {bs r : List UInt8} {f : Fld} (h : fldG bs = some (f, r)) : r.length + 2 ≤ bs.length ∧ f.1.b.length ≤ 32 ∧ f.2.b.length ≤ 4096 := by
  unfold fldG at h
  cases h1 : txt 32 bs with
  | none => rw [h1] at h; cases h
  | some x =>
    obtain ⟨s, q⟩ := x
    rw [h1] at h
    simp only at h
    cases h2 : txt 4096 q with
    | none => rw [h2] at h; cases h
    | some y =>
      obtain ⟨t, q2⟩ := y
      rw [h2] at h
      simp only [Option.some.injEq, Prod.mk.injEq] at h
      obtain ⟨rfl, rfl⟩ := h
      have := txt_len h1
      have := txt_len h2
      exact ⟨by omega, by simp only; omega, by simp only; omega⟩
theorem fldsG_len : ∀ {n : Nat} {bs r : List UInt8} {l : List Fld}, fldsG n bs = some (l, r) → r.length + 2 * l.length ≤ bs.length ∧ l.length = n
  | 0, bs, r, l, h => by
    simp only [fldsG, Option.some.injEq, Prod.mk.injEq] at h
    obtain ⟨rfl, rfl⟩ := h
    simp
  | n + 1, bs, r, l, h => by
    simp only [fldsG] at h
    cases h1 : fldG bs with
    | none => rw [h1] at h; cases h
    | some x =>
      obtain ⟨f, q⟩ := x
      rw [h1] at h
      simp only at h
      cases h2 : fldsG n q with
      | none => rw [h2] at h; cases h
      | some y =>
        obtain ⟨l', q2⟩ := y
        rw [h2] at h
        simp only [Option.some.injEq, Prod.mk.injEq] at h
        obtain ⟨rfl, rfl⟩ := h
        have := fldG_len h1
        have := fldsG_len h2
        simp only [List.length_cons]
        omega
theorem evG_len {bs r : List UInt8} {e : Ev} (h : evG bs = some (e, r)) : r.length + 2 + 2 * e.2.length ≤ bs.length ∧ evE e = 0 ∧ I64 e.1 := by
  unfold evG at h
  split at h
  · rename_i hE
    have hb := congrArg List.length (vg_back hE)
    rw [List.length_append] at hb
    have hp := enc_pos (vgN bs)
    cases h1 : num 16 (vgRest bs) with
    | none => rw [h1] at h; cases h
    | some x =>
      obtain ⟨n, q⟩ := x
      rw [h1] at h
      simp only at h
      cases h2 : fldsG n q with
      | none => rw [h2] at h; cases h
      | some y =>
        obtain ⟨l, q2⟩ := y
        rw [h2] at h
        simp only at h
        split at h
        · rename_i hv
          simp only [Option.some.injEq, Prod.mk.injEq] at h
          obtain ⟨rfl, rfl⟩ := h
          have := num_len h1
          have := fldsG_len h2
          exact ⟨by simp only; omega, hv, zag_64 (vgN_64 bs)⟩
        · cases h
  · cases h
end Go.Proofs.Ytbnjhpknagkiaaa
