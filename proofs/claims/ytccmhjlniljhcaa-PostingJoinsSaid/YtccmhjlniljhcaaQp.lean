/-
  Plain law: the program's reading, step by step.
  Conditions: those of each statement.
-/
import Derived.Test.YtccmhjlniljhcaaQo
namespace Go.Proofs.Ytccmhjlniljhcaa

def hdsO (L m : Nat) : Option (List UInt8) → Option (List UInt8)
  | none => none
  | some b => hds 65536 L m b
def possO (m : Nat) (ps : List Int) : Option (List UInt8) → Option (List Int × List UInt8)
  | none => none
  | some b => (poss 1048576 m (ilast (-1) ps) b).map fun x => (ps ++ x.1, x.2)
def postsO (L m : Nat) (l : List Post) : Option (List UInt8) → Option (List Post)
  | none => none
  | some b => (posts 65536 (min 1048576 L) 1048576 (fun _ _ => true) m (plast (-1) l) b).map fun x => l ++ x.1
theorem numO_none (b : Nat) : numO b none = (0, none) := rfl
theorem numO_some (b : Nat) (bs : List UInt8) : numO b (some bs) = match num b bs with
    | none => (0, none)
    | some (n, r) => (n, some r) := rfl
theorem numO_le (b : Nat) (o : Option (List UInt8)) : (numO b o).1 ≤ b := by
  cases o with
  | none => simp [numO]
  | some bs =>
    rw [numO_some]
    cases h : num b bs with
    | none => simp
    | some x =>
      obtain ⟨n, r⟩ := x
      exact (num_len h).2
/-- how many bytes are left -/
def lenO : Option (List UInt8) → Nat
  | none => 0
  | some b => b.length
theorem numO_len (b : Nat) (bs : List UInt8) : (numO b (some bs)).2 = none ∨ lenO (numO b (some bs)).2 + 1 ≤ bs.length := by
  rw [numO_some]
  cases h : num b bs with
  | none => exact .inl rfl
  | some x =>
    obtain ⟨n, r⟩ := x
    exact .inr (num_len h).1
theorem hdsO_succ (L m : Nat) (o : Option (List UInt8)) : hdsO L (m + 1) o = hdsO L m (numO L (numO 65536 o).2).2 := by
  cases o with
  | none => rfl
  | some b =>
    rw [numO_some]
    simp only [hdsO, hds]
    cases h : num 65536 b with
    | none => rfl
    | some x =>
      obtain ⟨n, r⟩ := x
      simp only
      rw [numO_some]
      cases h2 : num L r with
      | none => rfl
      | some y =>
        obtain ⟨n2, r2⟩ := y
        rfl
theorem hdsO_zero (L : Nat) (o : Option (List UInt8)) : hdsO L 0 o = o := by cases o <;> rfl
theorem possO_succ (m : Nat) (ps : List Int) (o : Option (List UInt8)) : possO (m + 1) ps o = possO m (ps ++ [ilast (-1) ps + (1 + ((numO 1048576 o).1 : Int))]) (numO 1048576 o).2 := by
  cases o with
  | none => rfl
  | some b =>
    rw [numO_some]
    simp only [possO, poss]
    cases h : num 1048576 b with
    | none => rfl
    | some x =>
      obtain ⟨n, r⟩ := x
      have e : ilast (-1) ps + 1 + (n : Int) = ilast (-1) ps + (1 + (n : Int)) := by omega
      simp only [ilast_snoc, e]
      cases h2 : poss 1048576 m (ilast (-1) ps + (1 + (n : Int))) r with
      | none => rfl
      | some y => simp
theorem possO_zero (ps : List Int) (o : Option (List UInt8)) : possO 0 ps o = o.map fun b => (ps, b) := by
  cases o <;> simp [possO, poss]
/-- the next post -/
theorem postsO_succ (L m : Nat) (l : List Post) (b : List UInt8) : postsO L (m + 1) l (some b) =
    match possO (numO (min 1048576 L) (numO 65536 (some b)).2).1 [] (numO (min 1048576 L) (numO 65536 (some b)).2).2 with
    | none => none
    | some (ps, r) => postsO L m (l ++ [(plast (-1) l + 1 + ((numO 65536 (some b)).1 : Int), ps)]) (some r) := by
  rw [numO_some]
  simp only [postsO, posts]
  cases h : num 65536 b with
  | none => rfl
  | some x =>
    obtain ⟨n, r⟩ := x
    simp only
    rw [numO_some]
    cases h2 : num (min 1048576 L) r with
    | none => rfl
    | some y =>
      obtain ⟨c, r2⟩ := y
      simp only [if_true, possO, ilast]
      cases h3 : poss 1048576 c (-1) r2 with
      | none => rfl
      | some z =>
        obtain ⟨ps, r3⟩ := z
        simp only [Option.map_some, List.nil_append, plast_snoc]
        cases h4 : posts 65536 (min 1048576 L) 1048576 (fun _ _ => true) m (plast (-1) l + 1 + (n : Int)) r3 with
        | none => rfl
        | some t => simp
theorem postsO_zero (L : Nat) (l : List Post) (o : Option (List UInt8)) : postsO L 0 l o = o.map fun _ => l := by
  cases o <;> simp [postsO, posts]
theorem pcode_eq (bs : List UInt8) : pcode bs = postsO bs.length (numO 65536 (some bs)).1 [] (hdsO bs.length (((numO 65536 (some bs)).1 + 31) / 32) (numO 65536 (some bs)).2) := by
  rw [numO_some]
  unfold pcode parse
  cases h : num 65536 bs with
  | none => rfl
  | some x =>
    obtain ⟨n, r⟩ := x
    simp only [if_true, hdsO]
    cases h2 : hds 65536 bs.length ((n + 31) / 32) r with
    | none => rfl
    | some r2 => simp [postsO, plast]

end Go.Proofs.Ytccmhjlniljhcaa
