/-
  No cell of these rows narrows 'for every input' (looked for: loops, veiled, ifaces, maps, wideKeys, modest, calm, conditions, laid).
  DERIVED. THE GIVEN ROWS OF THIS SEAT. 5 by the template 'for every input the law returns true; each argument reads behind the call as it read before'; 0 by the template 'total and deterministic' (their statements: YtnajmpkdeenkbaaTotals.lean).
  GIVEN WITH THE SEED: the statements are not yours to turn. If you find one false, say at which input.
  Laid BY PROGRAM, IN A SANDBOX (cutbox-rows.mjs): the forced cells as the released guide's own fill.sh prints them over the translation 14aae123fc50b66c… (all of the seat's roots in one cut). By AI agents, Wed Nov 11 2026. No macro, syntax, notation, axiom, sorry.
-/
import Derived.Test.YtnajmpkdeenkbaaChecked
import GoSem.Claim
import GoSem.ClaimJoined
import GoSem.ClaimMapViews
import Derived.JoinedTies
import Derived.KernelRfl
namespace Go.Proofs.Ytnajmpkdeenkbaa
/- THE CELL 'sum', in the pinned program and in every row, IS THE sha256 OF THE DUMP (.gsa) THAT YtnajmpkdeenkbaaProg.lean LOADS. Nothing in Lean hashes anything: it is a label: what it is worth is what the hold of that sum in a sandbox is worth. -/
noncomputable def Try.pinned : Pinned := { name := "ytnajmpkdeenkbaa", sum := "14aae123fc50b66c08ea0febac6d04ae315657382e5924f58dbcfd215598c3cc", checked := Try.checked }
namespace Rows
def none {H : Type} : Left H := { results := [], args := [] }

/-- 'loggialaw12.StoredBytes': WHATEVER THE INPUT: true; the input reads as it did. -/
def storedBytesSpec : ChangeSpec := { name := "storedBytes", fn := fun _ => fun
  | [d1, d2] => { results := [.lit (.bool true)], args := [d1, d2] }
  | _ => none }
def storedBytesRow : OpenClaim := { program := "ytnajmpkdeenkbaa", sum := "14aae123fc50b66c08ea0febac6d04ae315657382e5924f58dbcfd215598c3cc", func := "loggia/loggialaw12.StoredBytes", spec := "storedBytes", unfollowed := true, recurses := true, apart := false }
def StoredBytesSaid : Prop := storedBytesRow.holds Try.pinned (OpenSpec.ofChange storedBytesSpec)

/-- ITS FALSE NEIGHBOUR: 'it returns false'. Refute it at one input. -/
def storedBytesWrong : ChangeSpec := { name := "storedBytes", fn := fun _ => fun
  | [d1, d2] => { results := [.lit (.bool false)], args := [d1, d2] }
  | _ => none }
def StoredBytesWrongFalsely : Prop := storedBytesRow.holds Try.pinned (OpenSpec.ofChange storedBytesWrong)

/-- 'loggialaw12.StoredBack': WHATEVER THE INPUT: true; the input reads as it did. -/
def storedBackSpec : ChangeSpec := { name := "storedBack", fn := fun _ => fun
  | [d1, d2, d3] => { results := [.lit (.bool true)], args := [d1, d2, d3] }
  | _ => none }
def storedBackRow : OpenClaim := { program := "ytnajmpkdeenkbaa", sum := "14aae123fc50b66c08ea0febac6d04ae315657382e5924f58dbcfd215598c3cc", func := "loggia/loggialaw12.StoredBack", spec := "storedBack", unfollowed := true, recurses := true, apart := false }
def StoredBackSaid : Prop := storedBackRow.holds Try.pinned (OpenSpec.ofChange storedBackSpec)

/-- ITS FALSE NEIGHBOUR: 'it returns false'. Refute it at one input. -/
def storedBackWrong : ChangeSpec := { name := "storedBack", fn := fun _ => fun
  | [d1, d2, d3] => { results := [.lit (.bool false)], args := [d1, d2, d3] }
  | _ => none }
def StoredBackWrongFalsely : Prop := storedBackRow.holds Try.pinned (OpenSpec.ofChange storedBackWrong)

/-- 'loggialaw12.StoredForms': WHATEVER THE INPUT: true; the input reads as it did. -/
def storedFormsSpec : ChangeSpec := { name := "storedForms", fn := fun _ => fun
  | [d1, d2] => { results := [.lit (.bool true)], args := [d1, d2] }
  | _ => none }
def storedFormsRow : OpenClaim := { program := "ytnajmpkdeenkbaa", sum := "14aae123fc50b66c08ea0febac6d04ae315657382e5924f58dbcfd215598c3cc", func := "loggia/loggialaw12.StoredForms", spec := "storedForms", unfollowed := true, recurses := true, apart := false }
def StoredFormsSaid : Prop := storedFormsRow.holds Try.pinned (OpenSpec.ofChange storedFormsSpec)

/-- ITS FALSE NEIGHBOUR: 'it returns false'. Refute it at one input. -/
def storedFormsWrong : ChangeSpec := { name := "storedForms", fn := fun _ => fun
  | [d1, d2] => { results := [.lit (.bool false)], args := [d1, d2] }
  | _ => none }
def StoredFormsWrongFalsely : Prop := storedFormsRow.holds Try.pinned (OpenSpec.ofChange storedFormsWrong)

/-- 'loggialaw12.StoredFinds': WHATEVER THE INPUT: true; the input reads as it did. -/
def storedFindsSpec : ChangeSpec := { name := "storedFinds", fn := fun _ => fun
  | [d1, d2, d3, d4] => { results := [.lit (.bool true)], args := [d1, d2, d3, d4] }
  | _ => none }
def storedFindsRow : OpenClaim := { program := "ytnajmpkdeenkbaa", sum := "14aae123fc50b66c08ea0febac6d04ae315657382e5924f58dbcfd215598c3cc", func := "loggia/loggialaw12.StoredFinds", spec := "storedFinds", unfollowed := true, recurses := true, apart := false }
def StoredFindsSaid : Prop := storedFindsRow.holds Try.pinned (OpenSpec.ofChange storedFindsSpec)

/-- ITS FALSE NEIGHBOUR: 'it returns false'. Refute it at one input. -/
def storedFindsWrong : ChangeSpec := { name := "storedFinds", fn := fun _ => fun
  | [d1, d2, d3, d4] => { results := [.lit (.bool false)], args := [d1, d2, d3, d4] }
  | _ => none }
def StoredFindsWrongFalsely : Prop := storedFindsRow.holds Try.pinned (OpenSpec.ofChange storedFindsWrong)

/-- 'loggialaw12.StoredEach': WHATEVER THE INPUT: true; the input reads as it did. -/
def storedEachSpec : ChangeSpec := { name := "storedEach", fn := fun _ => fun
  | [d] => { results := [.lit (.bool true)], args := [d] }
  | _ => none }
def storedEachRow : OpenClaim := { program := "ytnajmpkdeenkbaa", sum := "14aae123fc50b66c08ea0febac6d04ae315657382e5924f58dbcfd215598c3cc", func := "loggia/loggialaw12.StoredEach", spec := "storedEach", unfollowed := true, recurses := true, apart := false }
def StoredEachSaid : Prop := storedEachRow.holds Try.pinned (OpenSpec.ofChange storedEachSpec)

/-- ITS FALSE NEIGHBOUR: 'it returns false'. Refute it at one input. -/
def storedEachWrong : ChangeSpec := { name := "storedEach", fn := fun _ => fun
  | [d] => { results := [.lit (.bool false)], args := [d] }
  | _ => none }
def StoredEachWrongFalsely : Prop := storedEachRow.holds Try.pinned (OpenSpec.ofChange storedEachWrong)

/- THE SECOND FORM. 'bulk': how many values and letters a reading holds, each counted each time it is reached (what is shared counts as often as it is met; a slice's spare places count too). A statement '..UptoSaid' is the law's where the arguments, and the package variables that the reading takes, are together of bulk at most 1048576: NARROWER than '..Said'. Prove '..Said' where nothing that the law and all that it calls make is longer than what came in: it says more and counts as full. Else prove '..UptoSaid'. A law counts once. -/
mutual
def uptoBulk {H : Type} : DataW H → Nat
  | .lit (.string bytes) => bytes.length + 1
  | .lit _ => 1
  | .nil => 1
  | .ptr d => uptoBulk d + 1
  | .slice elems spare => uptoBulkAll elems + uptoBulkAll spare + 1
  | .agg parts => uptoBulkAll parts + 1
  | .iface _ d => uptoBulk d + 1
  | .map entries => uptoBulkEntries entries + 1
  | .held _ => 1
def uptoBulkAll {H : Type} : List (DataW H) → Nat
  | [] => 0
  | d :: r => uptoBulk d + uptoBulkAll r
def uptoBulkEntries {H : Type} : List (Lit × DataW H) → Nat
  | [] => 0
  | x :: r => uptoBulkEntry x + uptoBulkEntries r
def uptoBulkEntry {H : Type} : Lit × DataW H → Nat
  | (.string bytes, d) => bytes.length + uptoBulk d + 1
  | (_, d) => uptoBulk d + 1
 end
def uptoSmall : (H : Type) → List (DataW H) → Bool := fun _ ds => decide (uptoBulkAll ds ≤ 1048576)
def OpenSpec.upto (s : _root_.Go.ChangeSpec) : _root_.Go.OpenSpec := { _root_.Go.OpenSpec.ofChange s with cond := some uptoSmall }

/-- 'loggialaw12.StoredBytes', WHERE WHAT IT READS IS OF BULK AT MOST 1048576: true; the input reads as it did. -/
def storedBytesUptoRow : OpenClaim := { program := "ytnajmpkdeenkbaa", sum := "14aae123fc50b66c08ea0febac6d04ae315657382e5924f58dbcfd215598c3cc", func := "loggia/loggialaw12.StoredBytes", spec := "storedBytes", unfollowed := true, recurses := true, apart := false, narrowed := true }
def StoredBytesUptoSaid : Prop := storedBytesUptoRow.holds Try.pinned (OpenSpec.upto storedBytesSpec)

/-- 'loggialaw12.StoredBack', WHERE WHAT IT READS IS OF BULK AT MOST 1048576: true; the input reads as it did. -/
def storedBackUptoRow : OpenClaim := { program := "ytnajmpkdeenkbaa", sum := "14aae123fc50b66c08ea0febac6d04ae315657382e5924f58dbcfd215598c3cc", func := "loggia/loggialaw12.StoredBack", spec := "storedBack", unfollowed := true, recurses := true, apart := false, narrowed := true }
def StoredBackUptoSaid : Prop := storedBackUptoRow.holds Try.pinned (OpenSpec.upto storedBackSpec)

/-- 'loggialaw12.StoredForms', WHERE WHAT IT READS IS OF BULK AT MOST 1048576: true; the input reads as it did. -/
def storedFormsUptoRow : OpenClaim := { program := "ytnajmpkdeenkbaa", sum := "14aae123fc50b66c08ea0febac6d04ae315657382e5924f58dbcfd215598c3cc", func := "loggia/loggialaw12.StoredForms", spec := "storedForms", unfollowed := true, recurses := true, apart := false, narrowed := true }
def StoredFormsUptoSaid : Prop := storedFormsUptoRow.holds Try.pinned (OpenSpec.upto storedFormsSpec)

/-- 'loggialaw12.StoredFinds', WHERE WHAT IT READS IS OF BULK AT MOST 1048576: true; the input reads as it did. -/
def storedFindsUptoRow : OpenClaim := { program := "ytnajmpkdeenkbaa", sum := "14aae123fc50b66c08ea0febac6d04ae315657382e5924f58dbcfd215598c3cc", func := "loggia/loggialaw12.StoredFinds", spec := "storedFinds", unfollowed := true, recurses := true, apart := false, narrowed := true }
def StoredFindsUptoSaid : Prop := storedFindsUptoRow.holds Try.pinned (OpenSpec.upto storedFindsSpec)

/-- 'loggialaw12.StoredEach', WHERE WHAT IT READS IS OF BULK AT MOST 1048576: true; the input reads as it did. -/
def storedEachUptoRow : OpenClaim := { program := "ytnajmpkdeenkbaa", sum := "14aae123fc50b66c08ea0febac6d04ae315657382e5924f58dbcfd215598c3cc", func := "loggia/loggialaw12.StoredEach", spec := "storedEach", unfollowed := true, recurses := true, apart := false, narrowed := true }
def StoredEachUptoSaid : Prop := storedEachUptoRow.holds Try.pinned (OpenSpec.upto storedEachSpec)

end Rows
end Go.Proofs.Ytnajmpkdeenkbaa
