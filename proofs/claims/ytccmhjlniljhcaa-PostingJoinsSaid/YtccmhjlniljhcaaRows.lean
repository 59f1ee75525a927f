/-
  No cell of these rows narrows 'for every input' (looked for: loops, veiled, ifaces, maps, wideKeys, modest, calm, conditions, laid).
  DERIVED. THE GIVEN ROWS OF THIS SEAT. 5 by the template 'for every input the law returns true; each argument reads behind the call as it read before'; 0 by the template 'total and deterministic' (their statements: YtccmhjlniljhcaaTotals.lean).
  GIVEN WITH THE SEED: the statements are not yours to turn. If you find one false, say at which input.
  Laid BY PROGRAM, IN A SANDBOX (cutbox-rows.mjs): the forced cells as the released guide's own fill.sh prints them over the translation f4326b294a6823e2… (all of the seat's roots in one cut). By AI agents, Wed Nov 11 2026. No macro, syntax, notation, axiom, sorry.
-/
import Derived.Test.YtccmhjlniljhcaaChecked
import GoSem.Claim
import GoSem.ClaimJoined
import GoSem.ClaimMapViews
import Derived.JoinedTies
import Derived.KernelRfl
namespace Go.Proofs.Ytccmhjlniljhcaa
/- THE CELL 'sum', in the pinned program and in every row, IS THE sha256 OF THE DUMP (.gsa) THAT YtccmhjlniljhcaaProg.lean LOADS. Nothing in Lean hashes anything: it is a label: what it is worth is what the hold of that sum in a sandbox is worth. -/
noncomputable def Try.pinned : Pinned := { name := "ytccmhjlniljhcaa", sum := "f4326b294a6823e2480cb146d49699d8a17b5bc87087ba5c1a0b5a6c8536c677", checked := Try.checked }
namespace Rows
def none {H : Type} : Left H := { results := [], args := [] }

/-- 'loggialaw08.PostingBytes': WHATEVER THE INPUT: true; the input reads as it did. -/
def postingBytesSpec : ChangeSpec := { name := "postingBytes", fn := fun _ => fun
  | [d1, d2] => { results := [.lit (.bool true)], args := [d1, d2] }
  | _ => none }
def postingBytesRow : OpenClaim := { program := "ytccmhjlniljhcaa", sum := "f4326b294a6823e2480cb146d49699d8a17b5bc87087ba5c1a0b5a6c8536c677", func := "loggia/loggialaw08.PostingBytes", spec := "postingBytes", unfollowed := true, recurses := true, apart := false }
def PostingBytesSaid : Prop := postingBytesRow.holds Try.pinned (OpenSpec.ofChange postingBytesSpec)

/-- ITS FALSE NEIGHBOUR: 'it returns false'. Refute it at one input. -/
def postingBytesWrong : ChangeSpec := { name := "postingBytes", fn := fun _ => fun
  | [d1, d2] => { results := [.lit (.bool false)], args := [d1, d2] }
  | _ => none }
def PostingBytesWrongFalsely : Prop := postingBytesRow.holds Try.pinned (OpenSpec.ofChange postingBytesWrong)

/-- 'loggialaw08.PostingBack': WHATEVER THE INPUT: true; the input reads as it did. -/
def postingBackSpec : ChangeSpec := { name := "postingBack", fn := fun _ => fun
  | [d1, d2, d3] => { results := [.lit (.bool true)], args := [d1, d2, d3] }
  | _ => none }
def postingBackRow : OpenClaim := { program := "ytccmhjlniljhcaa", sum := "f4326b294a6823e2480cb146d49699d8a17b5bc87087ba5c1a0b5a6c8536c677", func := "loggia/loggialaw08.PostingBack", spec := "postingBack", unfollowed := true, recurses := true, apart := false }
def PostingBackSaid : Prop := postingBackRow.holds Try.pinned (OpenSpec.ofChange postingBackSpec)

/-- ITS FALSE NEIGHBOUR: 'it returns false'. Refute it at one input. -/
def postingBackWrong : ChangeSpec := { name := "postingBack", fn := fun _ => fun
  | [d1, d2, d3] => { results := [.lit (.bool false)], args := [d1, d2, d3] }
  | _ => none }
def PostingBackWrongFalsely : Prop := postingBackRow.holds Try.pinned (OpenSpec.ofChange postingBackWrong)

/-- 'loggialaw08.PostingJoins': WHATEVER THE INPUT: true; the input reads as it did. -/
def postingJoinsSpec : ChangeSpec := { name := "postingJoins", fn := fun _ => fun
  | [d1, d2, d3] => { results := [.lit (.bool true)], args := [d1, d2, d3] }
  | _ => none }
def postingJoinsRow : OpenClaim := { program := "ytccmhjlniljhcaa", sum := "f4326b294a6823e2480cb146d49699d8a17b5bc87087ba5c1a0b5a6c8536c677", func := "loggia/loggialaw08.PostingJoins", spec := "postingJoins", unfollowed := true, recurses := true, apart := false }
def PostingJoinsSaid : Prop := postingJoinsRow.holds Try.pinned (OpenSpec.ofChange postingJoinsSpec)

/-- ITS FALSE NEIGHBOUR: 'it returns false'. Refute it at one input. -/
def postingJoinsWrong : ChangeSpec := { name := "postingJoins", fn := fun _ => fun
  | [d1, d2, d3] => { results := [.lit (.bool false)], args := [d1, d2, d3] }
  | _ => none }
def PostingJoinsWrongFalsely : Prop := postingJoinsRow.holds Try.pinned (OpenSpec.ofChange postingJoinsWrong)

/-- 'loggialaw08.PostingForms': WHATEVER THE INPUT: true; the input reads as it did. -/
def postingFormsSpec : ChangeSpec := { name := "postingForms", fn := fun _ => fun
  | [d1, d2] => { results := [.lit (.bool true)], args := [d1, d2] }
  | _ => none }
def postingFormsRow : OpenClaim := { program := "ytccmhjlniljhcaa", sum := "f4326b294a6823e2480cb146d49699d8a17b5bc87087ba5c1a0b5a6c8536c677", func := "loggia/loggialaw08.PostingForms", spec := "postingForms", unfollowed := true, recurses := true, apart := false }
def PostingFormsSaid : Prop := postingFormsRow.holds Try.pinned (OpenSpec.ofChange postingFormsSpec)

/-- ITS FALSE NEIGHBOUR: 'it returns false'. Refute it at one input. -/
def postingFormsWrong : ChangeSpec := { name := "postingForms", fn := fun _ => fun
  | [d1, d2] => { results := [.lit (.bool false)], args := [d1, d2] }
  | _ => none }
def PostingFormsWrongFalsely : Prop := postingFormsRow.holds Try.pinned (OpenSpec.ofChange postingFormsWrong)

/-- 'loggialaw08.PostingFinds': WHATEVER THE INPUT: true; the input reads as it did. -/
def postingFindsSpec : ChangeSpec := { name := "postingFinds", fn := fun _ => fun
  | [d1, d2, d3] => { results := [.lit (.bool true)], args := [d1, d2, d3] }
  | _ => none }
def postingFindsRow : OpenClaim := { program := "ytccmhjlniljhcaa", sum := "f4326b294a6823e2480cb146d49699d8a17b5bc87087ba5c1a0b5a6c8536c677", func := "loggia/loggialaw08.PostingFinds", spec := "postingFinds", unfollowed := true, recurses := true, apart := false }
def PostingFindsSaid : Prop := postingFindsRow.holds Try.pinned (OpenSpec.ofChange postingFindsSpec)

/-- ITS FALSE NEIGHBOUR: 'it returns false'. Refute it at one input. -/
def postingFindsWrong : ChangeSpec := { name := "postingFinds", fn := fun _ => fun
  | [d1, d2, d3] => { results := [.lit (.bool false)], args := [d1, d2, d3] }
  | _ => none }
def PostingFindsWrongFalsely : Prop := postingFindsRow.holds Try.pinned (OpenSpec.ofChange postingFindsWrong)

/- THE SECOND FORM. 'bulk': how many values and letters a reading holds, each counted each time it is reached (what is shared counts as often as it is met; a slice's spare places count too). A statement '..UptoSaid' is the law's where the arguments, and the package variables that the reading takes, are together of bulk at most 1048576: NARROWER than '..Said'. Prove '..Said' where nothing that the law and all that it calls make is longer than what came in: it says more and counts as full. Else prove '..UptoSaid'. A law counts once. -/
mutual
def uptoBulk {H : Type} : DataW H → Nat
  | .lit (.string bytes) => bytes.length + 1
  | .lit _ => 1
  | .nil => 1
  | .ptr d => uptoBulk d + 1
  | .slice elems spare => uptoBulkAll elems + uptoBulkAll spare + 1
  | .agg parts => uptoBulkAll parts + 1
  | .iface _ d => uptoBulk d + 1
  | .map entries => uptoBulkEntries entries + 1
  | .held _ => 1
def uptoBulkAll {H : Type} : List (DataW H) → Nat
  | [] => 0
  | d :: r => uptoBulk d + uptoBulkAll r
def uptoBulkEntries {H : Type} : List (Lit × DataW H) → Nat
  | [] => 0
  | x :: r => uptoBulkEntry x + uptoBulkEntries r
def uptoBulkEntry {H : Type} : Lit × DataW H → Nat
  | (.string bytes, d) => bytes.length + uptoBulk d + 1
  | (_, d) => uptoBulk d + 1
 end
def uptoSmall : (H : Type) → List (DataW H) → Bool := fun _ ds => decide (uptoBulkAll ds ≤ 1048576)
def OpenSpec.upto (s : _root_.Go.ChangeSpec) : _root_.Go.OpenSpec := { _root_.Go.OpenSpec.ofChange s with cond := some uptoSmall }

/-- 'loggialaw08.PostingBytes', WHERE WHAT IT READS IS OF BULK AT MOST 1048576: true; the input reads as it did. -/
def postingBytesUptoRow : OpenClaim := { program := "ytccmhjlniljhcaa", sum := "f4326b294a6823e2480cb146d49699d8a17b5bc87087ba5c1a0b5a6c8536c677", func := "loggia/loggialaw08.PostingBytes", spec := "postingBytes", unfollowed := true, recurses := true, apart := false, narrowed := true }
def PostingBytesUptoSaid : Prop := postingBytesUptoRow.holds Try.pinned (OpenSpec.upto postingBytesSpec)

/-- 'loggialaw08.PostingBack', WHERE WHAT IT READS IS OF BULK AT MOST 1048576: true; the input reads as it did. -/
def postingBackUptoRow : OpenClaim := { program := "ytccmhjlniljhcaa", sum := "f4326b294a6823e2480cb146d49699d8a17b5bc87087ba5c1a0b5a6c8536c677", func := "loggia/loggialaw08.PostingBack", spec := "postingBack", unfollowed := true, recurses := true, apart := false, narrowed := true }
def PostingBackUptoSaid : Prop := postingBackUptoRow.holds Try.pinned (OpenSpec.upto postingBackSpec)

/-- 'loggialaw08.PostingJoins', WHERE WHAT IT READS IS OF BULK AT MOST 1048576: true; the input reads as it did. -/
def postingJoinsUptoRow : OpenClaim := { program := "ytccmhjlniljhcaa", sum := "f4326b294a6823e2480cb146d49699d8a17b5bc87087ba5c1a0b5a6c8536c677", func := "loggia/loggialaw08.PostingJoins", spec := "postingJoins", unfollowed := true, recurses := true, apart := false, narrowed := true }
def PostingJoinsUptoSaid : Prop := postingJoinsUptoRow.holds Try.pinned (OpenSpec.upto postingJoinsSpec)

/-- 'loggialaw08.PostingForms', WHERE WHAT IT READS IS OF BULK AT MOST 1048576: true; the input reads as it did. -/
def postingFormsUptoRow : OpenClaim := { program := "ytccmhjlniljhcaa", sum := "f4326b294a6823e2480cb146d49699d8a17b5bc87087ba5c1a0b5a6c8536c677", func := "loggia/loggialaw08.PostingForms", spec := "postingForms", unfollowed := true, recurses := true, apart := false, narrowed := true }
def PostingFormsUptoSaid : Prop := postingFormsUptoRow.holds Try.pinned (OpenSpec.upto postingFormsSpec)

/-- 'loggialaw08.PostingFinds', WHERE WHAT IT READS IS OF BULK AT MOST 1048576: true; the input reads as it did. -/
def postingFindsUptoRow : OpenClaim := { program := "ytccmhjlniljhcaa", sum := "f4326b294a6823e2480cb146d49699d8a17b5bc87087ba5c1a0b5a6c8536c677", func := "loggia/loggialaw08.PostingFinds", spec := "postingFinds", unfollowed := true, recurses := true, apart := false, narrowed := true }
def PostingFindsUptoSaid : Prop := postingFindsUptoRow.holds Try.pinned (OpenSpec.upto postingFindsSpec)

end Rows
end Go.Proofs.Ytccmhjlniljhcaa
