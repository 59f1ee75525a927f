/-
  No cell of these rows narrows 'for every input' (looked for: loops, veiled, ifaces, maps, wideKeys, modest, calm, conditions, laid).
  DERIVED. THE GIVEN ROWS OF THIS SEAT. 7 by the template 'for every input the law returns true; each argument reads behind the call as it read before'; 0 by the template 'total and deterministic' (their statements: YtbnjhpknagkiaaaTotals.lean).
  GIVEN WITH THE SEED: the statements are not yours to turn. If you find one false, say at which input.
  Laid BY PROGRAM, IN A SANDBOX (cutbox-rows.mjs): the forced cells as the released guide's own fill.sh prints them over the translation c494dae3b26375a9… (all of the seat's roots in one cut). By AI agents, Wed Nov 11 2026. No macro, syntax, notation, axiom, sorry.
-/
import Derived.Test.YtbnjhpknagkiaaaChecked
import GoSem.Claim
import GoSem.ClaimJoined
import GoSem.ClaimMapViews
import Derived.JoinedTies
import Derived.KernelRfl
namespace Go.Proofs.Ytbnjhpknagkiaaa
/- THE CELL 'sum', in the pinned program and in every row, IS THE sha256 OF THE DUMP (.gsa) THAT YtbnjhpknagkiaaaProg.lean LOADS. Nothing in Lean hashes anything: it is a label: what it is worth is what the hold of that sum in a sandbox is worth. -/
noncomputable def Try.pinned : Pinned := { name := "ytbnjhpknagkiaaa", sum := "c494dae3b26375a9b6edd4d0305924dcba119c25a858ce28a3f2c0b71e2af4fa", checked := Try.checked }
namespace Rows
def none {H : Type} : Left H := { results := [], args := [] }

/-- 'loggialaw10.EventCodes': WHATEVER THE INPUT: true; the input reads as it did. -/
def eventCodesSpec : ChangeSpec := { name := "eventCodes", fn := fun _ => fun
  | [d1, d2] => { results := [.lit (.bool true)], args := [d1, d2] }
  | _ => none }
def eventCodesRow : OpenClaim := { program := "ytbnjhpknagkiaaa", sum := "c494dae3b26375a9b6edd4d0305924dcba119c25a858ce28a3f2c0b71e2af4fa", func := "loggia/loggialaw10.EventCodes", spec := "eventCodes", inPlace := ["internal/abi.NoEscape", "internal/bytealg.abigen_runtime_cmpstring"], unfollowed := true, recurses := true, apart := false }
def EventCodesSaid : Prop := eventCodesRow.holds Try.pinned (OpenSpec.ofChange eventCodesSpec)

/-- ITS FALSE NEIGHBOUR: 'it returns false'. Refute it at one input. -/
def eventCodesWrong : ChangeSpec := { name := "eventCodes", fn := fun _ => fun
  | [d1, d2] => { results := [.lit (.bool false)], args := [d1, d2] }
  | _ => none }
def EventCodesWrongFalsely : Prop := eventCodesRow.holds Try.pinned (OpenSpec.ofChange eventCodesWrong)

/-- 'loggialaw10.EventBack': WHATEVER THE INPUT: true; the input reads as it did. -/
def eventBackSpec : ChangeSpec := { name := "eventBack", fn := fun _ => fun
  | [d1, d2, d3] => { results := [.lit (.bool true)], args := [d1, d2, d3] }
  | _ => none }
def eventBackRow : OpenClaim := { program := "ytbnjhpknagkiaaa", sum := "c494dae3b26375a9b6edd4d0305924dcba119c25a858ce28a3f2c0b71e2af4fa", func := "loggia/loggialaw10.EventBack", spec := "eventBack", inPlace := ["internal/abi.NoEscape", "internal/bytealg.abigen_runtime_cmpstring"], unfollowed := true, recurses := true, apart := false }
def EventBackSaid : Prop := eventBackRow.holds Try.pinned (OpenSpec.ofChange eventBackSpec)

/-- ITS FALSE NEIGHBOUR: 'it returns false'. Refute it at one input. -/
def eventBackWrong : ChangeSpec := { name := "eventBack", fn := fun _ => fun
  | [d1, d2, d3] => { results := [.lit (.bool false)], args := [d1, d2, d3] }
  | _ => none }
def EventBackWrongFalsely : Prop := eventBackRow.holds Try.pinned (OpenSpec.ofChange eventBackWrong)

/-- 'loggialaw10.EventTerms': WHATEVER THE INPUT: true; the input reads as it did. -/
def eventTermsSpec : ChangeSpec := { name := "eventTerms", fn := fun _ => fun
  | [d] => { results := [.lit (.bool true)], args := [d] }
  | _ => none }
def eventTermsRow : OpenClaim := { program := "ytbnjhpknagkiaaa", sum := "c494dae3b26375a9b6edd4d0305924dcba119c25a858ce28a3f2c0b71e2af4fa", func := "loggia/loggialaw10.EventTerms", spec := "eventTerms", inPlace := ["internal/abi.NoEscape", "internal/bytealg.abigen_runtime_cmpstring"], unfollowed := true, recurses := true, apart := false }
def EventTermsSaid : Prop := eventTermsRow.holds Try.pinned (OpenSpec.ofChange eventTermsSpec)

/-- ITS FALSE NEIGHBOUR: 'it returns false'. Refute it at one input. -/
def eventTermsWrong : ChangeSpec := { name := "eventTerms", fn := fun _ => fun
  | [d] => { results := [.lit (.bool false)], args := [d] }
  | _ => none }
def EventTermsWrongFalsely : Prop := eventTermsRow.holds Try.pinned (OpenSpec.ofChange eventTermsWrong)

/-- 'loggialaw10.EventApart': WHATEVER THE INPUT: true; the input reads as it did. -/
def eventApartSpec : ChangeSpec := { name := "eventApart", fn := fun _ => fun
  | [d] => { results := [.lit (.bool true)], args := [d] }
  | _ => none }
def eventApartRow : OpenClaim := { program := "ytbnjhpknagkiaaa", sum := "c494dae3b26375a9b6edd4d0305924dcba119c25a858ce28a3f2c0b71e2af4fa", func := "loggia/loggialaw10.EventApart", spec := "eventApart", inPlace := ["internal/abi.NoEscape", "internal/bytealg.abigen_runtime_cmpstring"], unfollowed := true, recurses := true, apart := false }
def EventApartSaid : Prop := eventApartRow.holds Try.pinned (OpenSpec.ofChange eventApartSpec)

/-- ITS FALSE NEIGHBOUR: 'it returns false'. Refute it at one input. -/
def eventApartWrong : ChangeSpec := { name := "eventApart", fn := fun _ => fun
  | [d] => { results := [.lit (.bool false)], args := [d] }
  | _ => none }
def EventApartWrongFalsely : Prop := eventApartRow.holds Try.pinned (OpenSpec.ofChange eventApartWrong)

/-- 'loggialaw10.EventForms': WHATEVER THE INPUT: true; the input reads as it did. -/
def eventFormsSpec : ChangeSpec := { name := "eventForms", fn := fun _ => fun
  | [d1, d2, d3] => { results := [.lit (.bool true)], args := [d1, d2, d3] }
  | _ => none }
def eventFormsRow : OpenClaim := { program := "ytbnjhpknagkiaaa", sum := "c494dae3b26375a9b6edd4d0305924dcba119c25a858ce28a3f2c0b71e2af4fa", func := "loggia/loggialaw10.EventForms", spec := "eventForms", inPlace := ["internal/abi.NoEscape", "internal/bytealg.abigen_runtime_cmpstring"], unfollowed := true, recurses := true, apart := false }
def EventFormsSaid : Prop := eventFormsRow.holds Try.pinned (OpenSpec.ofChange eventFormsSpec)

/-- ITS FALSE NEIGHBOUR: 'it returns false'. Refute it at one input. -/
def eventFormsWrong : ChangeSpec := { name := "eventForms", fn := fun _ => fun
  | [d1, d2, d3] => { results := [.lit (.bool false)], args := [d1, d2, d3] }
  | _ => none }
def EventFormsWrongFalsely : Prop := eventFormsRow.holds Try.pinned (OpenSpec.ofChange eventFormsWrong)

/-- 'loggialaw10.EventBatches': WHATEVER THE INPUT: true; the input reads as it did. -/
def eventBatchesSpec : ChangeSpec := { name := "eventBatches", fn := fun _ => fun
  | [d] => { results := [.lit (.bool true)], args := [d] }
  | _ => none }
def eventBatchesRow : OpenClaim := { program := "ytbnjhpknagkiaaa", sum := "c494dae3b26375a9b6edd4d0305924dcba119c25a858ce28a3f2c0b71e2af4fa", func := "loggia/loggialaw10.EventBatches", spec := "eventBatches", inPlace := ["internal/abi.NoEscape", "internal/bytealg.abigen_runtime_cmpstring"], unfollowed := true, recurses := true, apart := false }
def EventBatchesSaid : Prop := eventBatchesRow.holds Try.pinned (OpenSpec.ofChange eventBatchesSpec)

/-- ITS FALSE NEIGHBOUR: 'it returns false'. Refute it at one input. -/
def eventBatchesWrong : ChangeSpec := { name := "eventBatches", fn := fun _ => fun
  | [d] => { results := [.lit (.bool false)], args := [d] }
  | _ => none }
def EventBatchesWrongFalsely : Prop := eventBatchesRow.holds Try.pinned (OpenSpec.ofChange eventBatchesWrong)

/-- 'loggialaw10.EventBytes': WHATEVER THE INPUT: true; the input reads as it did. -/
def eventBytesSpec : ChangeSpec := { name := "eventBytes", fn := fun _ => fun
  | [d1, d2] => { results := [.lit (.bool true)], args := [d1, d2] }
  | _ => none }
def eventBytesRow : OpenClaim := { program := "ytbnjhpknagkiaaa", sum := "c494dae3b26375a9b6edd4d0305924dcba119c25a858ce28a3f2c0b71e2af4fa", func := "loggia/loggialaw10.EventBytes", spec := "eventBytes", inPlace := ["internal/abi.NoEscape", "internal/bytealg.abigen_runtime_cmpstring"], unfollowed := true, recurses := true, apart := false }
def EventBytesSaid : Prop := eventBytesRow.holds Try.pinned (OpenSpec.ofChange eventBytesSpec)

/-- ITS FALSE NEIGHBOUR: 'it returns false'. Refute it at one input. -/
def eventBytesWrong : ChangeSpec := { name := "eventBytes", fn := fun _ => fun
  | [d1, d2] => { results := [.lit (.bool false)], args := [d1, d2] }
  | _ => none }
def EventBytesWrongFalsely : Prop := eventBytesRow.holds Try.pinned (OpenSpec.ofChange eventBytesWrong)

/- THE SECOND FORM. 'bulk': how many values and letters a reading holds, each counted each time it is reached (what is shared counts as often as it is met; a slice's spare places count too). A statement '..UptoSaid' is the law's where the arguments, and the package variables that the reading takes, are together of bulk at most 1048576: NARROWER than '..Said'. Prove '..Said' where nothing that the law and all that it calls make is longer than what came in: it says more and counts as full. Else prove '..UptoSaid'. A law counts once. -/
mutual
def uptoBulk {H : Type} : DataW H → Nat
  | .lit (.string bytes) => bytes.length + 1
  | .lit _ => 1
  | .nil => 1
  | .ptr d => uptoBulk d + 1
  | .slice elems spare => uptoBulkAll elems + uptoBulkAll spare + 1
  | .agg parts => uptoBulkAll parts + 1
  | .iface _ d => uptoBulk d + 1
  | .map entries => uptoBulkEntries entries + 1
  | .held _ => 1
def uptoBulkAll {H : Type} : List (DataW H) → Nat
  | [] => 0
  | d :: r => uptoBulk d + uptoBulkAll r
def uptoBulkEntries {H : Type} : List (Lit × DataW H) → Nat
  | [] => 0
  | x :: r => uptoBulkEntry x + uptoBulkEntries r
def uptoBulkEntry {H : Type} : Lit × DataW H → Nat
  | (.string bytes, d) => bytes.length + uptoBulk d + 1
  | (_, d) => uptoBulk d + 1
 end
def uptoSmall : (H : Type) → List (DataW H) → Bool := fun _ ds => decide (uptoBulkAll ds ≤ 1048576)
def OpenSpec.upto (s : _root_.Go.ChangeSpec) : _root_.Go.OpenSpec := { _root_.Go.OpenSpec.ofChange s with cond := some uptoSmall }

/-- 'loggialaw10.EventCodes', WHERE WHAT IT READS IS OF BULK AT MOST 1048576: true; the input reads as it did. -/
def eventCodesUptoRow : OpenClaim := { program := "ytbnjhpknagkiaaa", sum := "c494dae3b26375a9b6edd4d0305924dcba119c25a858ce28a3f2c0b71e2af4fa", func := "loggia/loggialaw10.EventCodes", spec := "eventCodes", inPlace := ["internal/abi.NoEscape", "internal/bytealg.abigen_runtime_cmpstring"], unfollowed := true, recurses := true, apart := false, narrowed := true }
def EventCodesUptoSaid : Prop := eventCodesUptoRow.holds Try.pinned (OpenSpec.upto eventCodesSpec)

/-- 'loggialaw10.EventBack', WHERE WHAT IT READS IS OF BULK AT MOST 1048576: true; the input reads as it did. -/
def eventBackUptoRow : OpenClaim := { program := "ytbnjhpknagkiaaa", sum := "c494dae3b26375a9b6edd4d0305924dcba119c25a858ce28a3f2c0b71e2af4fa", func := "loggia/loggialaw10.EventBack", spec := "eventBack", inPlace := ["internal/abi.NoEscape", "internal/bytealg.abigen_runtime_cmpstring"], unfollowed := true, recurses := true, apart := false, narrowed := true }
def EventBackUptoSaid : Prop := eventBackUptoRow.holds Try.pinned (OpenSpec.upto eventBackSpec)

/-- 'loggialaw10.EventTerms', WHERE WHAT IT READS IS OF BULK AT MOST 1048576: true; the input reads as it did. -/
def eventTermsUptoRow : OpenClaim := { program := "ytbnjhpknagkiaaa", sum := "c494dae3b26375a9b6edd4d0305924dcba119c25a858ce28a3f2c0b71e2af4fa", func := "loggia/loggialaw10.EventTerms", spec := "eventTerms", inPlace := ["internal/abi.NoEscape", "internal/bytealg.abigen_runtime_cmpstring"], unfollowed := true, recurses := true, apart := false, narrowed := true }
def EventTermsUptoSaid : Prop := eventTermsUptoRow.holds Try.pinned (OpenSpec.upto eventTermsSpec)

/-- 'loggialaw10.EventApart', WHERE WHAT IT READS IS OF BULK AT MOST 1048576: true; the input reads as it did. -/
def eventApartUptoRow : OpenClaim := { program := "ytbnjhpknagkiaaa", sum := "c494dae3b26375a9b6edd4d0305924dcba119c25a858ce28a3f2c0b71e2af4fa", func := "loggia/loggialaw10.EventApart", spec := "eventApart", inPlace := ["internal/abi.NoEscape", "internal/bytealg.abigen_runtime_cmpstring"], unfollowed := true, recurses := true, apart := false, narrowed := true }
def EventApartUptoSaid : Prop := eventApartUptoRow.holds Try.pinned (OpenSpec.upto eventApartSpec)

/-- 'loggialaw10.EventForms', WHERE WHAT IT READS IS OF BULK AT MOST 1048576: true; the input reads as it did. -/
def eventFormsUptoRow : OpenClaim := { program := "ytbnjhpknagkiaaa", sum := "c494dae3b26375a9b6edd4d0305924dcba119c25a858ce28a3f2c0b71e2af4fa", func := "loggia/loggialaw10.EventForms", spec := "eventForms", inPlace := ["internal/abi.NoEscape", "internal/bytealg.abigen_runtime_cmpstring"], unfollowed := true, recurses := true, apart := false, narrowed := true }
def EventFormsUptoSaid : Prop := eventFormsUptoRow.holds Try.pinned (OpenSpec.upto eventFormsSpec)

/-- 'loggialaw10.EventBatches', WHERE WHAT IT READS IS OF BULK AT MOST 1048576: true; the input reads as it did. -/
def eventBatchesUptoRow : OpenClaim := { program := "ytbnjhpknagkiaaa", sum := "c494dae3b26375a9b6edd4d0305924dcba119c25a858ce28a3f2c0b71e2af4fa", func := "loggia/loggialaw10.EventBatches", spec := "eventBatches", inPlace := ["internal/abi.NoEscape", "internal/bytealg.abigen_runtime_cmpstring"], unfollowed := true, recurses := true, apart := false, narrowed := true }
def EventBatchesUptoSaid : Prop := eventBatchesUptoRow.holds Try.pinned (OpenSpec.upto eventBatchesSpec)

/-- 'loggialaw10.EventBytes', WHERE WHAT IT READS IS OF BULK AT MOST 1048576: true; the input reads as it did. -/
def eventBytesUptoRow : OpenClaim := { program := "ytbnjhpknagkiaaa", sum := "c494dae3b26375a9b6edd4d0305924dcba119c25a858ce28a3f2c0b71e2af4fa", func := "loggia/loggialaw10.EventBytes", spec := "eventBytes", inPlace := ["internal/abi.NoEscape", "internal/bytealg.abigen_runtime_cmpstring"], unfollowed := true, recurses := true, apart := false, narrowed := true }
def EventBytesUptoSaid : Prop := eventBytesUptoRow.holds Try.pinned (OpenSpec.upto eventBytesSpec)

end Rows
end Go.Proofs.Ytbnjhpknagkiaaa
