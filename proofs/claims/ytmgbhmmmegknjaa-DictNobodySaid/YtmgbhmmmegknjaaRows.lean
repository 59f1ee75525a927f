/-
  No cell of these rows narrows 'for every input' (looked for: loops, veiled, ifaces, maps, wideKeys, modest, calm, conditions, laid).
  DERIVED. THE GIVEN ROWS OF THIS SEAT. 4 by the template 'for every input the law returns true; each argument reads behind the call as it read before'; 0 by the template 'total and deterministic' (their statements: YtmgbhmmmegknjaaTotals.lean).
  GIVEN WITH THE SEED: the statements are not yours to turn. If you find one false, say at which input.
  Laid BY PROGRAM, IN A SANDBOX (cutbox-rows.mjs): the forced cells as the released guide's own fill.sh prints them over the translation e223e6dcf65ab46c… (all of the seat's roots in one cut). By AI agents, Wed Nov 11 2026. No macro, syntax, notation, axiom, sorry.
-/
import Derived.Test.YtmgbhmmmegknjaaChecked
import GoSem.Claim
import GoSem.ClaimJoined
import GoSem.ClaimMapViews
import Derived.JoinedTies
import Derived.KernelRfl
namespace Go.Proofs.Ytmgbhmmmegknjaa
/- THE CELL 'sum', in the pinned program and in every row, IS THE sha256 OF THE DUMP (.gsa) THAT YtmgbhmmmegknjaaProg.lean LOADS. Nothing in Lean hashes anything: it is a label: what it is worth is what the hold of that sum in a sandbox is worth. -/
noncomputable def Try.pinned : Pinned := { name := "ytmgbhmmmegknjaa", sum := "e223e6dcf65ab46c89707990ab9d4ad32a3ef4908419abd20320c28762e89613", checked := Try.checked }
namespace Rows
def none {H : Type} : Left H := { results := [], args := [] }

/-- 'loggialaw11.DictBytes': WHATEVER THE INPUT: true; the input reads as it did. -/
def dictBytesSpec : ChangeSpec := { name := "dictBytes", fn := fun _ => fun
  | [d1, d2] => { results := [.lit (.bool true)], args := [d1, d2] }
  | _ => none }
def dictBytesRow : OpenClaim := { program := "ytmgbhmmmegknjaa", sum := "e223e6dcf65ab46c89707990ab9d4ad32a3ef4908419abd20320c28762e89613", func := "loggia/loggialaw11.DictBytes", spec := "dictBytes", unfollowed := true, recurses := true, apart := false }
def DictBytesSaid : Prop := dictBytesRow.holds Try.pinned (OpenSpec.ofChange dictBytesSpec)

/-- ITS FALSE NEIGHBOUR: 'it returns false'. Refute it at one input. -/
def dictBytesWrong : ChangeSpec := { name := "dictBytes", fn := fun _ => fun
  | [d1, d2] => { results := [.lit (.bool false)], args := [d1, d2] }
  | _ => none }
def DictBytesWrongFalsely : Prop := dictBytesRow.holds Try.pinned (OpenSpec.ofChange dictBytesWrong)

/-- 'loggialaw11.DictBack': WHATEVER THE INPUT: true; the input reads as it did. -/
def dictBackSpec : ChangeSpec := { name := "dictBack", fn := fun _ => fun
  | [d1, d2] => { results := [.lit (.bool true)], args := [d1, d2] }
  | _ => none }
def dictBackRow : OpenClaim := { program := "ytmgbhmmmegknjaa", sum := "e223e6dcf65ab46c89707990ab9d4ad32a3ef4908419abd20320c28762e89613", func := "loggia/loggialaw11.DictBack", spec := "dictBack", unfollowed := true, recurses := true, apart := false }
def DictBackSaid : Prop := dictBackRow.holds Try.pinned (OpenSpec.ofChange dictBackSpec)

/-- ITS FALSE NEIGHBOUR: 'it returns false'. Refute it at one input. -/
def dictBackWrong : ChangeSpec := { name := "dictBack", fn := fun _ => fun
  | [d1, d2] => { results := [.lit (.bool false)], args := [d1, d2] }
  | _ => none }
def DictBackWrongFalsely : Prop := dictBackRow.holds Try.pinned (OpenSpec.ofChange dictBackWrong)

/-- 'loggialaw11.DictAsks': WHATEVER THE INPUT: true; the input reads as it did. -/
def dictAsksSpec : ChangeSpec := { name := "dictAsks", fn := fun _ => fun
  | [d1, d2, d3] => { results := [.lit (.bool true)], args := [d1, d2, d3] }
  | _ => none }
def dictAsksRow : OpenClaim := { program := "ytmgbhmmmegknjaa", sum := "e223e6dcf65ab46c89707990ab9d4ad32a3ef4908419abd20320c28762e89613", func := "loggia/loggialaw11.DictAsks", spec := "dictAsks", unfollowed := true, recurses := true, apart := false }
def DictAsksSaid : Prop := dictAsksRow.holds Try.pinned (OpenSpec.ofChange dictAsksSpec)

/-- ITS FALSE NEIGHBOUR: 'it returns false'. Refute it at one input. -/
def dictAsksWrong : ChangeSpec := { name := "dictAsks", fn := fun _ => fun
  | [d1, d2, d3] => { results := [.lit (.bool false)], args := [d1, d2, d3] }
  | _ => none }
def DictAsksWrongFalsely : Prop := dictAsksRow.holds Try.pinned (OpenSpec.ofChange dictAsksWrong)

/-- 'loggialaw11.DictNobody': WHATEVER THE INPUT: true; the input reads as it did. -/
def dictNobodySpec : ChangeSpec := { name := "dictNobody", fn := fun _ => fun
  | [d1, d2] => { results := [.lit (.bool true)], args := [d1, d2] }
  | _ => none }
def dictNobodyRow : OpenClaim := { program := "ytmgbhmmmegknjaa", sum := "e223e6dcf65ab46c89707990ab9d4ad32a3ef4908419abd20320c28762e89613", func := "loggia/loggialaw11.DictNobody", spec := "dictNobody", unfollowed := true, recurses := true, apart := false }
def DictNobodySaid : Prop := dictNobodyRow.holds Try.pinned (OpenSpec.ofChange dictNobodySpec)

/-- ITS FALSE NEIGHBOUR: 'it returns false'. Refute it at one input. -/
def dictNobodyWrong : ChangeSpec := { name := "dictNobody", fn := fun _ => fun
  | [d1, d2] => { results := [.lit (.bool false)], args := [d1, d2] }
  | _ => none }
def DictNobodyWrongFalsely : Prop := dictNobodyRow.holds Try.pinned (OpenSpec.ofChange dictNobodyWrong)

/- THE SECOND FORM. 'bulk': how many values and letters a reading holds, each counted each time it is reached (what is shared counts as often as it is met; a slice's spare places count too). A statement '..UptoSaid' is the law's where the arguments, and the package variables that the reading takes, are together of bulk at most 1048576: NARROWER than '..Said'. Prove '..Said' where nothing that the law and all that it calls make is longer than what came in: it says more and counts as full. Else prove '..UptoSaid'. A law counts once. -/
mutual
def uptoBulk {H : Type} : DataW H → Nat
  | .lit (.string bytes) => bytes.length + 1
  | .lit _ => 1
  | .nil => 1
  | .ptr d => uptoBulk d + 1
  | .slice elems spare => uptoBulkAll elems + uptoBulkAll spare + 1
  | .agg parts => uptoBulkAll parts + 1
  | .iface _ d => uptoBulk d + 1
  | .map entries => uptoBulkEntries entries + 1
  | .held _ => 1
def uptoBulkAll {H : Type} : List (DataW H) → Nat
  | [] => 0
  | d :: r => uptoBulk d + uptoBulkAll r
def uptoBulkEntries {H : Type} : List (Lit × DataW H) → Nat
  | [] => 0
  | x :: r => uptoBulkEntry x + uptoBulkEntries r
def uptoBulkEntry {H : Type} : Lit × DataW H → Nat
  | (.string bytes, d) => bytes.length + uptoBulk d + 1
  | (_, d) => uptoBulk d + 1
 end
def uptoSmall : (H : Type) → List (DataW H) → Bool := fun _ ds => decide (uptoBulkAll ds ≤ 1048576)
def OpenSpec.upto (s : _root_.Go.ChangeSpec) : _root_.Go.OpenSpec := { _root_.Go.OpenSpec.ofChange s with cond := some uptoSmall }

/-- 'loggialaw11.DictBytes', WHERE WHAT IT READS IS OF BULK AT MOST 1048576: true; the input reads as it did. -/
def dictBytesUptoRow : OpenClaim := { program := "ytmgbhmmmegknjaa", sum := "e223e6dcf65ab46c89707990ab9d4ad32a3ef4908419abd20320c28762e89613", func := "loggia/loggialaw11.DictBytes", spec := "dictBytes", unfollowed := true, recurses := true, apart := false, narrowed := true }
def DictBytesUptoSaid : Prop := dictBytesUptoRow.holds Try.pinned (OpenSpec.upto dictBytesSpec)

/-- 'loggialaw11.DictBack', WHERE WHAT IT READS IS OF BULK AT MOST 1048576: true; the input reads as it did. -/
def dictBackUptoRow : OpenClaim := { program := "ytmgbhmmmegknjaa", sum := "e223e6dcf65ab46c89707990ab9d4ad32a3ef4908419abd20320c28762e89613", func := "loggia/loggialaw11.DictBack", spec := "dictBack", unfollowed := true, recurses := true, apart := false, narrowed := true }
def DictBackUptoSaid : Prop := dictBackUptoRow.holds Try.pinned (OpenSpec.upto dictBackSpec)

/-- 'loggialaw11.DictAsks', WHERE WHAT IT READS IS OF BULK AT MOST 1048576: true; the input reads as it did. -/
def dictAsksUptoRow : OpenClaim := { program := "ytmgbhmmmegknjaa", sum := "e223e6dcf65ab46c89707990ab9d4ad32a3ef4908419abd20320c28762e89613", func := "loggia/loggialaw11.DictAsks", spec := "dictAsks", unfollowed := true, recurses := true, apart := false, narrowed := true }
def DictAsksUptoSaid : Prop := dictAsksUptoRow.holds Try.pinned (OpenSpec.upto dictAsksSpec)

/-- 'loggialaw11.DictNobody', WHERE WHAT IT READS IS OF BULK AT MOST 1048576: true; the input reads as it did. -/
def dictNobodyUptoRow : OpenClaim := { program := "ytmgbhmmmegknjaa", sum := "e223e6dcf65ab46c89707990ab9d4ad32a3ef4908419abd20320c28762e89613", func := "loggia/loggialaw11.DictNobody", spec := "dictNobody", unfollowed := true, recurses := true, apart := false, narrowed := true }
def DictNobodyUptoSaid : Prop := dictNobodyUptoRow.holds Try.pinned (OpenSpec.upto dictNobodySpec)

end Rows
end Go.Proofs.Ytmgbhmmmegknjaa
