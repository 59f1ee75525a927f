/-
  Contracts of bytealg.CompareString, strings.Compare, the closure of event.Terms.
  Conditions: none.
-/
import Derived.Test.YtbnjhpknagkiaaaDt
import Derived.Lib.Strings
import Derived.Lib.Slices
import Derived.Lib.Bytealg
namespace Go.Proofs.Ytbnjhpknagkiaaa
open Go.RowKit Go.Op

set_option maxHeartbeats 1000000 in
set_option maxRecDepth 100000 in
theorem bcompare_any (a b : ByteArray) (w : World) :
    Calls Try.prog 71 #[.string a, .string b] w fun e w' => e = .returned (.int .i64 (Lib.compareBytes a.data.toList b.data.toList)) ∧ w' = w := by
  go_enter Try.func71, Try.ntmps71
  go_wp2
  rw [run_callFunc_extern Try.func87 (by kernel_rfl) (by kernel_rfl) (by kernel_rfl) (e := Extern.BytealgCompare.compare) (by kernel_rfl), Lib.run_compareString]
  simp only [Result.andThen]
  rw [Oper.upon_value]
  go_wp2
  go_ret
  exact ⟨rfl, rfl⟩
set_option maxHeartbeats 1000000 in
theorem scompare_any (a b : ByteArray) (w : World) :
    Calls Try.prog 51 #[.string a, .string b] w fun e w' => e = .returned (.int .i64 (Lib.compareBytes a.data.toList b.data.toList)) ∧ w' = w := by
  go_enter Try.func51, Try.ntmps51
  go_wp2_with fail
  refine (bcompare_any a b w).mono ?_
  rintro e w' ⟨rfl, rfl⟩
  go_wp2
  go_ret
  exact ⟨rfl, rfl⟩

/-- a term's cells -/
abbrev Tm := List UInt8 × Value
def tmV (t : Tm) : Value := .agg #[.string ⟨t.1.toArray⟩, t.2]
def cmpT (s t : List UInt8) : Int := Lib.compareBytes s t
set_option maxHeartbeats 1600000 in
set_option maxRecDepth 100000 in
theorem terms1_any (w : World) (s t : List UInt8) (A B : Option Addr) (n m c d : Nat) :
    Calls Try.prog 50 #[.agg #[.string ⟨s.toArray⟩, .slice A n c], .agg #[.string ⟨t.toArray⟩, .slice B m d]] w fun e w' => e = .returned (.int .i64 (cmpT s t)) ∧ Ext w w' := by
  have hX : Ext w ((w.alloc (.cells #[.string ⟨s.toArray⟩, .slice A n c] 52)).alloc (.cells #[.string ⟨t.toArray⟩, .slice B m d] 52)) := Ext.al (Ext.of_alloc _ _) _
  have HX := Lib.hid hX
  clear hX
  go_enter Try.func50, Try.ntmps50
  go_wp2_with fail
  refine (scompare_any _ _ _).mono ?_
  rintro e w' ⟨rfl, rfl⟩
  go_wp2
  go_ret
  exact ⟨rfl, HX.out⟩
end Go.Proofs.Ytbnjhpknagkiaaa
