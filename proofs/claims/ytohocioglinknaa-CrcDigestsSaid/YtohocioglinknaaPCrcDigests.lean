/-
  The statement Rows.CrcDigestsSaid: for whatever arguments the law returns true, and each argument reads behind the call as it read before.
  Conditions: none beyond the given row.
  (The frame around the walk is the one that the kit's own proof-skeleton program writes, turned to a slice of structs.)
-/
import Derived.Test.YtohocioglinknaaRows
import Derived.Test.YtohocioglinknaaLdigests
import Derived.Test.YtohocioglinknaaOpen
import Derived.Test.YtohocioglinknaaOpenc
import Derived.WalkKit
import Derived.ProofKit
import Derived.OpenShut
import Derived.ShutString
import Derived.ChangeOld
import Derived.Below
import Derived.Deep.SlicePairs
namespace Go.Proofs.Ytohocioglinknaa.crcDigests
open Go.ChangeShapes Go.WideShapes Go.ChangeAt Go.RowKit
open Go.ChangeMaps (open_string shut_string)
set_option linter.unusedVariables false

theorem own : ownKnob Try.prog.godebug = none := by kernel_rfl
theorem laidOut : laidOutB Try.prog = true := by kernel_rfl

/-! ### THE ROW's STEP: WRITTEN OUT: LEAVE IT -/
set_option maxRecDepth 100000 in
theorem lifted (os : Os) (started : os.Started) (H : Type) (enc : TypeId × Value → H) :
    ReturnsInHanded {} Try.checked os 6 .any (Rows.crcDigestsSpec.pre6 enc Try.prog Try.f6 Rows.crcDigestsRow.domain false) (Rows.crcDigestsSpec.post enc Try.prog Try.f6 false true false false) := by
  refine returnsInHanded_of_change (C := Try.checked) own started (by kernel_rfl) Try.func6
    (ChangeSpec.witness6 (enc := enc) (C := Try.checked) false ⟨#[], #[.slice none 0 0], []⟩ 8 (by kernel_rfl) (by kernel_rfl) (by kernel_rfl) (by kernel_rfl)) ?_
  intro W base args ds gs before hval0 hW hcnd _
  have hval : ∀ (j : Nat) t v, Try.f6.params[j]? = some t → args[j]? = some v → Value.okWide Try.prog W .any base t v := hval0
  have hW' := hW
  obtain ⟨p, q, hA0, hV, rfl, hfz, hnd⟩ := hW
  have hA : DataW.TrodAll enc Try.prog W 0 (fun _ => true) true Try.f6.params.toList args.toList ds p := hA0
  rw [Try.params6] at hA hval
  obtain ⟨v0, vs0, d0, ds0, p0, q0, hargs, rfl, rfl, h0, r0⟩ := trodAll_cons hA
  obtain ⟨rfl, rfl, rfl⟩ := trodAll_nil r0
  obtain rfl : args = #[v0] := by cases args; simp_all
  obtain ⟨rfl, rfl⟩ := trodVars_none hV
  obtain ⟨a0, len0, cap0, rfl⟩ := okWide_slice Try.underlying35 (hval 0 35 v0 rfl rfl)
  have k0 := h0
  have lt0 : ∀ x ∈ p0, x.block < W.heap.size := by obtain ⟨m, hm⟩ := k0; exact DataW.trod_lt m _ _ _ hm
  have w0 : IsOps W a0 len0 cap0 := by
    obtain ⟨fuel, hf⟩ := h0
    rcases Deep.open_slice_pairs Try.underlying35 Try.underlying41 (by kernel_rfl) rfl rfl (by kernel_rfl) (by kernel_rfl) hf with ⟨hcs, _⟩ | ⟨x, l, c, m, n, V0, V1, D0, D1, P0, P1, hcs, _, hl, hm, hmm, _, hcell⟩
    · simp [Value.cells] at hcs
      obtain ⟨rfl, rfl, rfl⟩ := hcs
      exact .inl ⟨rfl, rfl, rfl⟩
    · simp [Value.cells] at hcs
      obtain ⟨rfl, rfl, rfl⟩ := hcs
      refine .inr ⟨_, rfl, hl, hm, fun i hi => ?_⟩
      have hmi : i < m := by
        rw [hmm]
        split <;> omega
      obtain ⟨q0, q1, t0, t1⟩ := hcell i hmi
      obtain ⟨z, e0, _, wz⟩ := DataW.trod_int Try.underlying5 t0
      simp at e0
      obtain ⟨b, rfl⟩ := u8_of_wf wz
      rw [e0] at q0
      rcases open_ints Try.underlying22 Try.underlying5 (by kernel_rfl) t1 with ⟨hcs, _⟩ | ⟨x1, l1, c1, zs, hcs, _, hl1, hm1, hz1, _, hcell1, hwz1⟩
      · simp at hcs
        rw [hcs] at q1
        exact ⟨b, _, [], q0, q1, BS.nil_ _ _⟩
      · simp at hcs
        rw [hcs] at q1
        obtain ⟨bs, _, hbs⟩ := BS.of_row (w := W) (a := some x1) (len := l1) (cap := c1) (zs := zs) (.inr ⟨_, rfl, hl1, hm1, by simpa using hz1, hcell1, hwz1⟩)
        exact ⟨b, _, bs, q0, q1, hbs⟩
  clear hA0 hval0
  refine (digests_any W a0 len0 cap0 w0).mono fun e W' ⟨he, bel⟩ => ?_
  subst he
  exact ⟨_, rfl, _, _, _, [], _, [], hW', trodAll_mk1 (shut_bool Try.underlying4 _), (trodAll_cons_mk (Below.trod laidOut (by kernel_rfl) (of_decide_eq_true (by kernel_rfl)) k0 bel lt0) trodAll_mk0), rfl, bel.frame _, fun h => by cases h⟩

theorem over : Rows.crcDigestsRow.holds Try.pinned (OpenSpec.ofChange Rows.crcDigestsSpec) :=
  OpenClaim.holds_of_wide 6 Try.f6 rfl rfl rfl rfl rfl rfl rfl ⟨rfl, rfl, rfl, rfl, rfl⟩ rfl rfl rfl rfl rfl (by kernel_rfl) Try.func6 (by kernel_rfl)
    (of_decide_eq_true (by kernel_rfl)) (by unfold Func.isWrapper; first | (rw [if_pos (by decide +kernel)]; kernel_rfl) | (rw [if_neg (by decide +kernel)]; exact ⟨rfl, rfl⟩))
    (fun os started H enc _ => lifted os started H enc)

/-- ████ THE STATEMENT ████ -/
theorem proved : Rows.CrcDigestsSaid := over
#print axioms proved
end Go.Proofs.Ytohocioglinknaa.crcDigests
