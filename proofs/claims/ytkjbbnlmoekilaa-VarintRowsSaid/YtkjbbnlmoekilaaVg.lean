/-
  The law's 'awake' (the page's example).
  Conditions: none.
-/
import Derived.Test.YtkjbbnlmoekilaaVf
import Derived.Test.YtkjbbnlmoekilaaStep
namespace Go.Proofs.Ytkjbbnlmoekilaa
open Go.RowKit

/-- a slice literal of bytes -/
theorem BS.lit (w : World) (cs : Array Value) (bs : List UInt8) (h : cs.toList = bv bs) (n : Nat) (hn : n = bs.length) (hm : n ≤ maxLen := by simp [maxLen]) :
    BS (w.alloc (.cells cs 5)) (w.heap.size + 1) (.slice (some ⟨w.heap.size, 0, none⟩) n n) bs := by
  subst hn
  refine ⟨_, _, rfl, Nat.le_refl _, hm, fun h => (by cases h), ?_⟩
  have hs : cs.size = bs.length * 1 := by rw [← Array.length_toList, h, bv_length, Nat.mul_one]
  have := Rd.new_ w cs 5 1 bs.length hs
  rwa [h] at this

/-- 'string(b)', ahead of a walk -/
theorem str_of {w : World} {base : Nat} {v : Value} {bs : List UInt8} (h : Own w base v bs) (s : ByteArray) (hs : (⟨bs.toArray⟩ : ByteArray) = s) : (convert 22 9 v).run Try.prog w = .ok (.string s) w := by
  subst hs
  exact run_string_of_bytes w _ _ 5 Try.underlying22 Try.underlying5 Try.underlying9 _ v bs h.bs
theorem str_of_bs {w : World} {B : Nat} {v : Value} {bs : List UInt8} (h : BS w B v bs) (s : ByteArray) (hs : (⟨bs.toArray⟩ : ByteArray) = s) : (convert 22 9 v).run Try.prog w = .ok (.string s) w := by
  subst hs
  exact run_string_of_bytes w _ _ 5 Try.underlying22 Try.underlying5 Try.underlying9 _ v bs h

theorem ex_get (w : World) (B : Nat) (v : Value) (h : BS w B v [172, 2, 7]) (hB : B ≤ w.heap.size) :
    Calls Try.prog 9 #[v] w fun e w' => ∃ r, e = .returned (.tuple #[.int .u64 300, r, .int .i64 0]) ∧ BS w' B r [7] ∧ Ext w w' := by
  have hg := get_any w B v [172, 2, 7] h hB (by decide)
  have e1 : vgN [172, 2, 7] = 300 := by decide +kernel
  have e2 : vgE [172, 2, 7] = 0 := by decide +kernel
  have e3 : vgRest [172, 2, 7] = [7] := by decide +kernel
  rw [e1, e2, e3] at hg
  exact hg
theorem ex_put (w : World) (B : Nat) (v : Value) (h : BS w B v [9]) (hB : B ≤ w.heap.size) :
    Calls Try.prog 11 #[v, .int .u64 300] w fun e w' => ∃ v', e = .returned v' ∧ Own w' w.heap.size v' [9, 172, 2] ∧ Ext w w' := by
  have hg := put_any w B v [9] 300 h hB (by decide) (U64.mk (by decide))
  have e1 : ([9] : List UInt8) ++ enc 300 = [9, 172, 2] := by decide +kernel
  rw [e1] at hg
  exact hg
theorem ex_putint (w : World) :
    Calls Try.prog 17 #[.slice none 0 0, .int .i64 (-1)] w fun e w' => ∃ v', e = .returned v' ∧ Own w' w.heap.size v' [1] ∧ Ext w w' := by
  have hg := putint_any w w.heap.size (.slice none 0 0) [] (-1) (BS.nil_ _ _) (Nat.le_refl _) (by decide) ⟨by decide, by decide⟩
  have e1 : ([] : List UInt8) ++ enc (zig (-1)) = [1] := by decide +kernel
  rw [e1] at hg
  exact hg

set_option maxHeartbeats 1600000 in
set_option maxRecDepth 100000 in
theorem awake_any (w : World) : Calls Try.prog 14 #[] w fun e w' => e = .returned (.bool true) ∧ Ext w w' := by
  go_enter Try.func14, Try.ntmps14
  go_wp2_with fail
  refine (ex_get _ _ _ (BS.lit w #[.int .u8 172, .int .u8 2, .int .u8 7] [172, 2, 7] rfl 3 rfl) (by simp)).mono ?_
  rintro e w1 ⟨r, rfl, hr, hx1⟩
  have hz1 := hx1.size
  simp only [World.size_alloc] at hz1
  go_wp2_with fail
  refine (ex_put _ _ _ (BS.lit w1 #[.int .u8 9] [9] rfl 1 rfl) (by simp)).mono ?_
  rintro e w2 ⟨v2, rfl, hown2, hx2⟩
  have s2 := str_of hown2 _ rfl
  have s3 := str_of_bs (hr.ext hz1 ((Ext.of_alloc _ _).trans hx2)) _ rfl
  go_wp2_with fail
  refine (ex_putint _).mono ?_
  rintro e w3 ⟨v3, rfl, hown3, hx3⟩
  have s4 := str_of hown3 _ rfl
  go_wp2
  go_ret
  exact ⟨rfl, (((Ext.of_alloc _ _).trans hx1).trans (Ext.of_alloc _ _)).trans (hx2.trans hx3)⟩

end Go.Proofs.Ytkjbbnlmoekilaa
