/-
  Contract of slices.SortStableFunc over terms, at one block.
  Conditions: fewer than 20 terms.
-/
import Derived.Test.YtbnjhpknagkiaaaUh
namespace Go.Proofs.Ytbnjhpknagkiaaa
open Go.RowKit Go.Op

set_option maxHeartbeats 1600000 in
set_option maxRecDepth 100000 in
theorem stable_small (w : World) (g n cap : Nat) (rs : List Value) (l : List Tm) (htr : TR w g rs l) (hs : TmS l) (hn : n = l.length) (hn2 : n < 20) (hc : n ≤ cap) (hc2 : cap ≤ maxLen) :
    Calls Try.prog 70 #[.slice (some ⟨g, 0, none⟩) n cap, .int .i64 n, .func (.func 50) #[] #[]] w fun e w' => e = .returned (.tuple #[]) ∧ TR w' g rs (isort l) ∧ Kept (fun k => k = g) w w' := by
  have hi := isort_any w g n cap rs [] l [] (by simpa using htr) hs (by simpa using hn) (by omega) hc hc2
  have e0 : (([] : List Tm).length : Int) = 0 := rfl
  have e1 : ((([] : List Tm).length + l.length : Nat) : Int) = (n : Int) := by simp [hn]
  rw [e0, e1] at hi
  have Hi := Lib.hid hi
  have h20 : ¬(20 : Int) ≤ n := by omega
  have h21 : ¬(20 : Int) < n := by omega
  clear htr hs hn hi e0 e1
  go_enter Try.func70, Try.ntmps70
  go_wp2_with fail
  refine wp_loop_rounds 1 ?_
  rw [rounds_succ]
  go_wp2_with fail
  refine Hi.out.mono ?_
  rintro e w1 ⟨rfl, htr, hk⟩
  go_wp2_with fail
  refine wp_loop_rounds 1 ?_
  rw [rounds_succ]
  go_wp2
  go_end0
  exact ⟨rfl, by simpa using htr, hk⟩
set_option maxHeartbeats 1600000 in
set_option maxRecDepth 100000 in
theorem sort_small (w : World) (g n cap : Nat) (rs : List Value) (l : List Tm) (htr : TR w g rs l) (hs : TmS l) (hn : n = l.length) (hn2 : n < 20) (hc : n ≤ cap) (hc2 : cap ≤ maxLen) :
    Calls Try.prog 49 #[.slice (some ⟨g, 0, none⟩) n cap, .func (.func 50) #[] #[]] w fun e w' => e = .returned (.tuple #[]) ∧ TR w' g rs (isort l) ∧ Kept (fun k => k = g) w w' := by
  have Hi := Lib.hid (stable_small w g n cap rs l htr hs hn hn2 hc hc2)
  clear htr hs hn
  go_enter Try.func49, Try.ntmps49
  go_wp2_with fail
  refine Hi.out.mono ?_
  rintro e w1 ⟨rfl, htr, hk⟩
  go_wp2
  go_end0
  exact ⟨rfl, htr, hk⟩
end Go.Proofs.Ytbnjhpknagkiaaa
