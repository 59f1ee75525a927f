/-
  Sorting a row of the call's own of terms.
  Conditions: fewer than 20 terms.
-/
import Derived.Test.YtbnjhpknagkiaaaUk
namespace Go.Proofs.Ytbnjhpknagkiaaa
open Go.RowKit Go.Op

def toTm (p : Pq) : Tm := (p.1, .slice (some ⟨p.2.2, 0, none⟩) 1 1)
/-- the same order, on texts, places and blocks -/
def insP (x : Pq) : List Pq → List Pq
  | [] => [x]
  | y :: q => if cmpT x.1 y.1 < 0 then y :: insP x q else x :: y :: q
def isP : List Pq → List Pq → List Pq
  | acc, [] => acc
  | acc, x :: l => isP (insP x acc) l
def psort (l : List Pq) : List Pq := (isP [] l).reverse
theorem insP_map (x : Pq) : ∀ q : List Pq, insR (toTm x) (q.map toTm) = (insP x q).map toTm
  | [] => rfl
  | y :: q => by
    have hl : ltT (toTm x) (toTm y) = decide (cmpT x.1 y.1 < 0) := rfl
    simp only [List.map_cons, insR, insP]
    by_cases h : cmpT x.1 y.1 < 0
    · rw [if_pos (show ltT (toTm x) (toTm y) = true by rw [hl]; exact decide_eq_true h), if_pos h, insP_map x q]
      rfl
    · rw [if_neg (show ¬ltT (toTm x) (toTm y) = true by rw [hl]; simpa using h), if_neg h]
      rfl
theorem isP_map : ∀ (l acc : List Pq), isR (acc.map toTm) (l.map toTm) = (isP acc l).map toTm
  | [], _ => rfl
  | x :: l, acc => by
    simp only [List.map_cons, isR, isP]
    rw [insP_map]
    exact isP_map l (insP x acc)
theorem psort_map (l : List Pq) : isort (l.map toTm) = (psort l).map toTm := by
  unfold isort psort
  have := isP_map l []
  rw [List.map_nil] at this
  rw [this, List.map_reverse]
theorem insP_perm (x : Pq) : ∀ q : List Pq, (insP x q).Perm (x :: q)
  | [] => List.Perm.refl _
  | y :: q => by
    unfold insP
    split
    · exact ((insP_perm x q).cons y).trans (List.Perm.swap _ _ _)
    · exact List.Perm.refl _
theorem isP_perm : ∀ (l acc : List Pq), (isP acc l).Perm (acc ++ l)
  | [], acc => by simp [isP]
  | x :: l, acc => by
    refine (isP_perm l (insP x acc)).trans ?_
    refine ((insP_perm x acc).append_right l).trans ?_
    rw [List.cons_append]
    exact (List.perm_middle).symm
theorem psort_perm (l : List Pq) : (psort l).Perm l := by
  refine (List.reverse_perm _).trans ?_
  simpa using isP_perm l []
theorem psort_len (l : List Pq) : (psort l).length = l.length := (psort_perm l).length_eq
theorem reps_tmF {w : World} {S : Nat → Prop} : ∀ {P : List Pq} {xs : List Value}, Reps w S xs (P.map toQ) → xs = tmF (P.map toTm)
  | [], _, h => h
  | p :: P, xs, h => by
    obtain ⟨cs, rest, e, h1, h2⟩ := h
    have h1' : cs = [.string ⟨p.1.toArray⟩, .slice (some ⟨p.2.2, 0, none⟩) 1 1] := h1
    have h2' := reps_tmF h2
    rw [e, h1', h2']
    rfl
theorem tmF_reps {w : World} {S : Nat → Prop} : ∀ (P : List Pq), Reps w S (tmF (P.map toTm)) (P.map toQ)
  | [] => rfl
  | p :: P => ⟨[.string ⟨p.1.toArray⟩, .slice (some ⟨p.2.2, 0, none⟩) 1 1], _, rfl, rfl, tmF_reps P⟩

set_option maxHeartbeats 800000 in
set_option maxRecDepth 100000 in
theorem sort_none (w : World) :
    Calls Try.prog 49 #[.slice none 0 0, .func (.func 50) #[] #[]] w fun e w' => e = .returned (.tuple #[]) ∧ w' = w := by
  have hi : Calls Try.prog 85 #[.slice none 0 0, .int .i64 0, .int .i64 0, .func (.func 50) #[] #[]] w fun e w' => e = .returned (.tuple #[]) ∧ w' = w := by
    go_enter Try.func85, Try.ntmps85
    go_wp2_with fail
    refine wp_loop_rounds 1 ?_
    rw [rounds_succ]
    go_wp2
    go_end0
    exact ⟨rfl, rfl⟩
  have hs : Calls Try.prog 70 #[.slice none 0 0, .int .i64 0, .func (.func 50) #[] #[]] w fun e w' => e = .returned (.tuple #[]) ∧ w' = w := by
    go_enter Try.func70, Try.ntmps70
    go_wp2_with fail
    refine wp_loop_rounds 1 ?_
    rw [rounds_succ]
    go_wp2_with fail
    refine hi.mono ?_
    rintro e w1 ⟨rfl, rfl⟩
    go_wp2_with fail
    refine wp_loop_rounds 1 ?_
    rw [rounds_succ]
    go_wp2
    go_end0
    exact ⟨rfl, rfl⟩
  go_enter Try.func49, Try.ntmps49
  go_wp2_with fail
  refine hs.mono ?_
  rintro e w1 ⟨rfl, rfl⟩
  go_wp2
  go_end0
  exact ⟨rfl, rfl⟩
theorem sort_own (w : World) (base : Nat) (vl : Value) (P : List Pq) (ho : OwnL w base 52 (fun _ => False) vl (P.map toQ)) (h20 : P.length < 20) :
    Calls Try.prog 49 #[vl, .func (.func 50) #[] #[]] w fun e w' => e = .returned (.tuple #[]) ∧ OwnL w' base 52 (fun _ => False) vl ((psort P).map toQ) ∧ Kept (fun k => vl.ownBlock = some k) w w' := by
  obtain ⟨xs, h1, h2⟩ := ho
  have hxs := reps_tmF h2
  rw [List.length_map] at h1
  rcases h1.2 with ⟨rfl, h0⟩ | ⟨g, cap, cur, rfl, hbg, hg, hnc, hcm, hcs, htake⟩
  · have hP : P = [] := List.eq_nil_of_length_eq_zero h0
    subst hP
    refine (sort_none w).mono ?_
    rintro e w' ⟨rfl, rfl⟩
    exact ⟨rfl, OwnL.nil_ _ _ _ _, Kept.refl _ _⟩
  · have ht2 : cur.toList.take (P.length * 2) = tmF (P.map toTm) := htake.trans hxs
    have hcs2 : cur.size = cap * 2 := hcs
    have hcur : cur = (tmF (P.map toTm) ++ cur.toList.drop (P.length * 2)).toArray := by
      rw [← ht2, List.take_append_drop]
    have htr : TR w g (cur.toList.drop (P.length * 2)) (P.map toTm) := by
      show w.heap[g]? = _
      rw [← hcur]
      exact hg
    refine (sort_small w g P.length cap _ (P.map toTm) htr ?_ (by rw [List.length_map]) h20 hnc hcm).mono ?_
    · intro t ht
      obtain ⟨p, _, rfl⟩ := List.mem_map.1 ht
      exact ⟨_, _, _, rfl⟩
    · rintro e w' ⟨rfl, htr', hk⟩
      rw [psort_map] at htr'
      have hl : (tmF ((psort P).map toTm)).length = P.length * 2 := by rw [tmF_len, List.length_map, psort_len]
      refine ⟨rfl, ⟨tmF ((psort P).map toTm), ⟨?_, .inr ⟨g, cap, _, ?_, hbg, htr', by rw [List.length_map, psort_len]; exact hnc, hcm, ?_, ?_⟩⟩, tmF_reps _⟩, hk.more fun k _ hk => by rw [hk]; rfl⟩
      · rw [hl, List.length_map, psort_len]
        rfl
      · rw [List.length_map, psort_len]
      · rw [List.size_toArray, List.length_append, hl, ← hcs]
        have hcs3 : cur.size = cap * 2 := hcs
        have e : cur.toList.length = cur.size := rfl
        rw [List.length_drop, e]
        omega
      · rw [List.length_map, psort_len]
        show (tmF _ ++ _).take (P.length * 2) = _
        rw [List.take_append_of_le_length (by omega), List.take_of_length_le (by omega)]
end Go.Proofs.Ytbnjhpknagkiaaa
