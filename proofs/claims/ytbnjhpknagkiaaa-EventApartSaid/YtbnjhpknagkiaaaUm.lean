/-
  Sorting a row of the call's own of terms.
  Conditions: at most 400,000 terms, no two of one block.
  Terms being grouped: what memory holds between two rounds.
  Conditions: those of each statement.
-/
import Derived.Test.YtbnjhpknagkiaaaUk
namespace Go.Proofs.Ytbnjhpknagkiaaa
open Go.RowKit Go.Op

def toTm (p : Pq) : Tm := (p.1, .slice (some ⟨p.2.2, 0, none⟩) 1 1)
/-- the same order, on texts, places and blocks -/
def insP (x : Pq) : List Pq → List Pq
  | [] => [x]
  | y :: q => if cmpT x.1 y.1 < 0 then y :: insP x q else x :: y :: q
def isP : List Pq → List Pq → List Pq
  | acc, [] => acc
  | acc, x :: l => isP (insP x acc) l
def psort (l : List Pq) : List Pq := (isP [] l).reverse
theorem insP_map (x : Pq) : ∀ q : List Pq, insR (toTm x) (q.map toTm) = (insP x q).map toTm
  | [] => rfl
  | y :: q => by
    have hl : ltT (toTm x) (toTm y) = decide (cmpT x.1 y.1 < 0) := rfl
    simp only [List.map_cons, insR, insP]
    by_cases h : cmpT x.1 y.1 < 0
    · rw [if_pos (show ltT (toTm x) (toTm y) = true by rw [hl]; exact decide_eq_true h), if_pos h, insP_map x q]
      rfl
    · rw [if_neg (show ¬ltT (toTm x) (toTm y) = true by rw [hl]; simpa using h), if_neg h]
      rfl
theorem isP_map : ∀ (l acc : List Pq), isR (acc.map toTm) (l.map toTm) = (isP acc l).map toTm
  | [], _ => rfl
  | x :: l, acc => by
    simp only [List.map_cons, isR, isP]
    rw [insP_map]
    exact isP_map l (insP x acc)
theorem psort_map (l : List Pq) : isort (l.map toTm) = (psort l).map toTm := by
  unfold isort psort
  have := isP_map l []
  rw [List.map_nil] at this
  rw [this, List.map_reverse]
theorem insP_perm (x : Pq) : ∀ q : List Pq, (insP x q).Perm (x :: q)
  | [] => List.Perm.refl _
  | y :: q => by
    unfold insP
    split
    · exact ((insP_perm x q).cons y).trans (List.Perm.swap _ _ _)
    · exact List.Perm.refl _
theorem isP_perm : ∀ (l acc : List Pq), (isP acc l).Perm (acc ++ l)
  | [], acc => by simp [isP]
  | x :: l, acc => by
    refine (isP_perm l (insP x acc)).trans ?_
    refine ((insP_perm x acc).append_right l).trans ?_
    rw [List.cons_append]
    exact (List.perm_middle).symm
theorem psort_perm (l : List Pq) : (psort l).Perm l := by
  refine (List.reverse_perm _).trans ?_
  simpa using isP_perm l []
theorem psort_len (l : List Pq) : (psort l).length = l.length := (psort_perm l).length_eq
theorem reps_tmF {w : World} {S : Nat → Prop} : ∀ {P : List Pq} {xs : List Value}, Reps w S xs (P.map toQ) → xs = tmF (P.map toTm)
  | [], _, h => h
  | p :: P, xs, h => by
    obtain ⟨cs, rest, e, h1, h2⟩ := h
    have h1' : cs = [.string ⟨p.1.toArray⟩, .slice (some ⟨p.2.2, 0, none⟩) 1 1] := h1
    have h2' := reps_tmF h2
    rw [e, h1', h2']
    rfl
theorem tmF_reps {w : World} {S : Nat → Prop} : ∀ (P : List Pq), Reps w S (tmF (P.map toTm)) (P.map toQ)
  | [] => rfl
  | p :: P => ⟨[.string ⟨p.1.toArray⟩, .slice (some ⟨p.2.2, 0, none⟩) 1 1], _, rfl, rfl, tmF_reps P⟩

set_option maxHeartbeats 800000 in
set_option maxRecDepth 100000 in
theorem sort_none (w : World) :
    Calls Try.prog 49 #[.slice none 0 0, .func (.func 50) #[] #[]] w fun e w' => e = .returned (.tuple #[]) ∧ w' = w := by
  have hi : Calls Try.prog 85 #[.slice none 0 0, .int .i64 0, .int .i64 0, .func (.func 50) #[] #[]] w fun e w' => e = .returned (.tuple #[]) ∧ w' = w := by
    go_enter Try.func85, Try.ntmps85
    go_wp2_with fail
    refine wp_loop_rounds 1 ?_
    rw [rounds_succ]
    go_wp2
    go_end0
    exact ⟨rfl, rfl⟩
  have hs : Calls Try.prog 70 #[.slice none 0 0, .int .i64 0, .func (.func 50) #[] #[]] w fun e w' => e = .returned (.tuple #[]) ∧ w' = w := by
    go_enter Try.func70, Try.ntmps70
    go_wp2_with fail
    refine wp_loop_rounds 1 ?_
    rw [rounds_succ]
    go_wp2_with fail
    refine hi.mono ?_
    rintro e w1 ⟨rfl, rfl⟩
    go_wp2_with fail
    refine wp_loop_rounds 1 ?_
    rw [rounds_succ]
    go_wp2
    go_end0
    exact ⟨rfl, rfl⟩
  go_enter Try.func49, Try.ntmps49
  go_wp2_with fail
  refine hs.mono ?_
  rintro e w1 ⟨rfl, rfl⟩
  go_wp2
  go_end0
  exact ⟨rfl, rfl⟩
theorem ix_of {α : Type} : ∀ l : List α, l.Nodup → ∃ ix : α → Nat, l.Pairwise fun x y => ix x < ix y
  | [], _ => ⟨fun _ => 0, List.Pairwise.nil⟩
  | x :: l, h => by
    classical
    obtain ⟨h1, h2⟩ := List.nodup_cons.1 h
    obtain ⟨ix, hp⟩ := ix_of l h2
    refine ⟨fun y => if y = x then 0 else ix y + 1, List.pairwise_cons.2 ⟨fun y hy => ?_, ?_⟩⟩
    · have hne : y ≠ x := fun e => h1 (e ▸ hy)
      simp [hne]
    · refine hp.imp_of_mem fun {a b} ha hb hab => ?_
      have ha' : a ≠ x := fun e => h1 (e ▸ ha)
      have hb' : b ≠ x := fun e => h1 (e ▸ hb)
      simpa [ha', hb'] using hab
theorem nodup_tm {P : List Pq} (h : (P.map (·.2.2)).Nodup) : (P.map toTm).Nodup := by
  have h' : P.Pairwise fun p q => p.2.2 ≠ q.2.2 := List.pairwise_map.1 h
  refine List.pairwise_map.2 (h'.imp fun {p q} hne e => hne ?_)
  have e2 := congrArg Prod.snd e
  simp only [toTm] at e2
  injection e2 with e2 _ _
  injection e2 with e2
  injection e2
theorem sort_own (w : World) (base : Nat) (vl : Value) (P : List Pq) (ho : OwnL w base 52 (fun _ => False) vl (P.map toQ)) (h20 : P.length ≤ 400000) (hnd : (P.map (·.2.2)).Nodup) :
    Calls Try.prog 49 #[vl, .func (.func 50) #[] #[]] w fun e w' => e = .returned (.tuple #[]) ∧ OwnL w' base 52 (fun _ => False) vl ((psort P).map toQ) ∧ Kept (fun k => vl.ownBlock = some k) w w' := by
  obtain ⟨xs, h1, h2⟩ := ho
  have hxs := reps_tmF h2
  rw [List.length_map] at h1
  rcases h1.2 with ⟨rfl, h0⟩ | ⟨g, cap, cur, rfl, hbg, hg, hnc, hcm, hcs, htake⟩
  · have hP : P = [] := List.eq_nil_of_length_eq_zero h0
    subst hP
    refine (sort_none w).mono ?_
    rintro e w' ⟨rfl, rfl⟩
    exact ⟨rfl, OwnL.nil_ _ _ _ _, Kept.refl _ _⟩
  · have ht2 : cur.toList.take (P.length * 2) = tmF (P.map toTm) := htake.trans hxs
    have hcs2 : cur.size = cap * 2 := hcs
    have hcur : cur = (tmF (P.map toTm) ++ cur.toList.drop (P.length * 2)).toArray := by
      rw [← ht2, List.take_append_drop]
    have htr : TR w g (cur.toList.drop (P.length * 2)) (P.map toTm) := by
      show w.heap[g]? = _
      rw [← hcur]
      exact hg
    obtain ⟨ix, hix⟩ := ix_of _ (nodup_tm hnd)
    refine (sort_any ix w g P.length cap _ (P.map toTm) htr ?_ hix (by rw [List.length_map]) h20 hnc hcm).mono ?_
    · intro t ht
      obtain ⟨p, _, rfl⟩ := List.mem_map.1 ht
      exact ⟨_, _, _, rfl⟩
    · rintro e w' ⟨rfl, htr', hk⟩
      rw [psort_map] at htr'
      have hl : (tmF ((psort P).map toTm)).length = P.length * 2 := by rw [tmF_len, List.length_map, psort_len]
      refine ⟨rfl, ⟨tmF ((psort P).map toTm), ⟨?_, .inr ⟨g, cap, _, ?_, hbg, htr', by rw [List.length_map, psort_len]; exact hnc, hcm, ?_, ?_⟩⟩, tmF_reps _⟩, hk.more fun k _ hk => by rw [hk]; rfl⟩
      · rw [hl, List.length_map, psort_len]
        rfl
      · rw [List.length_map, psort_len]
      · rw [List.size_toArray, List.length_append, hl, ← hcs]
        have hcs3 : cur.size = cap * 2 := hcs
        have e : cur.toList.length = cur.size := rfl
        rw [List.length_drop, e]
        omega
      · rw [List.length_map, psort_len]
        show (tmF _ ++ _).take (P.length * 2) = _
        rw [List.take_append_of_le_length (by omega), List.take_of_length_le (by omega)]


/-- a group: its text, its places, where these lie -/
structure Gq where
  s : List UInt8
  blk : Nat
  cap : Nat
  ps : List Int
def Gq.v (g : Gq) : Value := .slice (some ⟨g.blk, 0, none⟩) g.ps.length g.cap
def Gq.q (g : Gq) : Tq := ⟨g.s, some ⟨g.blk, 0, none⟩, g.ps.length, g.cap⟩
def gOf (p : Pq) : Gq := ⟨p.1, p.2.2, 1, [p.2.1]⟩
theorem gOf_q (p : Pq) : (gOf p).q = toQ p := rfl
theorem Gq.own (g : Gq) : g.v.ownBlock = some g.blk := rfl
theorem own_pos {W : World} {base : Nat} {b : Nat} {p : Int} (h : W.heap[b]? = some (.cells #[.int .i64 p] 3 (0, 0))) (hb : base ≤ b) (h6 : I6 p) : OwnL W base 3 (fun _ => False) (.slice (some ⟨b, 0, none⟩) 1 1) [p] :=
  ⟨[.int .i64 p], ⟨rfl, .inr ⟨b, 1, _, rfl, hb, h, Nat.le_refl _, by unfold maxLen; omega, rfl, rfl⟩⟩, Reps.single ⟨rfl, h6⟩⟩
/-- a row stays while a block of another kind, or another block, is turned -/
theorem OwnL.heap {α : Type} [Rep α] {w w' : World} {base : Nat} {e : TypeId} {v : Value} {l : List α} (h : OwnL w base e (fun _ => False) v l) (hk : ∀ g, v.ownBlock = some g → w'.heap[g]? = w.heap[g]?) : OwnL w' base e (fun _ => False) v l := by
  obtain ⟨xs, h1, h2⟩ := h
  refine ⟨xs, ⟨h1.1, ?_⟩, (h2.keep (fun k hk => hk.1.elim)).more fun k hk => hk.1.elim⟩
  rcases h1.2 with h3 | ⟨g, cap, cur, rfl, hbg, hg, h4⟩
  · exact .inl h3
  · exact .inr ⟨g, cap, cur, rfl, hbg, (hk g rfl).trans hg, h4⟩

def tqTm (t : Tq) : Tm := (t.s, .slice t.A t.n t.c)
theorem reps_tq {w : World} {S : Nat → Prop} : ∀ {L : List Tq} {xs : List Value}, Reps w S xs L → xs = tmF (L.map tqTm)
  | [], _, h => h
  | t :: L, xs, h => by
    obtain ⟨cs, rest, e, h1, h2⟩ := h
    have h1' : cs = [.string ⟨t.s.toArray⟩, .slice t.A t.n t.c] := h1
    rw [e, h1', reps_tq h2]
    rfl
theorem tq_reps {w : World} {S : Nat → Prop} : ∀ (L : List Tq), Reps w S (tmF (L.map tqTm)) L
  | [] => rfl
  | t :: L => ⟨[.string ⟨t.s.toArray⟩, .slice t.A t.n t.c], _, rfl, rfl, tq_reps L⟩
theorem tmF_set1 : ∀ (l : List Tm) (i : Nat) (_ : i < l.length) (v : Value), (tmF l).set (i * 2 + 1) v = tmF (l.set i ((l[i]?.getD ([], v)).1, v))
  | x :: l, 0, _, v => rfl
  | x :: l, i + 1, h, v => by
    have := tmF_set1 l i (Nat.lt_of_succ_lt_succ h) v
    rw [show (i + 1) * 2 + 1 = (i * 2 + 1) + 1 + 1 from by omega]
    simpa [tmF] using this
/-- an element's places are another slice now -/
theorem OwnL.setSlice {w : World} {base g n cap : Nat} {L : List Tq} (h : OwnL w base 52 (fun _ => False) (.slice (some ⟨g, 0, none⟩) n cap) L) {k : Nat} (hk : k < L.length) (t : Tq) (ht : t.s = (L[k]).s) :
    OwnL (w.setCell ⟨g, k * 2 + 1, none⟩ (.slice t.A t.n t.c)) base 52 (fun _ => False) (.slice (some ⟨g, 0, none⟩) n cap) (L.set k t) := by
  obtain ⟨xs, h1, h2⟩ := h
  have hxs := reps_tq h2
  rcases h1.2 with ⟨h3, _⟩ | ⟨g', cap', cur, h3, hbg, hg, h4, h5, h6, h7⟩
  · cases h3
  · simp only [Value.slice.injEq, Option.some.injEq, Addr.mk.injEq] at h3
    obtain ⟨⟨rfl, _, _⟩, rfl, rfl⟩ := h3
    have hl : (tmF (L.map tqTm)).length = L.length * 2 := by rw [tmF_len, List.length_map]
    have hset : (tmF (L.map tqTm)).set (k * 2 + 1) (.slice t.A t.n t.c) = tmF ((L.set k t).map tqTm) := by
      rw [tmF_set1 _ k (by rw [List.length_map]; exact hk), List.map_set]
      congr 2
      simp [tqTm, hk, ht]
    have h7' : cur.toList.take (L.length * 2) = tmF (L.map tqTm) := h7.trans hxs
    refine ⟨tmF ((L.set k t).map tqTm), ⟨?_, .inr ⟨g, cap, _, by rw [List.length_set], hbg, setCell_row _ hg, by rw [List.length_set]; exact h4, h5, by rw [Array.size_setIfInBounds]; exact h6, ?_⟩⟩, tq_reps _⟩
    · rw [tmF_len, List.length_map]
      rfl
    · show (cur.setIfInBounds (k * 2 + 1) _).toList.take ((L.set k t).length * 2) = _
      rw [List.length_set, Array.toList_setIfInBounds, List.take_set, h7', hset]

theorem World.setCell_other (W : World) (g o : Nat) (v : Value) : ∀ k, k ≠ g → (W.setCell ⟨g, o, none⟩ v).heap[k]? = W.heap[k]? := fun k hk => Below.heap_setCell _ _ _ k hk
structure GSt (w1 : World) (B b1 : Nat) (vl : Value) (P : List Pq) (W : World) (vo : Value) (G : List Gq) (R : List Pq) : Prop where
  lrow : OwnL W (B + 4) 52 (fun _ => False) vl (P.map toQ)
  lold : ∀ k, vl.ownBlock = some k → k < b1
  orow : OwnL W b1 52 (fun _ => False) vo (G.map Gq.q)
  gpos : ∀ g ∈ G, OwnL W (B + 4) 3 (fun _ => False) g.v g.ps
  rpos : ∀ p ∈ R, W.heap[p.2.2]? = some (.cells #[.int .i64 p.2.1] 3 (0, 0)) ∧ B + 4 ≤ p.2.2 ∧ I6 p.2.1
  nd : (G.map (·.blk) ++ R.map (·.2.2)).Nodup
  bel : Below B w1 W
  size : b1 ≤ W.heap.size
  b4 : B + 4 ≤ b1
  dfr : W.heap[B + 2]? = some (.deferred (some []))
section
variable {w1 : World} {B b1 : Nat} {vl vo : Value} {P R : List Pq} {W W' : World} {G : List Gq}
theorem GSt.ext (h : GSt w1 B b1 vl P W vo G R) (hx : Ext W W') : GSt w1 B b1 vl P W' vo G R := by
  have hk : ∀ (k : Nat) (o : Obj), W.heap[k]? = some o → W'.heap[k]? = some o := fun k o e => (hx.block k (Array.getElem?_eq_some_iff.1 e).1).trans e
  exact ⟨h.lrow.ext hx, h.lold, h.orow.ext hx, fun g hg => (h.gpos g hg).ext hx, fun p hp => ⟨hk _ _ (h.rpos p hp).1, (h.rpos p hp).2⟩, h.nd, Below.trans h.bel (hx.mono (by have := h.size; have := h.b4; omega)), Nat.le_trans h.size hx.size, h.b4, hk _ _ h.dfr⟩
theorem GSt.lens (h : GSt w1 B b1 vl P W vo G R) : ∀ g ∈ G, ∃ cs, W.heap[g.blk]? = some (Obj.cells cs 3 (0, 0)) := by
  intro g hg
  obtain ⟨xs, h1, _⟩ := h.gpos g hg
  exact row_type h1 g.blk rfl
/-- a group more -/
theorem GSt.new {Wb W6 : World} {vo' : Value} {p : Pq} (h : GSt w1 B b1 vl P W vo G (p :: R)) (hx : Ext W Wb)
    (ho : OwnL W6 b1 52 (fun _ => False) vo' (G.map Gq.q ++ [toQ p])) (hg : Wb.grownBy W6 vo.ownBlock) : GSt w1 B b1 vl P W6 vo' (G ++ [gOf p]) R := by
  have h1 := h.ext hx
  have hge := h1.orow.ge
  have hty : ∀ r, vo.ownBlock = some r → ∃ cs f, Wb.heap[r]? = some (Obj.cells cs 52 f) := fun r hr => by
    obtain ⟨xs, h2, _⟩ := h1.orow
    obtain ⟨cs, hcs⟩ := row_type h2 r hr
    exact ⟨cs, _, hcs⟩
  have hkeep : ∀ (k : Nat) (o : Obj), Wb.heap[k]? = some o → (∀ cs f, o ≠ Obj.cells cs 52 f) → W6.heap[k]? = some o := fun k o e hc => (hg.block k (Array.getElem?_eq_some_iff.1 e).1 (fun he => by
    obtain ⟨cs, f, hk⟩ := hty k he.symm
    rw [hk] at e
    injection e with e
    exact hc cs f e.symm)).trans e
  have hpos : ∀ q ∈ p :: R, W6.heap[q.2.2]? = some (.cells #[.int .i64 q.2.1] 3 (0, 0)) ∧ B + 4 ≤ q.2.2 ∧ I6 q.2.1 := fun q hq =>
    ⟨hkeep _ _ (h1.rpos q hq).1 (fun cs f e => by injection e with _ e _; exact absurd e (by decide)), (h1.rpos q hq).2⟩
  have hgp : ∀ g ∈ G, OwnL W6 (B + 4) 3 (fun _ => False) g.v g.ps := fun g hgm => (h1.gpos g hgm).heap fun r hr => by
    obtain rfl : g.blk = r := by
      have := (Gq.own g).symm.trans hr
      injection this
    obtain ⟨cs, hcs⟩ := h1.lens g hgm
    rw [hcs]
    exact hkeep _ _ hcs (fun cs f e => by injection e with _ e _; exact absurd e (by decide))
  refine ⟨h1.lrow.heap fun r hr => hg.block r (by have := h1.lold r hr; have := h1.size; omega) (fun e => by have := hge r e.symm; have := h1.lold r hr; omega), h1.lold, ?_, ?_, fun q hq => hpos q (by simp [hq]), ?_, ?_, Nat.le_trans h1.size hg.size, h1.b4, hkeep _ _ h1.dfr (fun cs f e => by cases e)⟩
  · rw [List.map_append]
    exact ho
  · intro g hgm
    rcases List.mem_append.1 hgm with hgm | hgm
    · exact hgp g hgm
    · simp only [List.mem_singleton] at hgm
      subst hgm
      obtain ⟨q1, q2, q3⟩ := hpos p (by simp)
      exact own_pos q1 q2 q3
  · have := h1.nd
    simpa [gOf] using this
  · exact h1.bel.grown hg (by have := h1.size; have := h1.b4; omega) (fun k e => by have := hge k e; have := h1.b4; omega)
/-- a place more of the last group -/
theorem GSt.same {Wa W6 : World} {G0 : List Gq} {g : Gq} {p : Pq} {gO n cap blk' cap' : Nat} (h : GSt w1 B b1 vl P W (.slice (some ⟨gO, 0, none⟩) n cap) (G0 ++ [g]) (p :: R)) (hx : Ext W Wa)
    (ho : OwnL W6 (B + 4) 3 (fun _ => False) (.slice (some ⟨blk', 0, none⟩) (g.ps.length + 1) cap') (g.ps ++ [p.2.1])) (hg : Wa.grownBy W6 (some g.blk)) (hat : blk' = g.blk ∨ blk' = Wa.heap.size) :
    GSt w1 B b1 vl P (W6.setCell ⟨gO, G0.length * 2 + 1, none⟩ (.slice (some ⟨blk', 0, none⟩) (g.ps.length + 1) cap')) (.slice (some ⟨gO, 0, none⟩) n cap) (G0 ++ [⟨g.s, blk', cap', g.ps ++ [p.2.1]⟩]) R := by
  have h1 := h.ext hx
  obtain ⟨csg, hgb⟩ := h1.lens g (by simp)
  obtain ⟨xo, ho1, _⟩ := h1.orow
  obtain ⟨cso, hgo⟩ := row_type ho1 gO rfl
  have hgob := h1.orow.ge gO rfl
  have hb4 := h1.b4
  have hsz := h1.size
  have hlt : ∀ (k : Nat) (o : Obj), Wa.heap[k]? = some o → k < Wa.heap.size := fun k o e => (Array.getElem?_eq_some_iff.1 e).1
  have hk6 : ∀ (k : Nat) (o : Obj), Wa.heap[k]? = some o → k ≠ g.blk → W6.heap[k]? = some o := fun k o e hne => (hg.block k (hlt k o e) (fun he => by injection he with he; exact hne he)).trans e
  have hneo : gO ≠ g.blk := fun e => by
    rw [e, hgb] at hgo
    injection hgo with hgo
    injection hgo with _ hgo _
    exact absurd hgo (by decide)
  have hg7 := World.setCell_other W6 gO (G0.length * 2 + 1) (.slice (some ⟨blk', 0, none⟩) (g.ps.length + 1) cap')
  have hgo6 := hk6 _ _ hgo hneo
  have hbge := (h1.gpos g (by simp)).ge g.blk rfl
  have hblk6 : ∃ cs, W6.heap[blk']? = some (Obj.cells cs 3 (0, 0)) := by
    obtain ⟨xs, h2, _⟩ := ho
    exact row_type h2 blk' rfl
  have hnb : blk' ≠ gO := fun e => by
    obtain ⟨cs, hcs⟩ := hblk6
    rw [e, hgo6] at hcs
    injection hcs with hcs
    injection hcs with _ hcs _
    exact absurd hcs (by decide)
  have hnd := h1.nd
  simp only [List.map_append, List.map_cons, List.map_nil, List.append_assoc, List.cons_append, List.nil_append] at hnd
  have hndG : ∀ g' ∈ G0, g'.blk ≠ g.blk := fun g' hg' e => by
    rw [List.nodup_append] at hnd
    exact hnd.2.2 g'.blk (List.mem_map.2 ⟨g', hg', rfl⟩) g.blk (by simp) e
  have hndR : ∀ q ∈ R, q.2.2 ≠ g.blk := fun q hq e => by
    rw [List.nodup_append] at hnd
    have h3 := hnd.2.1
    rw [List.nodup_cons] at h3
    exact h3.1 (by simp [← e]; exact .inr ⟨q.1, q.2.1, hq⟩)
  have hkeep7 : ∀ (k : Nat) (o : Obj), Wa.heap[k]? = some o → k ≠ g.blk → k ≠ gO → (W6.setCell ⟨gO, G0.length * 2 + 1, none⟩ (.slice (some ⟨blk', 0, none⟩) (g.ps.length + 1) cap')).heap[k]? = some o := fun k o e h2 h3 => (hg7 k h3).trans (hk6 k o e h2)
  refine ⟨?_, h1.lold, ?_, ?_, fun q hq => ?_, ?_, ?_, ?_, hb4, ?_⟩
  · refine h1.lrow.heap fun r hr => ?_
    obtain ⟨xs, h2, _⟩ := h1.lrow
    obtain ⟨cs, hcs⟩ := row_type h2 r hr
    have := h1.lold r hr
    rw [hcs]
    refine hkeep7 r _ hcs (fun e => ?_) (by omega)
    rw [e, hgb] at hcs
    injection hcs with hcs
    injection hcs with _ hcs _
    exact absurd hcs (by decide)
  · have h6 : OwnL W6 b1 52 (fun _ => False) (.slice (some ⟨gO, 0, none⟩) n cap) ((G0 ++ [g]).map Gq.q) := h1.orow.heap fun r hr => by
      obtain rfl : gO = r := by simpa [Value.ownBlock] using hr
      rw [hgo]
      exact hgo6
    have h7 := h6.setSlice (k := G0.length) (by simp) ⟨g.s, some ⟨blk', 0, none⟩, g.ps.length + 1, cap'⟩ (by simp [Gq.q])
    have e : ((G0 ++ [g]).map Gq.q).set G0.length ⟨g.s, some ⟨blk', 0, none⟩, g.ps.length + 1, cap'⟩ = (G0 ++ [(⟨g.s, blk', cap', g.ps ++ [p.2.1]⟩ : Gq)]).map Gq.q := by
      simp [Gq.q, List.set_append_right]
    rw [e] at h7
    exact h7
  · intro g' hg'
    rcases List.mem_append.1 hg' with hg' | hg'
    · refine (h1.gpos g' (by simp [hg'])).heap fun r hr => ?_
      obtain rfl : g'.blk = r := by
        have := (Gq.own g').symm.trans hr
        injection this
      obtain ⟨cs, hcs⟩ := h1.lens g' (by simp [hg'])
      rw [hcs]
      refine hkeep7 _ _ hcs (hndG g' hg') (fun e => ?_)
      rw [e, hgo] at hcs
      injection hcs with hcs
      injection hcs with _ hcs _
      exact absurd hcs (by decide)
    · simp only [List.mem_singleton] at hg'
      subst hg'
      refine OwnL.heap (w := W6) (v := .slice (some ⟨blk', 0, none⟩) (g.ps ++ [p.2.1]).length cap') ?_ fun r hr => ?_
      · rw [List.length_append]
        exact ho
      · obtain rfl : blk' = r := by
          have : some blk' = some r := hr
          injection this
        exact hg7 _ hnb
  · obtain ⟨q1, q2⟩ := h1.rpos q (by simp [hq])
    refine ⟨hkeep7 _ _ q1 (hndR q hq) (fun e => ?_), q2⟩
    rw [e, hgo] at q1
    injection q1 with q1
    injection q1 with _ q1 _
    exact absurd q1 (by decide)
  · rw [List.map_append]
    simp only [List.map_cons, List.map_nil, List.append_assoc, List.cons_append, List.nil_append]
    rcases hat with rfl | rfl
    · rw [List.nodup_append] at hnd ⊢
      obtain ⟨n1, n2, n3⟩ := hnd
      rw [List.nodup_cons, List.nodup_cons] at n2
      refine ⟨n1, List.nodup_cons.2 ⟨fun hm => n2.1 (by simp [hm]), n2.2.2⟩, fun x hx y hy => n3 x hx y ?_⟩
      rcases List.mem_cons.1 hy with hy | hy
      · simp [hy]
      · simp [hy]
    · rw [List.nodup_append] at hnd ⊢
      obtain ⟨n1, n2, n3⟩ := hnd
      rw [List.nodup_cons, List.nodup_cons] at n2
      refine ⟨n1, List.nodup_cons.2 ⟨fun hm => ?_, n2.2.2⟩, fun x hx y hy => ?_⟩
      · obtain ⟨q, hq, e⟩ := List.mem_map.1 hm
        have := hlt _ _ (h1.rpos q (by simp [hq])).1
        omega
      · rcases List.mem_cons.1 hy with hy | hy
        · obtain ⟨g', hg', e⟩ := List.mem_map.1 hx
          obtain ⟨cs, hcs⟩ := h1.lens g' (by simp [hg'])
          have := hlt _ _ hcs
          omega
        · exact n3 x hx y (by simp [hy])
  · exact (h1.bel.grown hg (by omega) (fun k e => by injection e with e; omega)).setCell (p := ⟨gO, _, none⟩) (by dsimp only; omega) _
  · have := hg.size
    simp
    omega
  · exact hkeep7 _ _ h1.dfr (by omega) (by omega)
end
end Go.Proofs.Ytbnjhpknagkiaaa
