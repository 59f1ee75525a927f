/-
  A region that draws its order, whose first n operations leave all old memory alone, and whose others come last, in one order: one pass over the first, then a plain walk.
  Conditions: those of the theorem.
-/
import Derived.Test.YtccmhjlniljhcaaStep
import Derived.StillTail
namespace Go.Proofs.Ytccmhjlniljhcaa
open Go.RowKit

section
variable {P : Program} {ops : Array Oper} {Q : Exit → Act → World → Prop}
theorem left_zero {listed : Array Bool} : ∀ n, left listed n = 0 → ∀ i, i < n → listed.getD i true = true := by
  intro n h i hi
  unfold left at h
  rw [List.countP_eq_zero] at h
  have := h i (List.mem_range.2 hi)
  simpa using this
theorem left_pos {listed : Array Bool} {n : Nat} (h : left listed n ≠ 0) : ∃ i, i < n ∧ listed.getD i true = false := by
  unfold left at h
  have h' := Nat.pos_of_ne_zero h
  rw [List.countP_pos_iff] at h'
  obtain ⟨i, hi, h2⟩ := h'
  exact ⟨i, List.mem_range.1 hi, by simpa using h2⟩

theorem wpAny_tail {a0 : Act} {w0 : World} {p : Nat → Value → World → Prop} {n : Nat} (hs : Region.sinkB .any ops n = true) (hc : Region.chainB .any ops n = true) (hn : n < ops.size)
    (hq : Region.seqB .any ops (ops.size - n) n ((List.replicate n true ++ List.replicate (ops.size - n) false).toArray) = true)
    (hmono : ∀ i v w w', p i v w → Ext w w' → p i v w') (hok : regOk ops a0.tmps.size = true) (hon : onOk ops = true)
    (hstep : ∀ i o, i < n → ops[i]? = some o → StepOk P ops a0 w0 p i o)
    (hfin : ∀ a w, Ext w0 w → a.defers = a0.defers → a.tmps.size = a0.tmps.size → (∀ i, i < n → ∀ d, dstOf ops i = some d → p i (a.eval (.tmp d)) w) → (∀ t, (∀ i, i < n → dstOf ops i ≠ some t) → a.eval (.tmp t) = a0.eval (.tmp t)) → wpList P ops Q (ops.toList.drop n) a w) :
    ∀ (fuel : Nat) (listed : Array Bool) (a : Act) (w : World), left listed n = fuel → Inv ops a0 w0 p listed a w → HeadInv .any ops n listed → wpAny P .any ops Q (fuel + (ops.size - n)) listed a w := by
  intro fuel
  induction fuel with
  | zero =>
    intro listed a w hl hI hH
    have hall := left_zero n hl
    have e : listed = (List.replicate n true ++ List.replicate (ops.size - n) false).toArray := by
      apply Array.ext
      · rw [hI.size]; simp; omega
      · intro i h1 h2
        have hi : i < ops.size := by rw [← hI.size]; exact h1
        rcases Nat.lt_or_ge i n with h | h
        · have := hall i h
          simp only [Array.getD, h1, dite_true] at this
          have e2 : listed[i] = true := this
          rw [e2]
          simp [h]
        · have := hH.tail i h hi
          simp only [Array.getD, h1, dite_true] at this
          have e2 : listed[i] = false := this
          rw [e2]
          simp [List.getElem_append, Nat.not_lt.2 h]
    rw [← e] at hq
    have hdl : (ops.toList.drop n).length = ops.size - n := by simp
    have h := wpAny_of_seq (md := .any) (Q' := Q) (ops.toList.drop n) n listed a w (fun j => by simp [List.getElem?_drop]) (by rw [hdl]; exact hq)
      (hfin a w hI.ext hI.defers hI.tmps (fun i hi d hd => hI.vals i (hall i hi) (by omega) d hd) (fun t ht => hI.old t fun i hi hli he => by
        rcases Nat.lt_or_ge i n with h | h
        · exact ht i h he
        · rw [hH.tail i h hi] at hli
          cases hli))
    rw [hdl] at h
    rw [Nat.zero_add]
    exact h
  | succ fuel ih =>
    intro listed a w hl hI hH
    obtain ⟨i0, hi0, hl0⟩ := left_pos (by omega : left listed n ≠ 0)
    rw [show fuel + 1 + (ops.size - n) = (fuel + (ops.size - n)) + 1 from by omega]
    have htw := tail_waits hs hc hn hH _ i0 rfl hi0 hl0
    refine ⟨fun hr => ?_, fun i hi => ?_⟩
    · have := all_listed hI.size hon hok hr i0 (by omega)
      rw [hl0] at this
      cases this
    · have hin : i < n := Nat.lt_of_not_le fun h => htw i h hi
      obtain ⟨h1, h2, h3⟩ := (ready_iff hI.size hon).1 hi
      have hls := left_set n hin h2 (by rw [hI.size]; exact h1)
      have ho : ops[i]? = some ops[i] := Array.getElem?_eq_getElem h1
      have hH' := hH.set hi hin
      have hst := hstep i _ hin ho a w hI.ext hI.defers (fun j hj d hd => by
          have hjs : j < ops.size := by
            rcases Nat.lt_or_ge j ops.size with h | h
            · exact h
            · simp [dstOf, Array.getElem?_eq_none h] at hd
          exact hI.vals j (h3 j hjs hj) hjs d hd)
        (fun t ht => hI.old t fun k hk hlk hdk => by
          have := (List.all_eq_true.1 ht) k (List.mem_range.2 hk)
          rw [hdk] at this
          simp only [bne_self_eq_false, Bool.false_or] at this
          have := hI.closed k hk hlk i h1 this
          rw [h2] at this
          cases this)
      unfold wpOp
      simp only [ho]
      rcases hst with ⟨hw, hst⟩ | ⟨hw, hst⟩
      · rw [if_pos hw]
        refine .inl (upon_weak (Q := Q) (fun a' w' h => ?_) hst)
        obtain ⟨v, rfl, hx, hp⟩ := h
        exact ih _ _ _ (by omega) (inv_step hmono hok hI h1 ho h3 hx hp) hH'
      · rw [if_neg (by rw [hw]; exact Bool.false_ne_true)]
        exact ih _ _ _ (by omega) (inv_step hmono hok hI h1 ho h3 (Below.refl _ _) hst) hH'
end

theorem wp_region_tail {P : Program} {l : List Oper} {Q : Exit → Act → World → Prop} {id : Nat} {a0 : Act} {w : World} (ps : List (Value → World → Prop)) (n : Nat) (hm : P.follows .mixedOrders = true)
    (hs : Region.sinkB .any l.toArray n = true) (hc : Region.chainB .any l.toArray n = true) (hn : n < l.toArray.size) (hq : Region.seqB .any l.toArray (l.toArray.size - n) n ((List.replicate n true ++ List.replicate (l.toArray.size - n) false).toArray) = true)
    (hok : regOk l.toArray a0.tmps.size = true) (hon : onOk l.toArray = true) (hmono : ∀ p ∈ ps, Mono p)
    (hstep : Steps P l.toArray a0 w.drew (at_ ps) 0 (l.take n))
    (hfin : ∀ a w', Ext w w' → a.defers = a0.defers → a.tmps.size = a0.tmps.size → (∀ i, i < n → ∀ d, dstOf l.toArray i = some d → at_ ps i (a.eval (.tmp d)) w') → (∀ t, unwritten (l.take n).toArray t = true → a.eval (.tmp t) = a0.eval (.tmp t)) → wpList P l.toArray Q (l.drop n) a w') :
    (Code.region id l.toArray true).wp P Q a0 w := by
  have hdst : ∀ i, i < n → dstOf (l.take n).toArray i = dstOf l.toArray i := fun i hi => by
    simp [dstOf, hi]
  refine wp_region_any hm ?_
  have hf : ∀ i, i < l.toArray.size → (Array.replicate l.toArray.size false).getD i true = false := fun i hi => by
    have hi' : i < l.length := by simpa using hi
    simp [hi']
  have hl : left (Array.replicate l.toArray.size false) n = n := by
    unfold left
    rw [List.countP_eq_length.2, List.length_range]
    intro j hj
    have := List.mem_range.1 hj
    rw [hf j (by omega)]
    rfl
  have := wpAny_tail (P := P) (Q := Q) (a0 := a0) (w0 := w.drew) (p := at_ ps) hs hc hn hq (fun i => ?_) hok hon (fun i o hi ho => ?_) (fun a w' h1 h2 h3 h4 h5 => ?_) n (Array.replicate l.toArray.size false) a0 w.drew hl ?_ ?_
  · rw [show n + (l.toArray.size - n) = l.toArray.size from by omega] at this
    exact this
  · unfold at_
    rcases Nat.lt_or_ge i ps.length with h | h
    · have : ps.getD i Any = ps[i] := by simp [List.getD, h]
      rw [this]
      exact hmono _ (List.getElem_mem h)
    · have : ps.getD i Any = Any := by simp [List.getD, List.getElem?_eq_none h]
      rw [this]
      exact mono_any
  · have := Steps.get _ 0 hstep i o (by
      rw [List.getElem?_take, if_pos hi]
      simpa using ho)
    rwa [Nat.zero_add] at this
  · refine hfin a w' ((Ext.drew w).trans h1) h2 h3 h4 fun t ht => h5 t fun i hi he => ?_
    have hlt : i < (l.take n).toArray.size := by
      have : i < l.length := by
        rcases Nat.lt_or_ge i l.length with h | h
        · exact h
        · simp [dstOf, List.getElem?_eq_none h] at he
      simp; omega
    have := (List.all_eq_true.1 ht) i (List.mem_range.2 hlt)
    rw [hdst i hi, he] at this
    simp at this
  · refine ⟨by simp, Below.refl _ _, rfl, rfl, fun i h hi => ?_, fun _ _ => rfl, fun i hi h => ?_⟩
    · rw [hf i hi] at h; cases h
    · rw [hf i hi] at h; cases h
  · exact ⟨by simp, fun j oj _ hl => (by rw [getD_replicate_false] at hl; cases hl), fun t _ ht => hf t ht⟩

end Go.Proofs.Ytccmhjlniljhcaa
