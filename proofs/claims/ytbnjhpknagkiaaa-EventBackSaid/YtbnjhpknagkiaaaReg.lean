/-
  A region that draws its order, each of whose operations leaves all old memory alone: one pass over its operations, each with what its value is ('p i'), serves every order.
  Conditions: those of the theorem: the operations wait for elder ones alone, write different slots, and make no other thing than new memory.
-/
import Derived.Test.YtbnjhpknagkiaaaMem
import Derived.Orders
namespace Go.Proofs.Ytbnjhpknagkiaaa
open Go.RowKit

/-- operation k waits for operation i -/
def waits (ops : Array Oper) (k i : Nat) : Bool :=
  match ops[k]? with
  | some o => o.after.any fun e => Region.binds .any e && e.on == i
  | none => false
/-- the slot that operation i writes -/
def dstOf (ops : Array Oper) (i : Nat) : Option Tmp := (ops[i]?).bind (·.dst)
/-- slot t holds what it held when operation i comes up: whoever writes it waits for i -/
def untouched (ops : Array Oper) (i : Nat) (t : Tmp) : Bool := (List.range ops.size).all fun k => dstOf ops k != some t || waits ops k i
/-- no operation writes slot t -/
def unwritten (ops : Array Oper) (t : Tmp) : Bool := (List.range ops.size).all fun k => dstOf ops k != some t
/-- all edges that bind lead to elder operations; all slots that are written differ, and lie in the frame -/
def regOk (ops : Array Oper) (n : Nat) : Bool :=
  (List.range ops.size).all fun i =>
    (List.range ops.size).all fun j => (!(waits ops i j) || decide (j < i)) && (decide (i = j) || dstOf ops i == none || dstOf ops i != dstOf ops j) &&
      (match dstOf ops i with | some d => decide (d < n) | none => true)
def onOk (ops : Array Oper) : Bool := ops.all fun o => o.after.all fun e => !Region.binds .any e || decide (e.on < ops.size)

/-- What is asked of operation i: in every later world, whatever the other slots hold, it leaves its value with 'p i'. -/
def StepOk (P : Program) (ops : Array Oper) (a0 : Act) (w0 : World) (p : Nat → Value → World → Prop) (i : Nat) (o : Oper) : Prop :=
  ∀ (a : Act) (w : World), Ext w0 w → a.defers = a0.defers →
    (∀ j, waits ops i j = true → ∀ d, dstOf ops j = some d → p j (a.eval (.tmp d)) w) →
    (∀ t, untouched ops i t = true → a.eval (.tmp t) = a0.eval (.tmp t)) →
    (Region.wanted o (yielded ops a.tmps) = true ∧ o.wp P a w (fun a' w' => ∃ v, a' = a.put o.dst v ∧ Ext w w' ∧ p i v w') (fun _ _ _ => False)) ∨
    (Region.wanted o (yielded ops a.tmps) = false ∧ p i undef w)

section
variable {P : Program} {ops : Array Oper} {Q : Exit → Act → World → Prop}

theorem upon_weak {o : Oper} {a : Act} {K K' : Act → World → Prop} {r : Result Next} (hK : ∀ a w, K a w → K' a w) (h : o.upon P a K (fun _ _ _ => False) r) : o.upon P a K' Q r := by
  cases r with
  | ok n w' =>
    cases n <;> simp only [Oper.upon] at h ⊢ <;>
      first
        | exact hK _ _ h
        | exact Calls.mono h (fun e w'' he => by
            cases e
            · exact hK _ _ he
            · exact False.elim he
            · obtain ⟨_, _, hf⟩ := he; exact False.elim hf)
        | exact Rows.mono h (fun _ _ he => hK _ _ he)
  | halt x w' => cases x <;> simp only [Oper.upon] at h

/-- how many are left -/
def left (listed : Array Bool) (n : Nat) : Nat := (List.range n).countP fun j => !(listed.getD j true)

theorem left_set {listed : Array Bool} {i : Nat} : ∀ n, i < n → listed.getD i true = false → i < listed.size → left (listed.setIfInBounds i true) n + 1 = left listed n := by
  have same : ∀ n, n ≤ i → left (listed.setIfInBounds i true) n = left listed n := by
    intro n hn
    unfold left
    refine List.countP_congr fun j hj => ?_
    have hj' : j < n := List.mem_range.1 hj
    rw [getD_set_ne true (by omega)]
  intro n
  induction n with
  | zero => intro h; omega
  | succ n ih =>
    intro h h0 hs
    unfold left at ih same ⊢
    rw [List.range_succ, List.countP_append, List.countP_append]
    by_cases hn : n = i
    · subst hn
      rw [same n (Nat.le_refl _)]
      have e1 : (listed.setIfInBounds n true).getD n true = true := by simp [hs]
      simp only [List.countP_cons, List.countP_nil, e1, h0]
      simp
    · have := ih (by omega) h0 hs
      rw [← this]
      simp only [List.countP_cons, List.countP_nil, getD_set_ne true (Ne.symm hn)]
      omega

/-- What holds while the region runs. -/
structure Inv (ops : Array Oper) (a0 : Act) (w0 : World) (p : Nat → Value → World → Prop) (listed : Array Bool) (a : Act) (w : World) : Prop where
  size : listed.size = ops.size
  ext : Ext w0 w
  defers : a.defers = a0.defers
  tmps : a.tmps.size = a0.tmps.size
  vals : ∀ i, listed.getD i true = true → i < ops.size → ∀ d, dstOf ops i = some d → p i (a.eval (.tmp d)) w
  old : ∀ t, (∀ i, i < ops.size → listed.getD i true = true → dstOf ops i ≠ some t) → a.eval (.tmp t) = a0.eval (.tmp t)
  closed : ∀ i, i < ops.size → listed.getD i true = true → ∀ j, j < ops.size → waits ops i j = true → listed.getD j true = true

theorem regOk_spec {n : Nat} (h : regOk ops n = true) : (∀ i j, i < ops.size → j < ops.size → waits ops i j = true → j < i) ∧
    (∀ i j d, i < ops.size → j < ops.size → dstOf ops i = some d → dstOf ops j = some d → i = j) ∧ (∀ i d, i < ops.size → dstOf ops i = some d → d < n) := by
  have h' : ∀ i, i < ops.size → ∀ j, j < ops.size → _ := fun i hi j hj => (List.all_eq_true.1 ((List.all_eq_true.1 h) i (List.mem_range.2 hi))) j (List.mem_range.2 hj)
  refine ⟨fun i j hi hj hw => ?_, fun i j d hi hj h1 h2 => ?_, fun i d hi h1 => ?_⟩
  · have := h' i hi j hj
    simp only [Bool.and_eq_true] at this
    simpa [hw] using this.1.1
  · have := h' i hi j hj
    simp only [Bool.and_eq_true] at this
    simpa [h1, h2] using this.1.2
  · have := h' i hi i hi
    simp only [Bool.and_eq_true] at this
    simpa [h1] using this.2

theorem waits_spec {i j : Nat} : waits ops i j = true ↔ ∃ o, ops[i]? = some o ∧ ∃ e ∈ o.after, Region.binds .any e = true ∧ e.on = j := by
  unfold waits
  cases h : ops[i]? with
  | none => simp
  | some o =>
    simp only [Array.any_eq_true', Bool.and_eq_true, beq_iff_eq, Option.some.injEq, exists_eq_left']

theorem ready_iff {listed : Array Bool} (hs : listed.size = ops.size) (hon : onOk ops = true) {i : Nat} : i ∈ Region.ready .any ops listed ↔ i < ops.size ∧ listed.getD i true = false ∧ ∀ j, j < ops.size → waits ops i j = true → listed.getD j true = true := by
  rw [mem_ready]
  constructor
  · rintro ⟨h0, o, ho, hall⟩
    have hi : i < ops.size := (Array.getElem?_eq_some_iff.1 ho).1
    refine ⟨hi, h0, fun j hj hw => ?_⟩
    obtain ⟨o', ho', e, he, hb, rfl⟩ := waits_spec.1 hw
    rw [ho] at ho'
    injection ho' with ho'
    subst ho'
    have := hall e he hb
    have hlt : e.on < listed.size := by omega
    simpa [Array.getD, hlt] using this
  · rintro ⟨hi, h0, hall⟩
    refine ⟨h0, ops[i], Array.getElem?_eq_getElem hi, fun e he hb => ?_⟩
    have hon' := (Array.all_eq_true_iff_forall_mem.1 ((Array.all_eq_true_iff_forall_mem.1 hon) ops[i] (Array.getElem_mem hi))) e he
    simp only [hb, Bool.not_true, Bool.false_or, decide_eq_true_eq] at hon'
    have := hall e.on hon' (waits_spec.2 ⟨_, Array.getElem?_eq_getElem hi, e, he, hb, rfl⟩)
    have hlt : e.on < listed.size := by omega
    simpa [Array.getD, hlt] using this

/-- when nothing may come up all has come up -/
theorem all_listed {listed : Array Bool} {n : Nat} (hs : listed.size = ops.size) (hon : onOk ops = true) (hok : regOk ops n = true) (hr : Region.ready .any ops listed = []) : ∀ i, i < ops.size → listed.getD i true = true := by
  intro i
  induction i using Nat.strongRecOn with
  | ind i ih =>
    intro hi
    cases h0 : listed.getD i true with
    | true => rfl
    | false =>
      have : i ∈ Region.ready .any ops listed := (ready_iff hs hon).2 ⟨hi, h0, fun j hj hw => ih j ((regOk_spec hok).1 i j hi hj hw) hj⟩
      rw [hr] at this
      cases this

theorem eval_put_other {a : Act} {d t : Tmp} {v : Value} (h : d ≠ t) : (a.put (some d) v).eval (.tmp t) = a.eval (.tmp t) :=
  Act.eval_put fun d' hd' he => by
    injection hd' with hd'
    injection he with he
    exact h (hd'.trans he.symm)
theorem eval_put_same {a : Act} {d : Tmp} {v : Value} (h : d < a.tmps.size) : (a.put (some d) v).eval (.tmp d) = v := by
  simp [Act.put, Act.eval, h]
theorem put_size {a : Act} {d : Option Tmp} {v : Value} : (a.put d v).tmps.size = a.tmps.size := by
  cases d <;> simp [Act.put]
theorem put_defers {a : Act} {d : Option Tmp} {v : Value} : (a.put d v).defers = a.defers := by
  cases d <;> simp [Act.put]

theorem inv_step {a0 : Act} {w0 : World} {p : Nat → Value → World → Prop} (hmono : ∀ i v w w', p i v w → Ext w w' → p i v w') (hok : regOk ops a0.tmps.size = true)
    {listed : Array Bool} {a : Act} {w : World} (hI : Inv ops a0 w0 p listed a w) {i : Nat} {o : Oper} (hi : i < ops.size) (ho : ops[i]? = some o) (hw : ∀ j, j < ops.size → waits ops i j = true → listed.getD j true = true) {v : Value} {w' : World}
    (hx : Ext w w') (hp : p i v w') : Inv ops a0 w0 p (listed.setIfInBounds i true) (a.put o.dst v) w' := by
  obtain ⟨_, hdist, hin⟩ := regOk_spec hok
  have hd : dstOf ops i = o.dst := by simp [dstOf, ho]
  have hset : ∀ j, j < ops.size → (listed.setIfInBounds i true).getD j true = true → j = i ∨ listed.getD j true = true := by
    intro j _ h
    by_cases hij : j = i
    · exact .inl hij
    · rw [getD_set_ne true (Ne.symm hij)] at h
      exact .inr h
  have hseti : (listed.setIfInBounds i true).getD i true = true := by
    have : i < listed.size := by rw [hI.size]; exact hi
    simp [this]
  have hset' : ∀ j, listed.getD j true = true → (listed.setIfInBounds i true).getD j true = true := by
    intro j h
    by_cases hij : j = i
    · subst hij; exact hseti
    · rw [getD_set_ne true (Ne.symm hij)]; exact h
  refine ⟨by simpa using hI.size, hI.ext.trans hx, by rw [put_defers]; exact hI.defers, by rw [put_size]; exact hI.tmps, ?_, ?_, ?_⟩
  · intro j hj hjs d hdj
    rcases hset j hjs hj with rfl | hj
    · rw [hd] at hdj
      rw [hdj, eval_put_same (by rw [hI.tmps]; exact hin j d hi (hd.trans hdj))]
      exact hp
    · by_cases hij : j = i
      · subst hij
        rw [hd] at hdj
        rw [hdj, eval_put_same (by rw [hI.tmps]; exact hin j d hi (hd.trans hdj))]
        exact hp
      · have := hmono _ _ _ _ (hI.vals j hj hjs d hdj) hx
        cases hod : o.dst with
        | none => exact this
        | some d' =>
          rw [eval_put_other]
          · exact this
          · rintro rfl
            exact hij (hdist j i d' hjs hi hdj (hd.trans hod))
  · intro t ht
    have h1 := hI.old t fun j hjs hj => ht j hjs (hset' j hj)
    cases hod : o.dst with
    | none => exact h1
    | some d' =>
      rw [eval_put_other]
      · exact h1
      · rintro rfl
        exact ht i hi hseti (hd.trans hod)
  · intro j hjs hj k hks hwk
    rcases hset j hjs hj with rfl | hj
    · exact hset' k (hw k hks hwk)
    · exact hset' k (hI.closed j hjs hj k hks hwk)

theorem wpAny_inv {a0 : Act} {w0 : World} {p : Nat → Value → World → Prop} (hmono : ∀ i v w w', p i v w → Ext w w' → p i v w') (hok : regOk ops a0.tmps.size = true) (hon : onOk ops = true)
    (hstep : ∀ i o, ops[i]? = some o → StepOk P ops a0 w0 p i o)
    (hfin : ∀ a w, Ext w0 w → a.defers = a0.defers → a.tmps.size = a0.tmps.size → (∀ i, i < ops.size → ∀ d, dstOf ops i = some d → p i (a.eval (.tmp d)) w) → (∀ t, unwritten ops t = true → a.eval (.tmp t) = a0.eval (.tmp t)) → Q .normal a w) :
    ∀ (fuel : Nat) (listed : Array Bool) (a : Act) (w : World), left listed ops.size ≤ fuel → Inv ops a0 w0 p listed a w → wpAny P .any ops Q fuel listed a w := by
  have fin : ∀ (listed : Array Bool) (a : Act) (w : World), Inv ops a0 w0 p listed a w → Region.ready .any ops listed = [] → Q .normal a w := by
    intro listed a w hI hr
    have hall := all_listed hI.size hon hok hr
    refine hfin a w hI.ext hI.defers hI.tmps (fun i hi d hd => hI.vals i (hall i hi) hi d hd) fun t ht => hI.old t fun i hi _ he => ?_
    have := (List.all_eq_true.1 ht) i (List.mem_range.2 hi)
    rw [he] at this
    simp at this
  intro fuel
  induction fuel with
  | zero =>
    intro listed a w hl hI
    have hr : Region.ready .any ops listed = [] := by
      cases h : Region.ready .any ops listed with
      | nil => rfl
      | cons i rest =>
        have hi : i ∈ Region.ready .any ops listed := by rw [h]; simp
        obtain ⟨h1, h2, _⟩ := (ready_iff hI.size hon).1 hi
        have := left_set ops.size h1 h2 (by rw [hI.size]; exact h1)
        omega
    exact ⟨hr, fin listed a w hI hr⟩
  | succ fuel ih =>
    intro listed a w hl hI
    refine ⟨fin listed a w hI, fun i hi => ?_⟩
    obtain ⟨h1, h2, h3⟩ := (ready_iff hI.size hon).1 hi
    have hls := left_set ops.size h1 h2 (by rw [hI.size]; exact h1)
    have ho : ops[i]? = some ops[i] := Array.getElem?_eq_getElem h1
    have hst := hstep i _ ho a w hI.ext hI.defers (fun j hj d hd => by
        have hjs : j < ops.size := by
          rcases Nat.lt_or_ge j ops.size with h | h
          · exact h
          · simp [dstOf, Array.getElem?_eq_none h] at hd
        exact hI.vals j (h3 j hjs hj) hjs d hd)
      (fun t ht => hI.old t fun k hk hlk hdk => by
        have := (List.all_eq_true.1 ht) k (List.mem_range.2 hk)
        rw [hdk] at this
        simp only [bne_self_eq_false, Bool.false_or] at this
        have := hI.closed k hk hlk i h1 this
        rw [h2] at this
        cases this)
    unfold wpOp
    simp only [ho]
    rcases hst with ⟨hw, hst⟩ | ⟨hw, hst⟩
    · rw [if_pos hw]
      refine .inl (upon_weak (Q := Q) (fun a' w' h => ?_) hst)
      obtain ⟨v, rfl, hx, hp⟩ := h
      exact ih _ _ _ (by omega) (inv_step hmono hok hI h1 ho h3 hx hp)
    · rw [if_neg (by rw [hw]; exact Bool.false_ne_true)]
      exact ih _ _ _ (by omega) (inv_step hmono hok hI h1 ho h3 (Below.refl _ _) hst)

/-- **ONE PASS SERVES EVERY ORDER.** -/
theorem wp_region_inv {id : Nat} {a0 : Act} {w : World} (p : Nat → Value → World → Prop) (hm : P.follows .mixedOrders = true) (hok : regOk ops a0.tmps.size = true) (hon : onOk ops = true)
    (hmono : ∀ i v w w', p i v w → Ext w w' → p i v w')
    (hstep : ∀ i o, ops[i]? = some o → StepOk P ops a0 w.drew p i o)
    (hfin : ∀ a w', Ext w.drew w' → a.defers = a0.defers → a.tmps.size = a0.tmps.size → (∀ i, i < ops.size → ∀ d, dstOf ops i = some d → p i (a.eval (.tmp d)) w') → (∀ t, unwritten ops t = true → a.eval (.tmp t) = a0.eval (.tmp t)) → Q .normal a w') :
    (Code.region id ops true).wp P Q a0 w := by
  refine wp_region_any hm (wpAny_inv hmono hok hon hstep hfin _ _ _ _ ?_ ?_)
  · unfold left
    exact Nat.le_trans List.countP_le_length (by simp)
  · have hf : ∀ i, i < ops.size → (Array.replicate ops.size false).getD i true = false := fun i hi => by simp [hi]
    refine ⟨by simp, Below.refl _ _, rfl, rfl, fun i h hi => ?_, fun _ _ => rfl, fun i hi h => ?_⟩
    · rw [hf i hi] at h; cases h
    · rw [hf i hi] at h; cases h
end

end Go.Proofs.Ytbnjhpknagkiaaa
