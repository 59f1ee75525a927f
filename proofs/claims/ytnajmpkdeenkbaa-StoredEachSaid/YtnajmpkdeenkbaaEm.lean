/-
  A region that draws its order, in the body of a round: one pass serves every order.
  Conditions: those of the theorem.
-/
import Derived.Test.YtnajmpkdeenkbaaStep
import Derived.Test.YtnajmpkdeenkbaaRl
import Derived.OrdersIn
import Derived.RangeFuncCalls
import Derived.RangeFuncSeq
namespace Go.Proofs.Ytnajmpkdeenkbaa
open Go.RowKit

/-- no operation defers -/
def nodef (ops : Array Oper) : Bool := ops.all fun o => match o.op with | .defer _ => false | _ => true
theorem nodef_spec {ops : Array Oper} (h : nodef ops = true) {i : Nat} {o : Oper} (ho : ops[i]? = some o) : ∀ c, o.op ≠ .defer c := by
  intro c hc
  have := (Array.all_eq_true_iff_forall_mem.1 h) o (Array.mem_of_getElem? ho)
  simp [hc] at this
section
variable {P : Program} {ops : Array Oper} {Q : Exit → Act → World → Prop} {lp n : Nat}
theorem room_wide' {F : Fence} (hd : F.depth = none) (k : Nat) : F.room k := fun d h => by rw [hd] at h; cases h
theorem rowsIn_round {row : String} {args : Array Value} {w : World} {R : Value → World → Prop} (m : Nat) (h : Rows P row args w R) : RowsIn (Fence.wide.inRound lp) m P row args w R :=
  fun c cs _ => let ⟨v, w', r, s⟩ := h c cs; ⟨v, w', r, (stepsIn_wide (P := P)).2 s⟩
theorem operIn_of_wp {o : Oper} {a : Act} {w : World} {K : Act → World → Prop} (hnd : ∀ c, o.op ≠ .defer c) (h : o.wp P a w K (fun _ _ _ => False)) : o.wpIn (Fence.wide.inRound lp) n P a w K Q := by
  refine ⟨fun _ _ => trivial, ?_⟩
  rw [Oper.semAt_eq _ _ _ hnd]
  unfold Oper.wp at h
  generalize (execOp a.eval o).run P w = r at h ⊢
  cases r with
  | ok x w' =>
    cases x <;> simp only [Oper.upon, Oper.uponIn] at h ⊢ <;>
      first
        | exact h
        | exact ⟨fun hd => (by cases hd), CallsIn.inRound lp (callsIn_wide.2 (Calls.mono h (fun e w'' he => by
            cases e
            · exact he
            · exact False.elim he
            · obtain ⟨_, _, hf⟩ := he; exact False.elim hf)))⟩
        | exact ⟨fun hd => (by cases hd), rowsIn_round _ h⟩
  | halt x w' => cases x <;> simp only [Oper.upon] at h
theorem wpAnyIn_inv {a0 : Act} {w0 : World} {p : Nat → Value → World → Prop} (hnd : nodef ops = true) (hmono : ∀ i v w w', p i v w → Ext w w' → p i v w') (hok : regOk ops a0.tmps.size = true) (hon : onOk ops = true)
    (hstep : ∀ i o, ops[i]? = some o → StepOk P ops a0 w0 p i o)
    (hfin : ∀ a w, Ext w0 w → a.defers = a0.defers → a.tmps.size = a0.tmps.size → (∀ i, i < ops.size → ∀ d, dstOf ops i = some d → p i (a.eval (.tmp d)) w) → (∀ t, unwritten ops t = true → a.eval (.tmp t) = a0.eval (.tmp t)) → Q .normal a w) :
    ∀ (fuel : Nat) (listed : Array Bool) (a : Act) (w : World), left listed ops.size ≤ fuel → Inv ops a0 w0 p listed a w → wpAnyIn (Fence.wide.inRound lp) n P .any ops Q fuel listed a w := by
  have fin : ∀ (listed : Array Bool) (a : Act) (w : World), Inv ops a0 w0 p listed a w → Region.ready .any ops listed = [] → Q .normal a w := by
    intro listed a w hI hr
    have hall := all_listed hI.size hon hok hr
    refine hfin a w hI.ext hI.defers hI.tmps (fun i hi d hd => hI.vals i (hall i hi) hi d hd) fun t ht => hI.old t fun i hi _ he => ?_
    have := (List.all_eq_true.1 ht) i (List.mem_range.2 hi)
    rw [he] at this
    simp at this
  intro fuel
  induction fuel with
  | zero =>
    intro listed a w hl hI
    have hr : Region.ready .any ops listed = [] := by
      cases h : Region.ready .any ops listed with
      | nil => rfl
      | cons i rest =>
        have hi : i ∈ Region.ready .any ops listed := by rw [h]; simp
        obtain ⟨h1, h2, _⟩ := (ready_iff hI.size hon).1 hi
        have := left_set ops.size h1 h2 (by rw [hI.size]; exact h1)
        omega
    exact ⟨hr, fin listed a w hI hr⟩
  | succ fuel ih =>
    intro listed a w hl hI
    refine ⟨fin listed a w hI, fun i hi => ?_⟩
    obtain ⟨h1, h2, h3⟩ := (ready_iff hI.size hon).1 hi
    have hls := left_set ops.size h1 h2 (by rw [hI.size]; exact h1)
    have ho : ops[i]? = some ops[i] := Array.getElem?_eq_getElem h1
    have hst := hstep i _ ho a w hI.ext hI.defers (fun j hj d hd => by
        have hjs : j < ops.size := by
          rcases Nat.lt_or_ge j ops.size with h | h
          · exact h
          · simp [dstOf, Array.getElem?_eq_none h] at hd
        exact hI.vals j (h3 j hjs hj) hjs d hd)
      (fun t ht => hI.old t fun k hk hlk hdk => by
        have := (List.all_eq_true.1 ht) k (List.mem_range.2 hk)
        rw [hdk] at this
        simp only [bne_self_eq_false, Bool.false_or] at this
        have := hI.closed k hk hlk i h1 this
        rw [h2] at this
        cases this)
    unfold wpOpIn
    simp only [ho]
    rcases hst with ⟨hw, hst⟩ | ⟨hw, hst⟩
    · rw [if_pos hw]
      refine operIn_of_wp (nodef_spec hnd ho) (upon_weak (Q := fun _ _ _ => False) (fun a' w' h => ?_) hst)
      obtain ⟨v, rfl, hx, hp⟩ := h
      exact ih _ _ _ (by omega) (inv_step hmono hok hI h1 ho h3 hx hp)
    · rw [if_neg (by rw [hw]; exact Bool.false_ne_true)]
      exact ⟨fun _ _ => trivial, ih _ _ _ (by omega) (inv_step hmono hok hI h1 ho h3 (Below.refl _ _) hst)⟩

/-- **ONE PASS SERVES EVERY ORDER**, in a round. -/
theorem wpIn_region_list2 {id : Nat} {a0 : Act} {w : World} (ps : List (Value → World → Prop)) (hm : P.follows .mixedOrders = true)
    (hok : regOk ops a0.tmps.size = true) (hon : onOk ops = true) (hmono : ∀ p ∈ ps, Mono p)
    (hstep : ∀ i o, ops[i]? = some o → StepOk P ops a0 w.drew (at_ ps) i o)
    (hfin : ∀ a w', Ext w w' → a.defers = a0.defers → a.tmps.size = a0.tmps.size → (∀ i, i < ops.size → ∀ d, dstOf ops i = some d → at_ ps i (a.eval (.tmp d)) w') → (∀ t, unwritten ops t = true → a.eval (.tmp t) = a0.eval (.tmp t)) → Q .normal a w')
    (hnd : nodef ops = true := by kernel_rfl) :
    (Code.region id ops true).wpIn (Fence.wide.inRound lp) n P Q a0 w := by
  have hmo : ∀ i v w w', at_ ps i v w → Ext w w' → at_ ps i v w' := by
    intro i
    unfold at_
    rcases Nat.lt_or_ge i ps.length with h | h
    · have : ps.getD i Any = ps[i] := by simp [List.getD, h]
      rw [this]
      exact hmono _ (List.getElem_mem h)
    · have : ps.getD i Any = Any := by simp [List.getD, List.getElem?_eq_none h]
      rw [this]
      exact mono_any
  refine wpIn_region_any hm (wpAnyIn_inv hnd hmo hok hon hstep (fun a w' h1 h2 h3 h4 h5 => hfin a w' ((Ext.drew w).trans h1) h2 h3 h4 h5) _ _ _ _ ?_ ?_)
  · unfold left
    exact Nat.le_trans List.countP_le_length (by simp)
  · have hf : ∀ i, i < ops.size → (Array.replicate ops.size false).getD i true = false := fun i hi => by simp [hi]
    refine ⟨by simp, Below.refl _ _, rfl, rfl, fun i h hi => ?_, fun _ _ => rfl, fun i hi h => ?_⟩
    · rw [hf i hi] at h; cases h
    · rw [hf i hi] at h; cases h
/-- a call of 'yield' within a round of another loop -/
theorem YieldAt.round {m m' l : Nat} {args : Array Value} {W : World} {R : Ending → World → Prop} (h : YieldAt Fence.wide m P l args W R) : YieldAt (Fence.wide.inRound lp) m' P l args W R := by
  obtain ⟨fn, tmps, assign, body, hy, hR⟩ := h
  exact ⟨fn, tmps, assign, body, hy, trivial, fun c cs _ => hR.2 c cs (room_wide _)⟩
end
/-- **THE LAW**, where what the body keeps may speak of all but the record. I: between two rounds; Id: behind the iterator. -/
theorem wpIn_rangeFunc_raw2 {P : Program} {F : Fence} {n : Nat} {α : Type} {g : Operand} {ps : Array Tmp} {assign body : Code} {Q : Exit → Act → World → Prop} {a : Act} {w : World}
    (hro : F.round = none) (h1 : 1 ≤ n) {gf : Nat} {lb : Array Value} (hg : a.eval g = .func (.func gf) #[] lb) (hFg : F.fn gf) (eg : ∀ args w, (callFunc gf args).run P w = .ok (.enter gf args) w)
    {encs : α → Array Value} {Kp : World → World → Prop}
    (hKt : ∀ {A B C : World}, Kp A B → Kp B C → Kp A C) (hKb : ∀ (W : World) (o o' : Obj), W.heap[w.heap.size + 1]? = some o → o.isCells = false → Kp W (W.putObj (w.heap.size + 1) o')) (hps : ∀ x, (encs x).size = ps.size)
    (I : List α → α → World → Prop) (I' : List α → World → Prop) (Id : World → Prop) (hI : ∀ pre x, Turn1 (w.heap.size + 1) (I pre x)) (hI' : ∀ pre, Turn1 (w.heap.size + 1) (I' pre)) (hId : Turn1 (w.heap.size + 1) Id)
    (Ax : α → Act → World → Prop) (hAx : ∀ x a', Turn1 (w.heap.size + 1) (Ax x a'))
    (hassign : ∀ (l : Nat) (pre : List α) (x : α) (W : World) (K : Act → World → Prop), I pre x W → (∀ a' W', KeepsFrom w.heap.size W W' → Kp W W' → I pre x W' → Ax x a' W' → K a' W') →
      assign.wpIn (F.inRound l) (n - 1 - 1) P (Exit.then K (fun _ _ _ => False)) { tmps := (ps.zip (encs x)).foldl (fun t (p, v) => t.setIfInBounds p v) a.tmps, defers := [] } W)
    (hbody : ∀ (l : Nat) (pre : List α) (x : α) (a' : Act) (W : World), w.heap.size ≤ l → I pre x W → Ax x a' W → body.wpIn (F.inRound l) (n - 1 - 1) P (allPost w.heap.size Kp (I' (pre ++ [x])) W) a' W)
    (hiter : ∀ (l : Nat) (Rd : World → Prop) (W : World), l = w.heap.size + 1 → Keeps2 w.heap.size W.heap.size Rd → w.grownBy W none → W.heap.size = w.heap.size + 2 → Rd W →
      (∀ pre x W1, I pre x W1 → Rd W1 → YieldAt F (n - 1 - 1) P l (encs x) W1 fun e W' => e = .returned (.bool true) ∧ I' (pre ++ [x]) W' ∧ Rd W' ∧ Kp W1 W') →
      CallsIn F (n - 1) P gf (#[.func (.yield l) #[] #[]] ++ lb) W fun e W' => (∃ v, e = .returned v) ∧ Id W' ∧ Rd W')
    (hdone : ∀ (D : Nat) (W : World), D = w.heap.size → Id W → W.heap[D]? = some (.deferred (some [])) → Q .normal { a with defers := { target := .collected D, args := #[] } :: a.defers } W) :
    (Code.rangeFunc g ps assign body).wpIn F n P Q a w := by
  refine wpIn_rangeFunc ?_
  intro fn hfn
  rw [hro]
  obtain ⟨rec, hrec⟩ : ∃ rec : LoopState → Option Code → Loop, rec = fun st pe => { state := st, pending := pe, fn, tmps := a.tmps, params := ps, assign, body, defers := w.heap.size } := ⟨_, rfl⟩
  obtain ⟨W1, hW1⟩ : ∃ W1, (w.alloc (.deferred (some []))).alloc (.loop (rec .ready none)) = W1 := ⟨_, rfl⟩
  have hL1 : W1.heap[w.heap.size + 1]? = some (.loop (rec .ready none)) := by
    rw [← hW1]; have := World.alloc_heap_new (w.alloc (.deferred (some []))) (.loop (rec .ready none)); rwa [World.size_alloc] at this
  have hK1 : W1.heap[w.heap.size]? = some (.deferred (some [])) := by
    rw [← hW1]; exact (Below.heap_alloc _ _ _ (by simp)).trans (World.alloc_heap_new w _)
  have hb1 : w.grownBy W1 none := by
    rw [← hW1]
    refine ⟨rfl, rfl, rfl, by simp; omega, fun k hk _ => ?_⟩
    rw [Below.heap_alloc _ _ _ (by simp; omega), Below.heap_alloc _ _ _ hk]
  have hs1 : W1.heap.size = w.heap.size + 2 := by rw [← hW1, World.size_alloc, World.size_alloc]
  refine ⟨w.heap.size + 1, [{ target := .collected w.heap.size, args := #[] }], W1, { target := .fn (.func gf) lb, args := #[.func (.yield (w.heap.size + 1)) #[] #[]] }, W1, gf,
    #[.func (.yield (w.heap.size + 1)) #[] #[]] ++ lb, W1, ?_, ?_, ?_, ?_, fun _ => h1, ?_⟩
  · rw [← hW1, hrec]; exact run_enterLoop_outer _ _ _ _ _
  · simp only [resolve, hg]
    simp [go_sem]
  · intro f' hf'; simp [Target.leads] at hf'; subst hf'; exact hFg
  · simp [invoke, go_sem, eg]
  · refine (hiter (w.heap.size + 1) (fun W => W.heap[w.heap.size + 1]? = some (.loop (rec .ready none)) ∧ W.heap[w.heap.size]? = some (.deferred (some []))) W1 rfl
      ⟨fun A B hs hk => ⟨hk.same _ _ (by omega) hs.1 rfl, hk.same _ _ (Nat.le_refl _) hs.2 rfl⟩, fun A B row hs hg' hr => ?_⟩ hb1 hs1 ⟨hL1, hK1⟩ ?_).mono ?_
    · have e1 := (Array.getElem?_eq_some_iff.1 hs.1).1
      refine ⟨(hg'.block _ e1 (fun e => ?_)).trans hs.1, (hg'.block _ (by omega) (fun e => ?_)).trans hs.2⟩
      · have := hr _ e.symm; omega
      · have := hr _ e.symm; omega
    · -- one round
      rintro pre x W hi ⟨hl, hk⟩
      have hlt : w.heap.size + 1 < W.heap.size := (Array.getElem?_eq_some_iff.1 hl).1
      have hy := run_yield (P := P) (args := encs x) hl (by rw [hrec]; exact hps x)
      rw [hrec] at hy
      refine ⟨fn, _, assign, body, hy, roundIn_of_wpIn hfn (hassign _ pre x W _ hi ?_)⟩
      clear hy
      intro a' Wa hkfa hkpa hia hax
      replace hl := hkfa.same _ _ (by omega) hl rfl
      replace hk := hkfa.same _ _ (Nat.le_refl _) hk rfl
      replace hlt : w.heap.size + 1 < Wa.heap.size := (Array.getElem?_eq_some_iff.1 hl).1
      refine ⟨_, run_beginRound hl (by rw [hrec]), ?_⟩
      have hl2 : (Wa.putObj (w.heap.size + 1) (.loop { rec .ready none with state := .busy })).heap[w.heap.size + 1]? = some (.loop { rec .ready none with state := .busy }) := World.putObj_heap_same hlt
      have hk2 : (Wa.putObj (w.heap.size + 1) (.loop { rec .ready none with state := .busy })).heap[w.heap.size]? = some (.deferred (some [])) := (World.putObj_heap_other (by omega)).trans hk
      have hw2 : Kp Wa (Wa.putObj (w.heap.size + 1) (.loop { rec .ready none with state := .busy })) := hKb _ _ _ hl rfl
      refine wpIn_mono (hbody _ pre x a' _ (by omega) (hI pre x _ _ _ hia hl rfl) (hAx x a' _ _ _ hax hl rfl)) ?_
      rintro e a3 W3 hp
      cases e with
      | normal =>
        obtain ⟨hk3, hkp3, hi3⟩ := hp
        have hl3 := hk3.same _ _ (by omega) hl2 rfl
        have he := run_endRound (P := P) none hl3
        refine ⟨_, _, he, rfl, hI' _ _ _ _ hi3 hl3 rfl, ⟨?_, ?_⟩, hKt hkpa (hKt (hKt hw2 hkp3) (hKb _ _ _ hl3 rfl))⟩
        · rw [hrec]; rw [hrec] at hl3; exact World.putObj_heap_same (Array.getElem?_eq_some_iff.1 hl3).1
        · exact (World.putObj_heap_other (by omega)).trans (hk3.same _ _ (Nat.le_refl _) hk2 rfl)
      | ret => exact hp.elim
      | exit id => exact hp.elim
      | goto t => exact hp.elim
      | panic ch => exact hp.elim
      | outgrown => exact hp.elim
    · -- behind the iterator
      rintro e W2 ⟨⟨v, rfl⟩, hi, hl, hk⟩
      exact ⟨none, _, by have := run_endLoop (P := P) hl (by rw [hrec]; simp); rw [hrec] at this; exact this, hdone _ _ rfl (hId _ _ _ hi hl rfl) ((World.putObj_heap_other (by omega)).trans hk)⟩


end Go.Proofs.Ytnajmpkdeenkbaa
