/-
  The steps of a region that draws its order, a lemma for each kind of operation; what a slot's value may be said to be.
  Conditions: those of each statement.
-/
import Derived.Test.YtbnjhpknagkiaaaReg
import Derived.BigCall
namespace Go.Proofs.Ytbnjhpknagkiaaa
open Go.RowKit

/-- what a slot holds -/
def Is (c : Value) : Value → World → Prop := fun v _ => v = c
/-- a slot holds bytes -/
def BytesP (bs : List UInt8) : Value → World → Prop := fun v w => BS w w.heap.size v bs
/-- nothing is said -/
def Any : Value → World → Prop := fun _ _ => True

/-- it stays so -/
def Mono (p : Value → World → Prop) : Prop := ∀ v w w', p v w → Ext w w' → p v w'
theorem mono_is (c : Value) : Mono (Is c) := fun _ _ _ h _ => h
theorem mono_bytes (bs : List UInt8) : Mono (BytesP bs) := fun _ _ _ h hx => (BS.ext h (Nat.le_refl _) hx).more hx.size
theorem mono_any : Mono Any := fun _ _ _ _ _ => trivial

theorem BytesP.of_own {w : World} {base : Nat} {v : Value} {bs : List UInt8} (h : Own w base v bs) : BytesP bs v w := h.bs
theorem BytesP.of_bs {w : World} {B : Nat} {v : Value} {bs : List UInt8} (h : BS w B v bs) (hB : B ≤ w.heap.size) : BytesP bs v w := h.more hB

theorem mono_at {p : Value → World → Prop} (hp : Mono p) {v : Value} {w w' : World} (h : p v w) (hx : Ext w w') : p v w' := hp v w w' h hx
theorem old_is {p : Value → World → Prop} {v u : Value} {w : World} (hu : u = v) (h : p v w) : p u w := by rw [hu]; exact h

/-- the predicates as a list -/
def at_ (ps : List (Value → World → Prop)) (i : Nat) : Value → World → Prop := ps.getD i Any

theorem wp_region_list {P : Program} {ops : Array Oper} {Q : Exit → Act → World → Prop} {id : Nat} {a0 : Act} {w : World} (ps : List (Value → World → Prop)) (hm : P.follows .mixedOrders = true)
    (hok : regOk ops a0.tmps.size = true) (hon : onOk ops = true) (hmono : ∀ p ∈ ps, Mono p)
    (hstep : ∀ i o, ops[i]? = some o → StepOk P ops a0 w.drew (at_ ps) i o)
    (hfin : ∀ a w', Ext w w' → a.defers = a0.defers → (∀ i, i < ops.size → ∀ d, dstOf ops i = some d → at_ ps i (a.eval (.tmp d)) w') → (∀ t, unwritten ops t = true → a.eval (.tmp t) = a0.eval (.tmp t)) → Q .normal a w') :
    (Code.region id ops true).wp P Q a0 w := by
  refine wp_region_inv (at_ ps) hm hok hon (fun i => ?_) hstep fun a w' h1 h2 _ h4 h5 => hfin a w' ((Ext.drew w).trans h1) h2 h4 h5
  unfold at_
  rcases Nat.lt_or_ge i ps.length with h | h
  · have : ps.getD i Any = ps[i] := by simp [List.getD, h]
    rw [this]
    exact hmono _ (List.getElem_mem h)
  · have : ps.getD i Any = Any := by simp [List.getD, List.getElem?_eq_none h]
    rw [this]
    exact mono_any

theorem wp_region_list2 {P : Program} {ops : Array Oper} {Q : Exit → Act → World → Prop} {id : Nat} {a0 : Act} {w : World} (ps : List (Value → World → Prop)) (hm : P.follows .mixedOrders = true)
    (hok : regOk ops a0.tmps.size = true) (hon : onOk ops = true) (hmono : ∀ p ∈ ps, Mono p)
    (hstep : ∀ i o, ops[i]? = some o → StepOk P ops a0 w.drew (at_ ps) i o)
    (hfin : ∀ a w', Ext w w' → a.defers = a0.defers → a.tmps.size = a0.tmps.size → (∀ i, i < ops.size → ∀ d, dstOf ops i = some d → at_ ps i (a.eval (.tmp d)) w') → (∀ t, unwritten ops t = true → a.eval (.tmp t) = a0.eval (.tmp t)) → Q .normal a w') :
    (Code.region id ops true).wp P Q a0 w := by
  refine wp_region_inv (at_ ps) hm hok hon (fun i => ?_) hstep fun a w' h1 h2 h3 h4 h5 => hfin a w' ((Ext.drew w).trans h1) h2 h3 h4 h5
  unfold at_
  rcases Nat.lt_or_ge i ps.length with h | h
  · have : ps.getD i Any = ps[i] := by simp [List.getD, h]
    rw [this]
    exact hmono _ (List.getElem_mem h)
  · have : ps.getD i Any = Any := by simp [List.getD, List.getElem?_eq_none h]
    rw [this]
    exact mono_any
/-- the slots: those that were written, by name; the others as they were -/
def mixA (a : Act) : List Bool → List Value → Nat → List Value
  | true :: bs, _ :: vs, i => a.eval (.tmp i) :: mixA a bs vs (i + 1)
  | false :: bs, v :: vs, i => v :: mixA a bs vs (i + 1)
  | _, _, _ => []
/-- which slots a region writes -/
def writ (ops : Array Oper) (n : Nat) : List Bool := (List.range n).map fun t => !(unwritten ops t)
theorem mixA_get (a : Act) : ∀ (bs : List Bool) (vs : List Value) (k i : Nat), bs.length = vs.length → (mixA a bs vs k)[i]? = (vs[i]?).map fun v => if bs.getD i false then a.eval (.tmp (k + i)) else v
  | [], [], k, i, _ => by simp [mixA]
  | true :: bs, v :: vs, k, 0, _ => by simp [mixA]
  | false :: bs, v :: vs, k, 0, _ => by simp [mixA]
  | true :: bs, v :: vs, k, i + 1, h => by
    have := mixA_get a bs vs (k + 1) i (by simpa using h)
    simp only [mixA, List.getElem?_cons_succ, this, List.getD_cons_succ, show k + 1 + i = k + (i + 1) from by omega]
  | false :: bs, v :: vs, k, i + 1, h => by
    have := mixA_get a bs vs (k + 1) i (by simpa using h)
    simp only [mixA, List.getElem?_cons_succ, this, List.getD_cons_succ, show k + 1 + i = k + (i + 1) from by omega]
  | [], _ :: _, _, _, h => by cases h
  | _ :: _, [], _, _, h => by cases h
theorem act_mix {ops : Array Oper} {a a0 : Act} (bs : List Bool) (hb : writ ops a0.tmps.size = bs) (hs : a.tmps.size = a0.tmps.size) (hd : a.defers = a0.defers) (hO : ∀ t, unwritten ops t = true → a.eval (.tmp t) = a0.eval (.tmp t)) :
    a = { tmps := (mixA a bs a0.tmps.toList 0).toArray, defers := a0.defers } := by
  obtain ⟨ts, ds⟩ := a
  simp only at hd hs
  subst hd
  congr 1
  have hl : bs.length = a0.tmps.toList.length := by rw [← hb]; simp [writ]
  apply Array.ext'
  apply List.ext_getElem?
  intro i
  have hm := mixA_get { tmps := ts, defers := a0.defers } bs a0.tmps.toList 0 i hl
  simp only [Nat.zero_add] at hm
  show ts.toList[i]? = _
  rw [show ((mixA { tmps := ts, defers := a0.defers } bs a0.tmps.toList 0).toArray).toList = mixA { tmps := ts, defers := a0.defers } bs a0.tmps.toList 0 from by simp, hm]
  rcases Nat.lt_or_ge i ts.size with h | h
  · have h0 : i < a0.tmps.size := by omega
    have e1 : ts.toList[i]? = some ts[i] := by simp [h]
    have e2 : a0.tmps.toList[i]? = some a0.tmps[i] := by simp [h0]
    rw [e1, e2]
    have hbi : bs.getD i false = !(unwritten ops i) := by rw [← hb]; simp [writ, h0]
    have ev : (Act.eval { tmps := ts, defers := a0.defers } (.tmp i)) = ts[i] := by simp [Act.eval, h]
    simp only [Option.map_some, hbi, ev]
    cases hu : unwritten ops i with
    | false => simp
    | true =>
      have := hO i hu
      rw [ev] at this
      rw [this]
      simp [Act.eval, h0]
  · have e1 : ts.toList[i]? = none := by simp; omega
    have e2 : a0.tmps.toList[i]? = none := by simp; omega
    rw [e1, e2]
    rfl

/-- the steps, one by one -/
def Steps (P : Program) (ops : Array Oper) (a0 : Act) (w0 : World) (p : Nat → Value → World → Prop) : Nat → List Oper → Prop
  | _, [] => True
  | i, o :: rest => StepOk P ops a0 w0 p i o ∧ Steps P ops a0 w0 p (i + 1) rest
theorem Steps.nil_ {P : Program} {ops : Array Oper} {a0 : Act} {w0 : World} {p : Nat → Value → World → Prop} {i : Nat} : Steps P ops a0 w0 p i [] := trivial
theorem Steps.cons_ {P : Program} {ops : Array Oper} {a0 : Act} {w0 : World} {p : Nat → Value → World → Prop} {i : Nat} {o : Oper} {rest : List Oper} (h : StepOk P ops a0 w0 p i o) (hr : Steps P ops a0 w0 p (i + 1) rest) : Steps P ops a0 w0 p i (o :: rest) := ⟨h, hr⟩
theorem Steps.get {P : Program} {ops : Array Oper} {a0 : Act} {w0 : World} {p : Nat → Value → World → Prop} : ∀ (l : List Oper) (k : Nat), Steps P ops a0 w0 p k l → ∀ i o, l[i]? = some o → StepOk P ops a0 w0 p (k + i) o
  | [], _, _, _, _, h => by simp at h
  | o :: l, k, hs, 0, o', h => by
    simp at h
    subst h
    exact hs.1
  | o :: l, k, hs, i + 1, o', h => by
    have := Steps.get l (k + 1) hs.2 i o' (by simpa using h)
    rwa [show k + (i + 1) = k + 1 + i from by omega]
theorem Steps.all {P : Program} {l : List Oper} {a0 : Act} {w0 : World} {p : Nat → Value → World → Prop} (h : Steps P l.toArray a0 w0 p 0 l) : ∀ i o, l.toArray[i]? = some o → StepOk P l.toArray a0 w0 p i o := by
  intro i o ho
  have := Steps.get l 0 h i o (by simpa using ho)
  rwa [Nat.zero_add] at this

section
variable {P : Program} {ops : Array Oper} {o : Oper} {a : Act} {w : World} {p : Value → World → Prop}

/-- the operation runs, and leaves its value with p -/
def Res (P : Program) (o : Oper) (a : Act) (w : World) (p : Value → World → Prop) : Prop := o.wp P a w (fun a' w' => ∃ v, a' = a.put o.dst v ∧ Ext w w' ∧ p v w') (fun _ _ _ => False)

theorem evc (a : Act) (v : Value) : a.eval (.const v) = v := rfl
theorem wanted_none (hg : o.guard = none) : Region.wanted o (yielded ops a.tmps) = true := by simp [Region.wanted, hg]
theorem wanted_is {j : Nat} {d : Tmp} {b c : Bool} (hg : o.guard = some (j, b)) (hd : dstOf ops j = some d) (h : a.eval (.tmp d) = .bool c) : Region.wanted o (yielded ops a.tmps) = (c == b) := by
  have hlt : a.tmps[d]? = some (.bool c) := by
    have h' : a.tmps.getD d undef = .bool c := h
    rcases Nat.lt_or_ge d a.tmps.size with hlt | hge
    · simp only [Array.getD, hlt, dite_true] at h'
      rw [Array.getElem?_eq_getElem hlt]
      exact congrArg some h'
    · simp [Array.getD, Nat.not_lt.2 hge, undef] at h'
  have hj : (ops[j]?).bind (·.dst) = some d := hd
  simp [Region.wanted, hg, yielded, hj, hlt]
theorem yes_none (hg : o.guard = none) (h : Res P o a w p) : (Region.wanted o (yielded ops a.tmps) = true ∧ Res P o a w p) ∨ (Region.wanted o (yielded ops a.tmps) = false ∧ p undef w) := .inl ⟨wanted_none hg, h⟩
theorem yes_is {j : Nat} {d : Tmp} {b : Bool} (hg : o.guard = some (j, b)) (hd : dstOf ops j = some d) (hv : a.eval (.tmp d) = .bool b) (h : Res P o a w p) :
    (Region.wanted o (yielded ops a.tmps) = true ∧ Res P o a w p) ∨ (Region.wanted o (yielded ops a.tmps) = false ∧ p undef w) := .inl ⟨by rw [wanted_is hg hd hv]; simp, h⟩
theorem no_is {j : Nat} {d : Tmp} {b : Bool} (hg : o.guard = some (j, b)) (hd : dstOf ops j = some d) (hv : a.eval (.tmp d) = .bool (!b)) (h : p undef w) :
    (Region.wanted o (yielded ops a.tmps) = true ∧ Res P o a w p) ∨ (Region.wanted o (yielded ops a.tmps) = false ∧ p undef w) := .inr ⟨by rw [wanted_is hg hd hv]; cases b <;> rfl, h⟩

theorem wanted_undef {j : Nat} {d : Tmp} {b : Bool} (hg : o.guard = some (j, b)) (hd : dstOf ops j = some d) (h : a.eval (.tmp d) = undef) : Region.wanted o (yielded ops a.tmps) = false := by
  have hj : (ops[j]?).bind (·.dst) = some d := hd
  have h' : a.tmps.getD d undef = undef := h
  cases hx : a.tmps[d]? with
  | none => simp [Region.wanted, hg, yielded, hj, hx]
  | some v =>
    have : v = undef := by
      rcases Nat.lt_or_ge d a.tmps.size with hlt | hge
      · rw [Array.getElem?_eq_getElem hlt] at hx
        simp only [Array.getD, hlt, dite_true] at h'
        injection hx with hx
        exact hx.symm.trans h'
      · rw [Array.getElem?_eq_none hge] at hx
        cases hx
    subst this
    simp [Region.wanted, hg, yielded, hj, hx, undef]
theorem no_undef {j : Nat} {d : Tmp} {b : Bool} (hg : o.guard = some (j, b)) (hd : dstOf ops j = some d) (hv : a.eval (.tmp d) = undef) (h : p undef w) :
    (Region.wanted o (yielded ops a.tmps) = true ∧ Res P o a w p) ∨ (Region.wanted o (yielded ops a.tmps) = false ∧ p undef w) := .inr ⟨wanted_undef hg hd hv, h⟩

theorem step_mk {ops : Array Oper} {a0 : Act} {w0 : World} {ps : List (Value → World → Prop)} {i : Nat} {o : Oper} (q : Value → World → Prop) (hq : at_ ps i = q)
    (h : ∀ (a : Act) (w : World), Ext w0 w → (∀ j, waits ops i j = true → ∀ d, dstOf ops j = some d → at_ ps j (a.eval (.tmp d)) w) → (∀ t, untouched ops i t = true → a.eval (.tmp t) = a0.eval (.tmp t)) →
      (Region.wanted o (yielded ops a.tmps) = true ∧ Res P o a w q) ∨ (Region.wanted o (yielded ops a.tmps) = false ∧ q undef w)) : StepOk P ops a0 w0 (at_ ps) i o := by
  subst hq
  intro a w hx _ hE hO
  exact h a w hx hE hO
theorem do_run {v : Value} (hr : (execOp a.eval o).run P w = .ok (.value v) w) (hp : p v w) : Res P o a w p := by
  unfold Res Oper.wp
  rw [hr]
  exact ⟨v, rfl, Below.refl _ _, hp⟩
theorem do_run_to {v : Value} {w' : World} (hr : (execOp a.eval o).run P w = .ok (.value v) w') (hx : Ext w w') (hp : p v w') : Res P o a w p := by
  unfold Res Oper.wp
  rw [hr]
  exact ⟨v, rfl, hx, hp⟩
theorem do_move {x : Operand} (ho : o.op = .move x) (hp : p (a.eval x) w) : Res P o a w p := do_run (v := a.eval x) (by simp [execOp, ho, Sem.run_pure]) hp
theorem do_assign {x : Operand} (ho : o.op = .assign x) (hp : p (a.eval x) w) : Res P o a w p := do_run (v := a.eval x) (by simp [execOp, ho, Sem.run_pure]) hp
theorem do_pick {c x y : Operand} (ho : o.op = .pick c x y) (hc : a.eval c = .bool true) (hp : p (a.eval x) w) : Res P o a w p := do_run (v := a.eval x) (by simp [execOp, ho, hc, asBool, Sem.run_pure]) hp
theorem do_pick_no {c x y : Operand} (ho : o.op = .pick c x y) (hc : a.eval c = .bool false) (hp : p (a.eval y) w) : Res P o a w p := do_run (v := a.eval y) (by simp [execOp, ho, hc, asBool, Sem.run_pure]) hp
theorem do_call {f : FuncId} {xs : Array Operand} {ats : Array TypeId} {fn : Func} (ho : o.op = .call { callee := .value (.func f), args := xs, argTypes := ats }) (hf : P.funcs[f]? = some fn) (hn : (fn.name == "runtime.NumGoroutine") = false) (hb : fn.body.isNone = false)
    {args : Array Value} (hargs : xs.map a.eval = args) (h : Calls P f args w fun e w' => ∃ v, e = .returned v ∧ Ext w w' ∧ p v w') : Res P o a w p := by
  have hr : (execOp a.eval o).run P w = .ok (.enter f args) w := by
    obtain ⟨dst, op, ty, pos, after, guard⟩ := o
    simp only at ho
    subst ho
    rw [execOp_call_go]
    have : #[] ++ xs.map a.eval ++ #[] = args := by simpa using hargs
    rw [this]
    have hn' : ¬fn.name = "runtime.NumGoroutine" := by simpa using hn
    have hb' : ¬fn.body = none := fun h => by rw [h] at hb; cases hb
    simp [callFunc, hf, hn', hb', Sem.run_pure]
  unfold Res Oper.wp
  rw [hr]
  show Calls P f args w _
  refine h.mono fun e w' => ?_
  rintro ⟨v, rfl, hx, hp⟩
  exact ⟨v, rfl, hx, hp⟩
/-- an operation on two values -/
theorem do_bin {op : BinOp} {t t' : TypeId} {x y : Operand} {u1 u2 v : Value} (ho : o.op = .binOp op t x y t') (hx : a.eval x = u1) (hy : a.eval y = u2)
    (hr : ((eqGuard op t x y u1 u2).run P w).andThen (fun _ w' => (binOp op t u1 u2).run P w') = .ok v w) (hp : p v w) : Res P o a w p :=
  do_run (v := v) (by
    simp only [execOp, ho, hx, hy, Sem.run_bind]
    rw [hr]
    simp [Result.andThen, Sem.run_pure]) hp
theorem ba_append (a b : List UInt8) : (⟨a.toArray⟩ : ByteArray) ++ ⟨b.toArray⟩ = ⟨(a ++ b).toArray⟩ := by
  apply ByteArray.ext
  simp
/-- 's + t' -/
theorem do_concat {t t' : TypeId} {x y : Operand} {l m : List UInt8} (ho : o.op = .binOp .add t x y t') (hx : a.eval x = .string ⟨l.toArray⟩) (hy : a.eval y = .string ⟨m.toArray⟩) (hl : l.length + m.length ≤ 1000000000)
    (hp : p (.string ⟨(l ++ m).toArray⟩) w) : Res P o a w p :=
  do_bin (v := .string ⟨(l ++ m).toArray⟩) ho hx hy (by
    simp [go_sem]
    rw [if_neg (by omega), ba_append]) hp
/-- 'string(b)' -/
theorem do_string {src dst e : TypeId} {x : Operand} (ho : o.op = .convert src dst x) (hs : P.underlying src = some (.slice e)) (he : P.underlying e = some (.int .u8)) (hd : P.underlying dst = some .string)
    {bs : List UInt8} (h : BytesP bs (a.eval x) w) (hp : p (.string ⟨bs.toArray⟩) w) : Res P o a w p :=
  do_run (by simp [execOp, ho, Result.andThen, run_string_of_bytes w src dst e hs he hd _ _ bs h]) hp
/-- 'len(b)' -/
theorem do_len {x : Operand} {t e : TypeId} {A : Option Addr} {n c : Nat} (ho : o.op = .call { callee := .builtin .len, args := #[x], argTypes := #[t] }) (ht : P.underlying t = some (.slice e)) (h : a.eval x = .slice A n c) (hp : p (.int .i64 n) w) : Res P o a w p :=
  do_run (v := .int .i64 n) (by simp [execOp, ho, resolve, invoke, builtin, Sem.run_pure, Result.andThen, h, Builtin.len_, run_underlying ht, goInt]) hp
theorem BytesP.form {bs : List UInt8} {v : Value} (h : BytesP bs v w) : ∃ A c, v = .slice A bs.length c := by
  obtain ⟨A, c, hv, _⟩ := h
  exact ⟨A, c, hv⟩
end

end Go.Proofs.Ytbnjhpknagkiaaa
