/-
  Contract of frame.Split (a range over a function that writes its caller's cell).
  Conditions: rows of bytes of at most 1,000,000.
-/
import Derived.Test.YtgipbkfpfidpmaaFe
import Derived.Test.YtgipbkfpfidpmaaFh
import Derived.Test.YtgipbkfpfidpmaaRl
import Derived.Test.YtgipbkfpfidpmaaDt
namespace Go.Proofs.Ytgipbkfpfidpmaa
open Go.RowKit
attribute [local go_sem] Oper.semAt_some

theorem BBS.of_sl {w : World} {B : Nat} {v : Value} {l : List (List UInt8)} (h : SL w (· < B) v l) : BBS w B v l := by
  obtain ⟨A, c, xs, e, h1, h2, h3, h4, h5⟩ := h
  refine ⟨xs, ⟨A, c, e, h1, h2, h3, h4⟩, fun i hi => ?_⟩
  obtain ⟨u, hu, hs⟩ := h5.at_ hi
  refine ⟨u, ?_, hs.bs⟩
  have h := congrArg (fun l => l[0]?) hu
  simp only [List.getElem?_take, List.getElem?_drop, List.getElem?_cons_zero] at h
  simpa [Rep.n] using h

theorem OwnL.lt {α : Type} [Rep α] {w : World} {base : Nat} {e : TypeId} {S : Nat → Prop} {v : Value} {l : List α} (h : OwnL w base e S v l) : ∀ k, v.ownBlock = some k → k < w.heap.size := by
  obtain ⟨xs, h1, _⟩ := h
  exact fun k hk => (World.ownsRow.lt h1 k hk).2
theorem Own.slB {w : World} {b : Nat} {v : Value} {bs : List UInt8} (h : Own w b v bs) : SL w (fun k => b ≤ k ∧ k < w.heap.size) v bs := by
  obtain ⟨A, c, hv, k1, k2, k3, k4⟩ := ownsRow_form h
  refine ⟨A, c, bv bs, hv, k1, k2, k3, ⟨k4.1, fun hn => ?_⟩, reps_bytes _ _ _⟩
  obtain ⟨ad, e, hb, hc⟩ := k4.2 hn
  exact ⟨ad, e, ⟨own_ge h ad.block (by rw [hv, e]; rfl), hb⟩, hc⟩
/-- what lies below B lay so before -/
theorem BS.back {w w' : World} {B : Nat} {v : Value} {bs : List UInt8} (h : BS w' B v bs) (hb : Below B w w') : BS w B v bs := by
  obtain ⟨A, c, hv, h1, h2, h3, h4⟩ := h
  exact ⟨A, c, hv, h1, h2, h3, h4.keep fun _ hp => (hb.cell hp).symm⟩
/-- what holds between two rounds: the function's boxes, the row that grows -/
structure SplSt (w : World) (v : Value) (W : World) (u : Value) (done : List (List UInt8)) (nn ee : Int) : Prop where
  bl : Boxed W w.heap.size 36 u
  bn : Boxed W (w.heap.size + 1) 3 (.int .i64 nn)
  be : Boxed W (w.heap.size + 2) 24 (.int .i64 ee)
  bb : Boxed W (w.heap.size + 3) 22 v
  bw : Boxed W (w.heap.size + 4) 59 (.pointer (some ⟨w.heap.size + 2, 0, none⟩))
  own : OwnL W (w.heap.size + 5) 22 (fun k => w.heap.size + 7 ≤ k) u done
  bel : Below w.heap.size w W
  size : w.heap.size + 7 ≤ W.heap.size
section
variable {w : World} {v : Value} {W W' : World} {u : Value} {done : List (List UInt8)} {nn ee : Int}
theorem SplSt.ext (h : SplSt w v W u done nn ee) (hx : Ext W W') : SplSt w v W' u done nn ee := by
  have hk : ∀ k t x, Boxed W k t x → Boxed W' k t x := fun k t x hb => (hx.block k hb.lt).trans hb
  exact ⟨hk _ _ _ h.bl, hk _ _ _ h.bn, hk _ _ _ h.be, hk _ _ _ h.bb, hk _ _ _ h.bw, h.own.ext hx, h.bel.trans (hx.mono h.bel.size), Nat.le_trans h.size hx.size⟩
theorem SplSt.turn (h : SplSt w v W u done nn ee) {o : Obj} (o' : Obj) (ho : W.heap[w.heap.size + 5 + 1]? = some o) (hc : o.isCells = false) : SplSt w v (W.putObj (w.heap.size + 5 + 1) o') u done nn ee := by
  have hg := grownBy_putObj' W (w.heap.size + 5 + 1) o'
  have hk : ∀ k t x, k < w.heap.size + 5 → Boxed W k t x → Boxed (W.putObj (w.heap.size + 5 + 1) o') k t x := fun k t x hlt hb => (hg.block k hb.lt (fun e => by injection e with e; omega)).trans hb
  refine ⟨hk _ _ _ (by omega) h.bl, hk _ _ _ (by omega) h.bn, hk _ _ _ (by omega) h.be, hk _ _ _ (by omega) h.bb, hk _ _ _ (by omega) h.bw, h.own.kept hg ?_ ?_, h.bel.grown hg h.bel.size (fun k e => by injection e with e; omega), by simpa using h.size⟩
  · obtain ⟨xs, h1, _⟩ := h.own
    rcases h1.2 with ⟨rfl, _⟩ | ⟨g, cap, cur, rfl, _, hgb, _⟩
    · exact .inl rfl
    · refine .inr fun e => ?_
      obtain rfl : g = w.heap.size + 5 + 1 := by simpa [Value.ownBlock] using e
      rw [hgb] at ho
      cases ho
      cases hc
  · intro r e hS
    injection e with e
    omega
theorem SplSt.setE (h : SplSt w v W u done nn ee) (e : Int) : SplSt w v (W.setCell ⟨w.heap.size + 2, 0, none⟩ (.int .i64 e)) u done nn e := by
  have hg := grownBy_setCell' W (w.heap.size + 2) (.int .i64 e)
  have hk : ∀ k t x, k ≠ w.heap.size + 2 → Boxed W k t x → Boxed (W.setCell ⟨w.heap.size + 2, 0, none⟩ (.int .i64 e)) k t x := fun k t x hlt hb => (hg.block k hb.lt (fun e => by injection e with e; omega)).trans hb
  refine ⟨hk _ _ _ (by omega) h.bl, hk _ _ _ (by omega) h.bn, h.be.set _, hk _ _ _ (by omega) h.bb, hk _ _ _ (by omega) h.bw, h.own.kept hg ?_ ?_, h.bel.grown hg h.bel.size (fun k e => by injection e with e; omega), Nat.le_trans h.size hg.size⟩
  · cases hv : u.ownBlock with
    | none => exact .inl rfl
    | some k =>
      have := h.own.ge k hv
      refine .inr fun e => ?_
      injection e with e
      omega
  · intro r e hS
    injection e with e
    omega
theorem SplSt.kept (h : SplSt w v W u done nn ee) {o : Obj} {w1 : World} (hg : (W.alloc o).grownBy w1 u.ownBlock) : ∀ k t x, k < w.heap.size + 5 → Boxed W k t x → Boxed w1 k t x := fun k t x hlt hb => by
  refine (hg.block k (by have := hb.lt; rw [World.size_alloc]; omega) (fun e => ?_)).trans ((Below.heap_alloc W o k hb.lt).trans hb)
  have := h.own.ge k e.symm
  omega
theorem SplSt.boxes (h : SplSt w v W u done nn ee) {o : Obj} {w1 : World} (hg : (W.alloc o).grownBy w1 u.ownBlock) : Boxed w1 w.heap.size 36 u ∧ Boxed w1 (w.heap.size + 1) 3 (.int .i64 nn) :=
  ⟨h.kept hg _ _ _ (by omega) h.bl, h.kept hg _ _ _ (by omega) h.bn⟩
theorem SplSt.push (h : SplSt w v W u done nn ee) {t : TypeId} {cs : Array Value} (m : Int) {w1 : World} {v1 : Value} {l1 : List (List UInt8)} (hown : OwnL w1 (w.heap.size + 5) 22 (fun k => w.heap.size + 7 ≤ k) v1 l1) (hg : (W.alloc (.cells cs t)).grownBy w1 u.ownBlock) :
    SplSt w v ((w1.setCell ⟨w.heap.size, 0, none⟩ v1).setCell ⟨w.heap.size + 1, 0, none⟩ (.int .i64 m)) v1 l1 m ee ∧ KeepsOthers W ((w1.setCell ⟨w.heap.size, 0, none⟩ v1).setCell ⟨w.heap.size + 1, 0, none⟩ (.int .i64 m)) := by
  have hg2 := grownBy_setCell' w1 w.heap.size v1
  have hg3 := grownBy_setCell' (w1.setCell ⟨w.heap.size, 0, none⟩ v1) (w.heap.size + 1) (.int .i64 m)
  have k1 := h.kept hg
  have far : ∀ k, v1.ownBlock = some k → w.heap.size + 5 ≤ k := hown.ge
  have hk : ∀ k t x, k < w.heap.size + 5 → k ≠ w.heap.size → k ≠ w.heap.size + 1 → Boxed W k t x → Boxed ((w1.setCell ⟨w.heap.size, 0, none⟩ v1).setCell ⟨w.heap.size + 1, 0, none⟩ (.int .i64 m)) k t x := fun k t x hlt h1 h2 hb => by
    have hb1 := k1 k t x hlt hb
    refine (hg3.block k ?_ (fun e => by injection e with e; omega)).trans ((hg2.block k hb1.lt (fun e => by injection e with e; omega)).trans hb1)
    exact Nat.lt_of_lt_of_le hb1.lt hg2.size
  have hsz : W.heap.size ≤ w1.heap.size := by have := hg.size; rw [World.size_alloc] at this; omega
  have hbel1 : Below w.heap.size w w1 := (h.bel.alloc h.bel.size _).grown hg (by have := h.bel.size; rw [World.size_alloc]; omega) (fun k e => by have := h.own.ge k e; omega)
  have hbel2 := hbel1.setCell (p := ⟨w.heap.size, 0, none⟩) (Nat.le_refl _) v1
  have hne : ∀ k, k < w.heap.size + 5 → v1.ownBlock = none ∨ v1.ownBlock ≠ some k := fun k hlt => by
    cases hv : v1.ownBlock with
    | none => exact .inl rfl
    | some j =>
      have := far j hv
      refine .inr fun e => ?_
      injection e with e
      omega
  refine ⟨⟨?_, ?_, hk _ _ _ (by omega) (by omega) (by omega) h.be, hk _ _ _ (by omega) (by omega) (by omega) h.bb, hk _ _ _ (by omega) (by omega) (by omega) h.bw, ?_, hbel2.setCell (p := ⟨w.heap.size + 1, 0, none⟩) (by simp) _, ?_⟩, ?_⟩
  · exact (hg3.block _ (Nat.lt_of_lt_of_le (k1 _ _ _ (by omega) h.bl).lt hg2.size) (fun e => by injection e with e; omega)).trans ((k1 _ _ _ (by omega) h.bl).set v1)
  · have hb1 : Boxed (w1.setCell ⟨w.heap.size, 0, none⟩ v1) (w.heap.size + 1) 3 (.int .i64 nn) := (hg2.block _ (k1 _ _ _ (by omega) h.bn).lt (fun e => by injection e with e; omega)).trans (k1 _ _ _ (by omega) h.bn)
    exact hb1.set _
  · refine (hown.kept hg2 (hne _ (by omega)) (fun r e hS => by injection e with e; omega)).kept hg3 (hne _ (by omega)) (fun r e hS => by injection e with e; omega)
  · have := h.size
    exact Nat.le_trans this (Nat.le_trans hsz (Nat.le_trans hg2.size hg3.size))
  · refine (((KeepsOthers.alloc W _).trans (KeepsOthers.of_grownBy hg fun j o ej hj => ?_)).trans (KeepsOthers.setCell _ _ _)).trans (KeepsOthers.setCell _ _ _)
    obtain ⟨xs, h1, _⟩ := h.own
    rcases h1.2 with ⟨rfl, _⟩ | ⟨g, cap, cur, rfl, _, hgb, _⟩
    · simp [Value.ownBlock] at ej
    · obtain rfl : g = j := by simpa [Value.ownBlock] using ej
      rw [Below.heap_alloc W _ g (Array.getElem?_eq_some_iff.1 hgb).1, hgb] at hj
      cases hj
      rfl
end

set_option maxHeartbeats 400000 in
/-- the iterator's maker -/
theorem frames_any (w : World) (v : Value) (A : Option Addr) (n c : Nat) (hv : v = .slice A n c) (p : Addr) :
    Calls Try.prog 33 #[v, .pointer (some p)] w fun e w' => e = .returned (.func (.func 37) #[] #[.pointer (some ⟨w.heap.size, 0, none⟩), .pointer (some ⟨w.heap.size + 1, 0, none⟩)]) ∧
      w' = (w.alloc (.cells #[v] 22)).alloc (.cells #[.pointer (some p)] 59) := by
  subst hv
  go_enter Try.func33, Try.ntmps33
  go_wp2
  go_ret
  exact ⟨rfl, rfl⟩

/-- how the iteration stands: 'done' has been given, r is left -/
def SplAt (bs : List UInt8) (done : List (List UInt8)) (r : List UInt8) (nn : Int) : Prop :=
  ∃ n, r.length ≤ n ∧ n ≤ 1000000 ∧ done.length + r.length ≤ bs.length ∧ sp bs = (done ++ (spl n r).1, (spl n r).2) ∧ nn = (bs.length : Int) - r.length

set_option maxHeartbeats 1600000 in
set_option maxRecDepth 100000 in
/-- the iterator: it yields payload after payload, and writes why it ends -/
theorem frames1_in (w : World) (v : Value) (bs : List UInt8) (hv : BS w w.heap.size v bs) (hl : bs.length ≤ 1000000) (l : Nat) (Rd : World → Prop) (B1 : Nat) (hRd : Keeps2 (w.heap.size + 5) B1 Rd) (W : World) (u0 : Value) (h0 : SplSt w v W u0 [] 0 0) (hR0 : Rd W)
    (hY : ∀ (u : Value) (done : List (List UInt8)) (q : List UInt8) (nn m : Int) (p : Value) (W1 : World), SplSt w v W1 u done nn 0 → (∃ b, Own W1 b p q ∧ w.heap.size + 7 ≤ b ∧ ∀ k, u.ownBlock = some k → k < b) → (0 ≤ m) → (done.length + 1 ≤ 1000000) → Rd W1 →
      YieldAt Fence.wide (2 - 1) Try.prog l #[.int .i64 m, p] W1 fun e W' => e = .returned (.bool true) ∧ (∃ u', SplSt w v W' u' (done ++ [q]) m 0) ∧ Rd W' ∧ True) :
    CallsIn Fence.wide 2 Try.prog 37 #[.func (.yield l) #[] #[], .pointer (some ⟨w.heap.size + 3, 0, none⟩), .pointer (some ⟨w.heap.size + 4, 0, none⟩)] W fun e W' => (∃ v, e = .returned v) ∧
      (∃ u, SplSt w v W' u (sp bs).1 ((bs.length : Int) - ((sp bs).2.1 : Nat)) ((sp bs).2.2 : Nat)) ∧ Rd W' := by
  refine callsIn_of_wp Try.func37 rfl trivial ?_ rfl
  simp only [Try.ntmps37, List.size_toArray, List.length_cons, List.length_nil, Nat.reduceAdd, Nat.reduceSub, Array.replicate_succ, Array.replicate_zero, List.push_toArray, List.append_toArray, List.nil_append, List.cons_append]
  have hbb := h0.bb.cell
  gi_wp2_with fail
  gi_loopw [4] (fun b wr => ∃ (u : Value) (done : List (List UInt8)) (r : List UInt8) (nn : Int), BS w w.heap.size b r ∧ SplSt w v wr u done nn 0 ∧ SplAt bs done r nn ∧ Rd wr) (fun b _ => match b with | .slice _ n _ => n | _ => 0)
  case atStart => exact ⟨u0, [], bs, 0, hv, h0, ⟨bs.length, Nat.le_refl _, hl, by simp, by simp [sp], by omega⟩, hR0⟩
  case round =>
    obtain ⟨u, done, r, nn, hb, hst, ⟨n, hrn, hn, hd, hsp, hnn⟩, hR⟩ := hrel
    obtain ⟨Ab, cb, rfl⟩ := hb.form
    have Hb := Lib.hid hb
    have Hst := Lib.hid hst
    have Hsp := Lib.hid hsp
    have HR := Lib.hid hR
    clear hb hst hsp hR
    by_cases h0' : r.length = 0
    · have h1 : ¬(0 : Int) < (r.length : Int) := by omega
      gi_wp2
      have hE := Hsp.out
      rw [spl_none h0', List.append_nil] at hE
      go_end0
      refine ⟨⟨_, rfl⟩, ⟨u, ?_⟩, HR.out⟩
      rw [hE]
      have : nn = (bs.length : Int) - ((0 : Nat) : Int) := by omega
      rw [this] at Hst
      exact Hst.out
    · have h1 : (0 : Int) < (r.length : Int) := by omega
      gi_wp2_with fail
      refine ⟨trivial, callsIn_wide.2 ((fget_at wr w.heap.size Hst.out.bel.size _ r (Hb.out.below Hst.out.bel) (by omega)).mono ?_)⟩
      rintro e w1 ⟨p, q, rfl, hp, hq, hx1⟩
      have Hst1 := Lib.hid (Hst.out.ext hx1)
      have HR1 := Lib.hid (hRd.turn _ _ none HR.out ⟨hx1.os, hx1.tape, hx1.output, hx1.size, fun k hk _ => hx1.block k hk⟩ (fun r e => by cases e))
      by_cases hE0 : fgE r = 0
      · obtain ⟨m, rfl⟩ : ∃ m, n = m + 1 := ⟨n - 1, by omega⟩
        have hlt := fgR_lt hE0
        have hspl := spl_ok (n := m) h0' hE0
        have hsp2 : sp bs = ((done ++ [fgP r]) ++ (spl m (fgR r)).1, (spl m (fgR r)).2) := by rw [Hsp.out, hspl, List.append_assoc]; rfl
        have Hsp2 := Lib.hid hsp2
        rw [hE0]
        have Hq := Lib.hid hq
        have hpo : ∃ b, Own w1 b p (fgP r) ∧ w.heap.size + 7 ≤ b ∧ ∀ k, u.ownBlock = some k → k < b := ⟨wr.heap.size, hp, Hst.out.size, Hst.out.own.lt⟩
        have hm : (0 : Int) ≤ (bs.length : Int) - ((fgR r).length : Nat) := by omega
        obtain ⟨fn, tmps, assign, body, hy, hR⟩ := hY u done (fgP r) nn ((bs.length : Int) - ((fgR r).length : Nat)) p w1 Hst1.out hpo hm (by omega) HR1.out
        obtain ⟨Aq, cq, rfl⟩ := Hq.out.form
        have hbb := Hst1.out.bb.cell
        obtain ⟨Av, cv, rfl⟩ := hv.form
        have hbd : I6 ((bs.length : Int) - ((fgR r).length : Nat)) := I6.mk (by omega)
        clear hspl hp hq hx1 hE0 hsp2
        generalize fgP r = P at hlt Hsp2 hpo hR
        generalize fgR r = R at hlt Hsp2 Hq hm hR hy hbd
        gi_wp2
        refine hR.mono ?_
        rintro e W3 ⟨rfl, ⟨u', hst3⟩, hR3, _⟩
        have Hst3 := Lib.hid hst3
        clear hst3
        gi_wp2
        go_roundw
        case rel => exact ⟨u', done ++ [P], R, _, Hq.out.back Hst1.out.bel, Hst3.out, ⟨m, by omega, by omega, by rw [List.length_append]; simp; omega, Hsp2.out, rfl⟩, hR3⟩
        case measure => show R.length < r.length; omega
      · have hspl := spl_err hrn h0' hE0
        have hE := Hsp.out
        rw [hspl, List.append_nil] at hE
        have HE := Lib.hid hE
        have hne : ((fgE r : Int) != 0) = true := by rw [bne_iff_ne]; omega
        generalize fgE r = E at HE hne
        have hbw := Hst1.out.bw.cell
        have hbe := Hst1.out.be.cell
        have hfe := Hst1.out.be.frozen
        clear hE hspl hp hq hx1 hE0
        gi_wp2
        refine bodyPost_ret (results_none rfl _ _ _) rfl ?_
        refine ⟨⟨_, rfl⟩, ⟨u, ?_⟩, hRd.others _ _ HR1.out ((KeepsOthers.setCell _ _ _).from _)⟩
        rw [HE.out, ← hnn]
        exact Hst1.out.setE _

section
variable {w : World} {v : Value} {W W' : World} {u : Value} {done : List (List UInt8)} {nn ee : Int}
theorem SplSt.same (h : SplSt w v W u done nn ee) {k : Nat} {t : TypeId} {x : Value} (hb : Boxed W k t x) (hk : k < w.heap.size + 5) (hge : w.heap.size ≤ k) : SplSt w v (W.setCell ⟨k, 0, none⟩ x) u done nn ee := by
  have hg := grownBy_setCell' W k x
  have hbx : ∀ j t' x', Boxed W j t' x' → Boxed (W.setCell ⟨k, 0, none⟩ x) j t' x' := fun j t' x' hj => by
    by_cases e : j = k
    · subst e
      have e2 := (show W.heap[j]? = _ from hb).symm.trans hj
      injection e2 with e2
      injection e2 with e3 e4
      subst e4
      have : x = x' := by
        have := congrArg (fun l => l[0]?) e3
        simpa using this
      subst this
      exact hb.set _
    · exact (hg.block j hj.lt (fun e' => by injection e' with e'; exact e e')).trans hj
  refine ⟨hbx _ _ _ h.bl, hbx _ _ _ h.bn, hbx _ _ _ h.be, hbx _ _ _ h.bb, hbx _ _ _ h.bw, h.own.kept hg ?_ (fun r e hS => by injection e with e; omega), h.bel.grown hg h.bel.size (fun j e => by injection e with e; omega), Nat.le_trans h.size hg.size⟩
  cases hv : u.ownBlock with
  | none => exact .inl rfl
  | some j =>
    have := h.own.ge j hv
    refine .inr fun e => ?_
    injection e with e
    omega

end

theorem SplSt.turnD {w : World} {v : Value} {W : World} {u : Value} {done : List (List UInt8)} {nn ee : Int} (h : SplSt w v W u done nn ee) {D : Nat} (hD : W.heap[D]? = some (.deferred (some []))) (hDg : D = w.heap.size + 5) : SplSt w v (W.putObj D (.deferred none)) u done nn ee := by
  have hg := grownBy_putObj' W D (.deferred none)
  have hk : ∀ k t x, k < w.heap.size + 5 → Boxed W k t x → Boxed (W.putObj D (.deferred none)) k t x := fun k t x hlt hb => (hg.block k hb.lt (fun e => by injection e with e; omega)).trans hb
  refine ⟨hk _ _ _ (by omega) h.bl, hk _ _ _ (by omega) h.bn, hk _ _ _ (by omega) h.be, hk _ _ _ (by omega) h.bb, hk _ _ _ (by omega) h.bw, h.own.kept hg ?_ (fun r e hS => by injection e with e; omega), h.bel.grown hg h.bel.size (fun k e => by injection e with e; omega), by simpa using h.size⟩
  obtain ⟨xs, h1, _⟩ := h.own
  rcases h1.2 with ⟨rfl, _⟩ | ⟨g, cap, cur, rfl, _, hgb, _⟩
  · exact .inl rfl
  · refine .inr fun e => ?_
    obtain rfl : g = D := by simpa [Value.ownBlock] using e
    rw [hgb] at hD
    cases hD

set_option maxRecDepth 100000 in
theorem split_end (w : World) (bs : List UInt8) (Av : Option Addr) (cv : Nat) (W : World) {u : Value} {N1 N2 : Int} (hst : SplSt w (.slice Av bs.length cv) W u (sp bs).1 N1 N2) {D : Nat} (hD : W.heap[D]? = some (.deferred (some [])))
    (hDge : (((((w.alloc (.cells #[.slice none 0 0] 36)).alloc (.cells #[.int .i64 0] 3)).alloc (.cells #[.int .i64 0] 24)).alloc (.cells #[.slice Av bs.length cv] 22)).alloc (.cells #[.pointer (some ⟨w.heap.size + 1 + 1, 0, none⟩)] 59)).heap.size = D)
    (a : Act) (W' : World) (h1 : (bs.length : Int) - ((sp bs).2.1 : Nat) = N1) (h2 : (((sp bs).2.2 : Nat) : Int) = N2)
    (hW : W' = (((W.setCell ⟨w.heap.size, 0, none⟩ u).setCell ⟨w.heap.size + 1, 0, none⟩ (.int .i64 N1)).setCell ⟨w.heap.size + 1 + 1, 0, none⟩ (.int .i64 N2)).drew)
    (ha : a.defers = [{ target := .collected D, args := #[] }]) (ht : a.tmps[2]?.getD undef = .pointer (some ⟨w.heap.size, 0, none⟩) ∧ a.tmps[3]?.getD undef = .pointer (some ⟨w.heap.size + 1, 0, none⟩) ∧ a.tmps[4]?.getD undef = .pointer (some ⟨w.heap.size + 1 + 1, 0, none⟩)) :
    bodyPostM Fence.wide 3 Try.prog Try.f19 (fun e w' => ∃ u, e = .returned (.tuple #[u, .int .i64 ((bs.length : Int) - ((sp bs).2.1 : Nat)), .int .i64 ((sp bs).2.2 : Nat)]) ∧ BBS w' w'.heap.size u (sp bs).1 ∧ Ext w w') Exit.ret a W' := by
  have hst' : SplSt w (.slice Av bs.length cv) W' u (sp bs).1 N1 N2 := by
    rw [hW]
    have s1 := hst.same hst.bl (by omega) (by omega)
    have s2 := s1.same s1.bn (by omega) (by omega)
    have s3 := s2.same s2.be (by omega) (by omega)
    exact s3.ext (Ext.drew _)
  have hD' : W'.heap[D]? = some (.deferred (some [])) := by
    rw [hW]
    exact ((((KeepsOthers.setCell _ _ _).trans (KeepsOthers.setCell _ _ _)).trans (KeepsOthers.setCell _ _ _)).trans (KeepsOthers.drew _)).same D _ hD rfl
  show LeavesInM _ _ _ _ _ _ _ _ _
  rw [ha]
  have hs3 := hst'.turnD hD'
  refine ⟨by simp, .inl ⟨_, _, rfl, run_takeDeferred hD', ?_⟩⟩
  have hbl := (hs3 (by simp at hDge; omega)).bl.cell
  have hbn := (hs3 (by simp at hDge; omega)).bn.cell
  have hbe := (hs3 (by simp at hDge; omega)).be.cell
  have hs4 := hs3 (by simp at hDge; omega)
  generalize W'.putObj D (.deferred none) = W3 at hbl hbn hbe hs4
  obtain ⟨Au, cu, rfl, _, _⟩ := hs4.own.form
  refine ⟨.tuple #[.slice Au (sp bs).1.length cu, .int .i64 N1, .int .i64 N2], ?_, ?_⟩
  · simp [results, Try.f19, ht.1, ht.2.1, ht.2.2, go_sem, hbl, hbn, hbe]
  · exact ⟨_, by rw [h1, h2], BBS.of_sl (by simpa using hs4.own.sl), hs4.bel⟩

set_option maxHeartbeats 4000000 in
set_option maxRecDepth 100000 in
theorem split_any (w : World) (v : Value) (bs : List UInt8) (hv : BS w w.heap.size v bs) (hl : bs.length ≤ 1000000) :
    Calls Try.prog 19 #[v] w fun e w' => ∃ u, e = .returned (.tuple #[u, .int .i64 ((bs.length : Int) - ((sp bs).2.1 : Nat)), .int .i64 ((sp bs).2.2 : Nat)]) ∧ BBS w' w'.heap.size u (sp bs).1 ∧ Ext w w' := by
  refine (callsIn_wide (n := 3)).1 ?_
  obtain ⟨Av, cv, rfl⟩ := hv.form
  have Hv := Lib.hid hv
  clear hv
  refine callsIn_of_wp_marks Try.func19 rfl trivial ?_ rfl
  simp only [Try.ntmps19, List.size_toArray, List.length_cons, List.length_nil, Nat.reduceAdd, Nat.reduceSub, Array.replicate_succ, Array.replicate_zero, List.push_toArray, List.append_toArray, List.nil_append, List.cons_append]
  gi_wp2_with fail
  refine ⟨trivial, callsIn_wide.2 ((frames_any _ _ Av _ cv rfl _).mono ?_)⟩
  rintro e w' ⟨rfl, rfl⟩
  gi_wp2_with fail
  refine wpIn_rangeFunc_raw rfl (by omega) (gf := 37) (lb := #[.pointer (some ⟨w.heap.size + 3, 0, none⟩), .pointer (some ⟨w.heap.size + 4, 0, none⟩)]) rfl trivial (enters_of Try.func37 (by kernel_rfl) rfl)
    (α := Int × Value × List UInt8) (encs := fun x => #[.int .i64 x.1, x.2.1]) (Kp := fun _ _ => True) (fun _ _ => trivial) (fun _ _ _ _ _ _ _ _ => trivial) (fun _ => rfl)
    (fun pre x W => ∃ u nn, SplSt w (.slice Av bs.length cv) W u (pre.map (·.2.2)) nn 0 ∧ (∃ b, Own W b x.2.1 x.2.2 ∧ w.heap.size + 7 ≤ b ∧ ∀ k, u.ownBlock = some k → k < b) ∧ 0 ≤ x.1 ∧ pre.length + 1 ≤ 1000000)
    (fun pre W => ∃ u nn, SplSt w (.slice Av bs.length cv) W u (pre.map (·.2.2)) nn 0 ∧ ∀ x, pre.getLast? = some x → nn = x.1)
    (fun W => ∃ u, SplSt w (.slice Av bs.length cv) W u (sp bs).1 ((bs.length : Int) - ((sp bs).2.1 : Nat)) ((sp bs).2.2 : Nat))
    ?tI ?tI' ?tId
    (fun x a' _ => a' = { tmps := #[.slice Av bs.length cv, undef, .pointer (some ⟨w.heap.size, 0, none⟩), .pointer (some ⟨w.heap.size + 1, 0, none⟩), .pointer (some ⟨w.heap.size + 1 + 1, 0, none⟩), .int .i64 x.1, x.2.1, .slice Av bs.length cv, .func (.func 37) #[] #[.pointer (some ⟨w.heap.size + 3, 0, none⟩), .pointer (some ⟨w.heap.size + 4, 0, none⟩)], .int .i64 x.1, x.2.1, undef, undef, undef, undef, undef, undef, undef, undef], defers := [] })
    (fun _ _ _ _ _ h _ _ => h) ?assign ?body ?iter ?done
  case tI =>
    rintro pre x W o o' ⟨u, nn, h1, ⟨b, h2, h3, h5⟩, h4⟩ ho hc
    simp only [World.size_alloc] at ho ⊢
    exact ⟨u, nn, h1.turn o' ho hc, ⟨b, ownsRow_putObj h2 o' ho hc, h3, h5⟩, h4⟩
  case tI' =>
    rintro pre W o o' ⟨u, nn, h1, h2⟩ ho hc
    simp only [World.size_alloc] at ho ⊢
    exact ⟨u, nn, h1.turn o' ho hc, h2⟩
  case tId =>
    rintro W o o' ⟨u, h1⟩ ho hc
    simp only [World.size_alloc] at ho ⊢
    exact ⟨u, h1.turn o' ho hc⟩
  case assign =>
    intro l pre x W K hI hK
    gi_wp2
    exact hK _ _ (KeepsFrom.refl _ _) trivial hI rfl
  case body =>
    rintro l pre ⟨m, p, q⟩ a' W hlw ⟨u, nn, hst, ⟨b, hp, hb7, hub⟩, hm, hlen⟩ rfl
    change Own W b p q at hp
    change (0 : Int) ≤ m at hm
    obtain ⟨Ap, cp, rfl⟩ := (Own.bs hp).form
    obtain ⟨Au, cu, hu, _, _⟩ := hst.own.form
    rw [List.length_map] at hu
    subst hu
    have hbl := hst.bl.cell
    have hfl := hst.bl.frozen
    have hbn := hst.bn.cell
    have hfn := hst.bn.frozen
    have hreps : Reps (W.alloc (.cells #[.slice Ap q.length cp] 22)) (fun k => w.heap.size + 7 ≤ k ∧ k < (W.alloc (.cells #[.slice Ap q.length cp] 22)).heap.size ∧ some k ≠ (Value.slice Au pre.length cu).ownBlock) [.slice Ap q.length cp] [q] := by
      refine Reps.single ⟨_, rfl, ((hp.slB).keep (Sm.of_ext (Ext.of_alloc W _) fun k hk => hk.2)).more fun k hk => ⟨by omega, ?_, fun e => ?_⟩⟩
      · have := hk.2
        rw [World.size_alloc]
        omega
      · have := hub k e.symm
        omega
    have hbase : w.heap.size + 5 ≤ (W.alloc (.cells #[.slice Ap q.length cp] 22)).heap.size := by
      have := hst.size
      rw [World.size_alloc]
      omega
    have Hst := Lib.hid hst
    have Hub := Lib.hid hub
    clear hst hub
    gi_wp2_with (gi_at_builtin; refine wpListIn_append_l _ rfl (.tmp 11) (.tmp 13) 36 rfl (w.heap.size + 5) 22 (fun k => w.heap.size + 7 ≤ k) (.slice none 0 0) 24 Try.underlying36 info_bytes rfl (by decide) (.slice Au pre.length cu) (pre.map (·.2.2)) rfl (Hst.out.own.ext (Ext.of_alloc _ _)) (W.heap.size + 1) (.slice (some ⟨W.heap.size, 0, none⟩) 1 1) [q] [.slice Ap q.length cp] rfl (SV.one_ W #[.slice Ap q.length cp] _ 1 rfl) hreps (by simp; omega) (by omega) hbase ?_; intro v1 w1 hown1 hg1 hat1; obtain ⟨A1, c1, rfl, _, _⟩ := hown1.form; have hpush := Hst.out.push m hown1 hg1; rw [List.length_append, List.length_map, List.length_cons, List.length_nil, Nat.zero_add] at hpush; obtain ⟨hb1, hb2⟩ := Hst.out.boxes hg1; have hbl1 := hb1.cell; have hfl1 := hb1.frozen; have hbn1 := hb2.cell; have hfn1 := hb2.frozen)
    exact ⟨hpush.2.from _, trivial, _, m, by rw [List.map_append]; exact hpush.1, fun x hx => by simp at hx; rw [← hx]⟩
  case iter =>
    intro l Rd W hlw hK hg hsz hR hY
    simp only [World.size_alloc] at hsz
    have hb : ∀ k t x, Boxed (((((w.alloc (.cells #[.slice none 0 0] 36)).alloc (.cells #[.int .i64 0] 3)).alloc (.cells #[.int .i64 0] 24)).alloc (.cells #[.slice Av bs.length cv] 22)).alloc (.cells #[.pointer (some ⟨w.heap.size + 1 + 1, 0, none⟩)] 59)) k t x → Boxed W k t x :=
      fun k t x h => (hg.block k h.lt (fun e => by cases e)).trans h
    have h0 : SplSt w (.slice Av bs.length cv) W (.slice none 0 0) [] 0 0 := by
      refine ⟨hb _ _ _ ?_, hb _ _ _ ?_, hb _ _ _ ?_, hb _ _ _ ?_, hb _ _ _ ?_, OwnL.nil_ _ _ _ _, ?_, by omega⟩
      · exact ((((Boxed.new w _ _).alloc _).alloc _).alloc _).alloc _
      · have := (((Boxed.new (w.alloc (.cells #[.slice none 0 0] 36)) 3 (.int .i64 0)).alloc (.cells #[.int .i64 0] 24)).alloc (.cells #[.slice Av bs.length cv] 22)).alloc (.cells #[.pointer (some ⟨w.heap.size + 1 + 1, 0, none⟩)] 59)
        rw [World.size_alloc] at this
        exact this
      · have := ((Boxed.new ((w.alloc (.cells #[.slice none 0 0] 36)).alloc (.cells #[.int .i64 0] 3)) 24 (.int .i64 0)).alloc (.cells #[.slice Av bs.length cv] 22)).alloc (.cells #[.pointer (some ⟨w.heap.size + 1 + 1, 0, none⟩)] 59)
        simp only [World.size_alloc] at this
        exact this
      · have := (Boxed.new (((w.alloc (.cells #[.slice none 0 0] 36)).alloc (.cells #[.int .i64 0] 3)).alloc (.cells #[.int .i64 0] 24)) 22 (.slice Av bs.length cv)).alloc (.cells #[.pointer (some ⟨w.heap.size + 1 + 1, 0, none⟩)] 59)
        simp only [World.size_alloc] at this
        exact this
      · have := Boxed.new ((((w.alloc (.cells #[.slice none 0 0] 36)).alloc (.cells #[.int .i64 0] 3)).alloc (.cells #[.int .i64 0] 24)).alloc (.cells #[.slice Av bs.length cv] 22)) 59 (.pointer (some ⟨w.heap.size + 1 + 1, 0, none⟩))
        simp only [World.size_alloc] at this
        exact this
      · refine Below.grown (row := none) ?_ hg (by simp; omega) (fun k e => by cases e)
        exact ((((((Below.refl _ w).alloc (Nat.le_refl _) _).alloc (by simp) _).alloc (by simp; omega) _).alloc (by simp; omega) _).alloc (by simp; omega) _)
    refine (frames1_in w _ bs Hv.out hl l Rd W.heap.size (by simpa using hK) W _ h0 hR ?_).mono ?_
    · intro u done q nn m p W1 hst hp hm hlen hR1
      have hmap : ((done.map fun d => ((0 : Int), Value.slice none 0 0, d)).map (·.2.2)) = done := by simp [List.map_map, Function.comp_def]
      have hy := hY (done.map fun d => (0, .slice none 0 0, d)) (m, p, q) W1 ⟨u, nn, by rw [hmap]; exact hst, hp, hm, by simpa using hlen⟩ hR1
      refine hy.mono ?_
      rintro e W' ⟨he, ⟨u', nn', h1, h2⟩, h3, _⟩
      refine ⟨he, ⟨u', ?_⟩, h3, trivial⟩
      rw [List.map_append, hmap] at h1
      have := h2 (m, p, q) (by simp)
      rw [show nn' = m from this] at h1
      exact h1
    · rintro e W' ⟨he, ⟨u, h1⟩, h2⟩
      exact ⟨he, ⟨u, h1⟩, h2⟩
  case done =>
    rintro D W hD ⟨u, hst⟩ hKD
    replace hD := hD.symm
    have hbl := hst.bl.cell
    have hbn := hst.bn.cell
    have hbe := hst.be.cell
    have hfl := hst.bl.frozen
    have hfn := hst.bn.frozen
    have hfe := hst.be.frozen
    obtain ⟨Au, cu, rfl, _, _⟩ := hst.own.form
    have Hst := Lib.hid hst
    clear hst
    have hmx : Try.prog.follows .mixedOrders = true := by kernel_rfl
    generalize hN1 : (bs.length : Int) - ((sp bs).2.1 : Nat) = N1 at hbn Hst
    generalize hN2 : (((sp bs).2.2 : Nat) : Int) = N2 at hbe Hst
    gi_wp2
    gi_region_with_o (fail)
    all_goals gi_wp2
    all_goals exact split_end w bs Av cv W Hst.out hKD hD _ _ hN1 hN2 rfl rfl ⟨rfl, rfl, rfl⟩

end Go.Proofs.Ytgipbkfpfidpmaa
