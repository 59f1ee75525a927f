/-
  Contract of dict.reader's entry.
  Conditions: at most 1,000,000 bytes.
-/
import Derived.Test.YtmgbhmmmegknjaaDj
import Derived.Deep.DeepCutAuto
namespace Go.Proofs.Ytmgbhmmmegknjaa
open Go.RowKit Go.Op

/-- an entry, as a value -/
def entV (e : Ent) : Value := .agg #[.string ⟨e.1.b.toArray⟩, .int .i64 e.2.1, .int .i64 e.2.2.1, .int .i64 e.2.2.2]
/-- an entry's own block -/
def EBox (W : World) (E : Nat) (e : Ent) : Prop := W.heap[E]? = some (.cells #[.string ⟨e.1.b.toArray⟩, .int .i64 e.2.1, .int .i64 e.2.2.1, .int .i64 e.2.2.2] 42 (0, 0))
theorem EBox.lt {W : World} {E : Nat} {e : Ent} (h : EBox W E e) : E < W.heap.size := (Array.getElem?_eq_some_iff.1 h).1
theorem EBox.keep {T : Nat → Prop} {W W' : World} {E : Nat} {e : Ent} (h : EBox W E e) (hk : Kept T W W') (hT : ¬T E) : EBox W' E e := (hk.block E h.lt hT).trans h
theorem EBox.cell {W : World} {E : Nat} {e : Ent} (h : EBox W E e) : W.cell? ⟨E, 0, none⟩ = some (.string ⟨e.1.b.toArray⟩) ∧ W.cell? ⟨E, 1, none⟩ = some (.int .i64 e.2.1) ∧ W.cell? ⟨E, 2, none⟩ = some (.int .i64 e.2.2.1) ∧ W.cell? ⟨E, 3, none⟩ = some (.int .i64 e.2.2.2) ∧
    W.frozen? ⟨E, 0, none⟩ = false ∧ W.frozen? ⟨E, 1, none⟩ = false ∧ W.frozen? ⟨E, 2, none⟩ = false ∧ W.frozen? ⟨E, 3, none⟩ = false := by
  simp [World.cell?, World.frozen?, show W.heap[E]? = _ from h]
theorem EBox.set1 {W : World} {E : Nat} {t : Tx} {x y z : Int} (x' : Int) (h : EBox W E (t, x, y, z)) : EBox (W.setCell ⟨E, 1, none⟩ (.int .i64 x')) E (t, x', y, z) := by
  obtain ⟨hlt, hk⟩ := Array.getElem?_eq_some_iff.1 h
  show (W.heap.modify E _)[E]? = _
  rw [Array.getElem?_eq_getElem (by rw [Array.size_modify]; exact hlt), Array.getElem_modify_self, hk]
  rfl
theorem EBox.set2 {W : World} {E : Nat} {t : Tx} {x y z : Int} (x' : Int) (h : EBox W E (t, x, y, z)) : EBox (W.setCell ⟨E, 2, none⟩ (.int .i64 x')) E (t, x, x', z) := by
  obtain ⟨hlt, hk⟩ := Array.getElem?_eq_some_iff.1 h
  show (W.heap.modify E _)[E]? = _
  rw [Array.getElem?_eq_getElem (by rw [Array.size_modify]; exact hlt), Array.getElem_modify_self, hk]
  rfl
theorem EBox.set3 {W : World} {E : Nat} {t : Tx} {x y z : Int} (x' : Int) (h : EBox W E (t, x, y, z)) : EBox (W.setCell ⟨E, 3, none⟩ (.int .i64 x')) E (t, x, y, x') := by
  obtain ⟨hlt, hk⟩ := Array.getElem?_eq_some_iff.1 h
  show (W.heap.modify E _)[E]? = _
  rw [Array.getElem?_eq_getElem (by rw [Array.size_modify]; exact hlt), Array.getElem_modify_self, hk]
  rfl
theorem EBox.new (W : World) : EBox (W.alloc (.cells #[.string ⟨#[]⟩, .int .i64 0, .int .i64 0, .int .i64 0] 42)) W.heap.size (⟨[]⟩, 0, 0, 0) := heap_alloc_new W _
theorem EBox.set4 {W : World} {E : Nat} {e : Ent} {t : Tx} {x y z : Int} (h : EBox W E e) :
    EBox ((((W.setCell ⟨E, 0, none⟩ (.string ⟨t.b.toArray⟩)).setCell ⟨E, 1, none⟩ (.int .i64 x)).setCell ⟨E, 2, none⟩ (.int .i64 y)).setCell ⟨E, 3, none⟩ (.int .i64 z)) E (t, x, y, z) := by
  refine EBox.set3 (z := e.2.2.2) z (EBox.set2 (y := e.2.2.1) y (EBox.set1 (x := e.2.1) x ?_))
  obtain ⟨hlt, hk⟩ := Array.getElem?_eq_some_iff.1 h
  show (W.heap.modify E _)[E]? = _
  rw [Array.getElem?_eq_getElem (by rw [Array.size_modify]; exact hlt), Array.getElem_modify_self, hk]
  rfl
/-- what only a new block's cells have turned -/
theorem Kept.cut {T : Nat → Prop} {w w1 w2 : World} {E : Nat} (h : Kept T w w1) (k : Kept (fun j => j = E) w1 w2) (hE : w.heap.size ≤ E) : Kept T w w2 :=
  ⟨k.os.trans h.os, k.tape.trans h.tape, k.output.trans h.output, Nat.le_trans h.size k.size, fun j hj ht => (k.block j (Nat.lt_of_lt_of_le hj h.size) (by omega)).trans (h.block j hj ht)⟩
theorem kept4 (W : World) (E : Nat) (v0 v1 v2 v3 : Value) : Kept (fun k => k = E) W ((((W.setCell ⟨E, 0, none⟩ v0).setCell ⟨E, 1, none⟩ v1).setCell ⟨E, 2, none⟩ v2).setCell ⟨E, 3, none⟩ v3) := by
  have h := fun (W : World) (i : Nat) (v : Value) => Kept.setCell (fun k => k = E) W ⟨E, i, none⟩ v rfl
  exact (((h _ 0 _).trans (h _ 1 _)).trans (h _ 2 _)).trans (h _ 3 _)
theorem RdSt.bad {n0 L : Nat} {W : World} {B : Nat} {st : RSt} (h : RdSt n0 L W B st) : RdSt n0 L (W.setCell ⟨B, 1, none⟩ (.bool true)) B (st.1, true) := by
  obtain ⟨v, h1, h2⟩ := h.ex
  have := h.ge
  have := h.lt
  exact ⟨⟨v, h1.set1 true, h2.kept (by omega) (Kept.setCell (fun k => k = B) _ _ _ rfl) (fun k hk => by omega)⟩, h.ge, h.len⟩
theorem rdC_no {last : List UInt8} {a : Nat × RSt} (h : last.length < a.1) : rdC last a = (0, (a.2.1, true)) := if_pos h
theorem rdC_ok {last : List UInt8} {a : Nat × RSt} (h : ¬last.length < a.1) : rdC last a = a := if_neg h
theorem rdE_def (last : List UInt8) (st : RSt) : rdE last st = rdE3 (rdT (rdC last (rdN 65 st)).2).2 (last.take (rdC last (rdN 65 st)).1 ++ (rdT (rdC last (rdN 65 st)).2).1) := rfl

def nth3p (p q r : Option Addr) (j : Nat) : Option Addr := if j = 0 then p else if j = 1 then q else r
/-- an element of an array of three pointers -/
theorem wpList_idx3p {ops : Array Oper} {rest : List Oper} {o : Oper} {a : Act} {Q : Exit → Act → World → Prop} (w : World) (hgd : o.guard = none) (s i : Operand) (ho : o.op = .index 86 s i) (p q r : Option Addr) (j : Nat)
    (hs : a.eval s = .agg #[.pointer p, .pointer q, .pointer r]) (hi : a.eval i = .int .i64 j) (hj : j < 3) (h : wpList Try.prog ops Q rest (a.put o.dst (.pointer (nth3p p q r j))) w) : wpList Try.prog ops Q (o :: rest) a w := by
  refine wpList_plain hgd fun K hK => ?_
  unfold Oper.wp
  have h1 := Try.underlying86
  have h2 := Try.underlying85
  rcases (by omega : j = 0 ∨ j = 1 ∨ j = 2) with rfl | rfl | rfl
  all_goals
    simp only [execOp, ho, hs, hi]
    simp [Instr.index, go_sem, run_underlying h1, run_underlying h2, part, isAgg]
    exact hK _ _ h
/-- the reader behind so many numbers; the numbers -/
def rdS (x : RSt) : Nat → RSt
  | 0 => x
  | j + 1 => (rdN 67108864 (rdS x j)).2
def rdV (x : RSt) (j : Nat) : Int := (rdN 67108864 (rdS x j)).1
def got (x : RSt) (t : List UInt8) (j : Nat) : Ent := (⟨t⟩, if 0 < j then rdV x 0 else 0, if 1 < j then rdV x 1 else 0, if 2 < j then rdV x 2 else 0)
theorem got3 (x : RSt) (t : List UInt8) : rdE3 x t = (got x t 3, rdS x 3) := rfl

set_option maxHeartbeats 4000000 in
set_option maxRecDepth 100000 in
theorem entry_any (n0 L : Nat) (W : World) (B : Nat) (st : RSt) (last : List UInt8) (hL : L ≤ 1000000) (hla : last.length ≤ 1000000) (h : RdSt n0 L W B st) :
    Calls Try.prog 30 #[.pointer (some ⟨B, 0, none⟩), .string ⟨last.toArray⟩] W fun e W' => e = .returned (entV (rdE last st).1) ∧ RdSt n0 L W' B (rdE last st).2 ∧ Kept (fun k => k = B) W W' := by
  have H := Lib.hid h
  have hBW := h.lt
  have hge := h.ge
  clear h
  go_enter Try.func30, Try.ntmps30
  go_wp2_with fail
  refine (number_any n0 L _ B st 65 hL (by decide) (H.out.ext (Ext.of_alloc _ _))).mono ?_
  rintro e w1 ⟨rfl, hs1, hk1⟩
  have hr1 : EBox w1 W.heap.size (⟨[]⟩, 0, 0, 0) := (show EBox _ W.heap.size (⟨[]⟩, 0, 0, 0) from heap_alloc_new W _).keep hk1 (by omega)
  have hk1' : Kept (fun k => k = B) W w1 := ((Ext.of_alloc W _).kept _).trans hk1
  have hcl := rdC_le last (rdN 65 st)
  have hdf := rdE_def last st
  have Hdf := Lib.hid hdf
  have hno := rdC_no (last := last) (a := rdN 65 st)
  have hyes := rdC_ok (last := last) (a := rdN 65 st)
  have hle := rdN_le 65 st
  generalize hA : rdC last (rdN 65 st) = A at hcl hno hyes Hdf
  generalize rdN 65 st = N at hs1 hcl hno hyes hle
  obtain ⟨N, S1⟩ := N
  obtain ⟨n, S2⟩ := A
  dsimp only at hs1 hcl hno hyes hle Hdf
  obtain ⟨v1, hb1, hv1⟩ := hs1.ex
  obtain ⟨c0, c1, f0, f1⟩ := hb1.cell
  have Hb1 := Lib.hid hb1
  have Hv1 := Lib.hid hv1
  have Hs1 := Lib.hid hs1
  have Hk1 := Lib.hid hk1'
  have Hr1 := Lib.hid hr1
  have Hno := Lib.hid hno
  have Hyes := Lib.hid hyes
  have hNle := hle.1
  have hsz1 := hk1'.size
  have hn := hcl.1
  clear hs1 hk1 hk1' hr1 hdf hA hno hyes hle hb1 hv1 hcl
  go_upto_if 14 with (fail)
  go_cut [5] (fun s5 wx => s5 = .int .i64 n ∧ RdSt n0 L wx B S2 ∧ Kept (fun k => k = B) W wx ∧ EBox wx W.heap.size (⟨[]⟩, 0, 0, 0))
  case first =>
    by_cases hlt : last.length < N
    · have hlt' : (last.length : Int) < N := by omega
      go_wp2_with fail
      go_meet
      have e := Hno.out hlt
      injection e with e1 e2
      subst e1 e2
      have hk2 : Kept (fun k => k = B) w1 (w1.setCell ⟨B, 1, none⟩ (.bool true)) := Kept.setCell _ _ _ _ rfl
      exact ⟨rfl, Hs1.out.bad, Hk1.out.trans (hk2.more fun k _ h => h), Hr1.out.keep hk2 (by omega)⟩
    · have hlt' : ¬(last.length : Int) < N := by omega
      go_wp2_with fail
      go_meet
      have e := Hyes.out hlt
      injection e with e1 e2
      subst e1 e2
      exact ⟨rfl, Hs1.out, Hk1.out, Hr1.out⟩
  case rest =>
    obtain ⟨rfl, hs2, hk2, hr2⟩ := hcut
    have Hs2 := Lib.hid hs2
    have Hk2 := Lib.hid hk2
    have Hr2 := Lib.hid hr2
    have hnl : (n : Int) ≤ last.length := by omega
    have hszc := hk2.size
    have hrlt := hr2.lt
    have htl := (rdT_le S2).1
    clear hs2 hk2 hr2 Hs1 Hk1 Hr1 Hb1 Hv1 Hno Hyes
    have HCT : Hid ((ByteArray.mk last.toArray).extract 0 n ++ ⟨(rdT S2).1.toArray⟩ = ⟨(last.take n ++ (rdT S2).1).toArray⟩) := Lib.hid (by
      rw [ByteArray.extract_mk]
      apply ByteArray.ext
      simp)
    have hcat : ¬9223372036854775807 < n + (rdT S2).1.length := by omega
    go_upto_region 5 with (fail)
    go_cut [6] (fun s6 wx => ∃ E, s6 = .pointer (some ⟨E, 0, none⟩) ∧ W.heap.size < E ∧ E ≠ B ∧ EBox wx E (⟨last.take n ++ (rdT S2).1⟩, 0, 0, 0) ∧ RdSt n0 L wx B (rdT S2).2 ∧ Kept (fun k => k = B) W wx ∧ EBox wx W.heap.size (⟨[]⟩, 0, 0, 0))
    case first =>
      go_region_held3 (fun w' => True) (trivial)
        (first
          | (go_at_call 47
             refine (text_any n0 L _ B S2 hL (Hs2.out.ext (Ext.trans (Ext.of_alloc _ _) (Ext.drew _)))).mono ?_
             rintro e w2 ⟨rfl, hs3, hk3⟩
             have hb : EBox w2 wc.heap.size (⟨[]⟩, 0, 0, 0) := (hk3.block wc.heap.size (by simp) (by omega)).trans (heap_alloc_new wc _)
             obtain ⟨g0, g1, g2, g3, p0, p1, p2, p3⟩ := hb.cell)
          | (go_at_call 47
             refine (text_any n0 L _ B S2 hL (Hs2.out.ext (Ext.drew _))).mono ?_
             rintro e w2 ⟨rfl, hs3, hk3⟩)
          | fail)
      · go_wp2_with fail
        go_meet
        have hk4 := hk3.trans ((Ext.of_alloc w2 (.cells #[.string ((ByteArray.mk last.toArray).extract 0 n ++ ⟨(rdT S2).1.toArray⟩), .int .i64 0, .int .i64 0, .int .i64 0] 42)).kept _)
        have hk5 := ((Ext.drew wc).kept _).trans hk4
        refine ⟨w2.heap.size, rfl, ?_, ?_, ?_, hs3.ext (Ext.of_alloc _ _), Hk2.out.trans hk5, Hr2.out.keep hk5 (by omega)⟩
        · have := hk3.size; simp at this; omega
        · have := hs3.lt; omega
        · have e := heap_alloc_new w2 (.cells #[.string ((ByteArray.mk last.toArray).extract 0 n ++ ⟨(rdT S2).1.toArray⟩), .int .i64 0, .int .i64 0, .int .i64 0] 42)
          rw [HCT.out] at e ⊢
          exact e
      · go_wp2_with fail
        go_meet
        have hb4 := hb.set4 (t := ⟨last.take n ++ (rdT S2).1⟩) (x := 0) (y := 0) (z := 0)
        have hk0 := (Ext.kept (Ext.trans (Ext.of_alloc wc (.cells #[.string ⟨#[]⟩, .int .i64 0, .int .i64 0, .int .i64 0] 42)) (Ext.drew _)) (fun k => k = B)).trans hk3
        have hk4 := kept4 w2 wc.heap.size (.string ⟨(last.take n ++ (rdT S2).1).toArray⟩) (.int .i64 0) (.int .i64 0) (.int .i64 0)
        have hlt := hs3.lt
        have hge2 := hs3.ge
        rw [HCT.out]
        refine ⟨wc.heap.size, rfl, by omega, by omega, hb4, hs3.kept hk4 (fun k hk => by omega), Hk2.out.trans (Kept.cut hk0 hk4 (by omega)), (Hr2.out.keep hk0 (by omega)).keep hk4 (by omega)⟩
    case rest =>
      obtain ⟨E, rfl, hE1, hE2, hbE, hs3, hk3, hr3⟩ := hcut
      have Hs3 := Lib.hid hs3
      have Hk3 := Lib.hid hk3
      have Hr3 := Lib.hid hr3
      have HbE := Lib.hid hbE
      clear hs3 hk3 hr3 hbE hcat
      go_wp2_with fail
      generalize hX : (rdT S2).2 = X at Hs3
      generalize hT : last.take n ++ (rdT S2).1 = T at HbE
      have hX' : Hid (rdE last st = (got X T 3, rdS X 3)) := Lib.hid (by rw [Hdf.out, hX, hT, got3])
      clear hX hT
      go_loopw [8, 29] (fun _ i wr => ∃ j : Nat, i = .int .i64 j ∧ j ≤ 3 ∧ EBox wr E (got X T j) ∧ RdSt n0 L wr B (rdS X j) ∧ Kept (fun k => k = B) W wr ∧ EBox wr W.heap.size (⟨[]⟩, 0, 0, 0)) (fun _ i _ => 3 - (intOf i).toNat)
      case atStart => exact ⟨0, rfl, by omega, HbE.out, Hs3.out, Hk3.out, Hr3.out⟩
      case round =>
        obtain ⟨j, rfl, hj, hbj, hsj, hkj, hrj⟩ := hrel
        have Hbj := Lib.hid hbj
        have Hsj := Lib.hid hsj
        have Hkj := Lib.hid hkj
        have Hrj := Lib.hid hrj
        clear hbj hsj hkj hrj
        rcases (by omega : j = 0 ∨ j = 1 ∨ j = 2 ∨ j = 3) with rfl | rfl | rfl | rfl
        · go_wp2_with ((with_reducible (refine wpList_idx3p _ rfl (.tmp 28) (.tmp 29) rfl (some ⟨E, 1, none⟩) (some ⟨E, 2, none⟩) (some ⟨E, 3, none⟩) 0 ?_ ?_ ?_ ?_)); exact rfl; exact rfl; exact (by decide); simp [nth3p])
          refine (number_any n0 L _ B (rdS X 0) 67108864 hL (by decide) Hsj.out).mono ?_
          rintro e w5 ⟨rfl, hs5, hk5⟩
          have hb5 := Hbj.out.keep hk5 hE2
          obtain ⟨g0, g1, g2, g3, p0, p1, p2, p3⟩ := hb5.cell
          have Hb5 := Lib.hid hb5
          have Hs5 := Lib.hid hs5
          have Hk5 := Lib.hid hk5
          clear hb5 hs5 hk5
          go_wp2_with fail
          go_roundw
          case rel =>
            have hk6 := Kept.setCell (fun k => k = E) w5 ⟨E, 1, none⟩ (.int .i64 (rdV X 0)) rfl
            have hge5 := Hs5.out.ge
            exact ⟨1, rfl, by omega, Hb5.out.set1 _, Hs5.out.kept hk6 (fun k hk => by omega), Kept.cut (Hkj.out.trans Hk5.out) hk6 (by omega), (Hrj.out.keep Hk5.out (by omega)).keep hk6 (by omega)⟩
          case measure => simp only [intOf]; decide
        · go_wp2_with ((with_reducible (refine wpList_idx3p _ rfl (.tmp 28) (.tmp 29) rfl (some ⟨E, 1, none⟩) (some ⟨E, 2, none⟩) (some ⟨E, 3, none⟩) 1 ?_ ?_ ?_ ?_)); exact rfl; exact rfl; exact (by decide); simp [nth3p])
          refine (number_any n0 L _ B (rdS X 1) 67108864 hL (by decide) Hsj.out).mono ?_
          rintro e w5 ⟨rfl, hs5, hk5⟩
          have hb5 := Hbj.out.keep hk5 hE2
          obtain ⟨g0, g1, g2, g3, p0, p1, p2, p3⟩ := hb5.cell
          have Hb5 := Lib.hid hb5
          have Hs5 := Lib.hid hs5
          have Hk5 := Lib.hid hk5
          clear hb5 hs5 hk5
          go_wp2_with fail
          go_roundw
          case rel =>
            have hk6 := Kept.setCell (fun k => k = E) w5 ⟨E, 2, none⟩ (.int .i64 (rdV X 1)) rfl
            have hge5 := Hs5.out.ge
            exact ⟨2, rfl, by omega, Hb5.out.set2 _, Hs5.out.kept hk6 (fun k hk => by omega), Kept.cut (Hkj.out.trans Hk5.out) hk6 (by omega), (Hrj.out.keep Hk5.out (by omega)).keep hk6 (by omega)⟩
          case measure => simp only [intOf]; decide
        · go_wp2_with ((with_reducible (refine wpList_idx3p _ rfl (.tmp 28) (.tmp 29) rfl (some ⟨E, 1, none⟩) (some ⟨E, 2, none⟩) (some ⟨E, 3, none⟩) 2 ?_ ?_ ?_ ?_)); exact rfl; exact rfl; exact (by decide); simp [nth3p])
          refine (number_any n0 L _ B (rdS X 2) 67108864 hL (by decide) Hsj.out).mono ?_
          rintro e w5 ⟨rfl, hs5, hk5⟩
          have hb5 := Hbj.out.keep hk5 hE2
          obtain ⟨g0, g1, g2, g3, p0, p1, p2, p3⟩ := hb5.cell
          have Hb5 := Lib.hid hb5
          have Hs5 := Lib.hid hs5
          have Hk5 := Lib.hid hk5
          clear hb5 hs5 hk5
          go_wp2_with fail
          go_roundw
          case rel =>
            have hk6 := Kept.setCell (fun k => k = E) w5 ⟨E, 3, none⟩ (.int .i64 (rdV X 2)) rfl
            have hge5 := Hs5.out.ge
            exact ⟨3, rfl, by omega, Hb5.out.set3 _, Hs5.out.kept hk6 (fun k hk => by omega), Kept.cut (Hkj.out.trans Hk5.out) hk6 (by omega), (Hrj.out.keep Hk5.out (by omega)).keep hk6 (by omega)⟩
          case measure => simp only [intOf]; decide
        · obtain ⟨g0, g1, g2, g3, p0, p1, p2, p3⟩ := Hbj.out.cell
          obtain ⟨q0, q1, q2, q3, r0, r1, r2, r3⟩ := Hrj.out.cell
          go_wp2
          have hf := Hrj.out.set4 (t := (got X T 3).1) (x := (got X T 3).2.1) (y := (got X T 3).2.2.1) (z := (got X T 3).2.2.2)
          obtain ⟨e0, e1, e2, e3, _⟩ := hf.cell
          dsimp only at e0 e1 e2 e3
          have hk6 := kept4 wr W.heap.size (.string ⟨T.toArray⟩) (.int .i64 (got X T 3).2.1) (.int .i64 (got X T 3).2.2.1) (.int .i64 (got X T 3).2.2.2)
          have hge6 := Hsj.out.ge
          refine bodyPost_ret (v := entV (got X T 3)) ?_ rfl ⟨by rw [hX'.out], ?_, ?_⟩
          · simp [results, Try.f30, go_sem, e0, e1, e2, e3, entV]
          · rw [hX'.out]
            exact Hsj.out.kept hk6 (fun k hk => by omega)
          · exact Kept.cut Hkj.out hk6 (Nat.le_refl _)

end Go.Proofs.Ytmgbhmmmegknjaa
