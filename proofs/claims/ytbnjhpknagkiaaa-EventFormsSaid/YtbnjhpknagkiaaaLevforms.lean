/-
  The law EventForms: for whatever events and name it returns true.
  Conditions: none.
-/
import Derived.Test.YtbnjhpknagkiaaaEe
import Derived.Test.YtbnjhpknagkiaaaUp
import Derived.Test.YtbnjhpknagkiaaaUo
import Derived.Test.YtbnjhpknagkiaaaEvarg
import Derived.Deep.RegionHeld3
import Derived.Deep.DrawnRows
namespace Go.Proofs.Ytbnjhpknagkiaaa
open Go.RowKit Go.Op

set_option maxHeartbeats 6400000 in
set_option maxRecDepth 100000 in
theorem evforms_any (w : World) (a b : Int) (u v : Value) (l m : List Fld) (s : List UInt8) (hu : SL w (Bw w) u l) (hv : SL w (Bw w) v m) (hs : s.length ≤ 9223372036854775807) :
    Calls Try.prog 7 #[.agg #[.int .i64 a, u], .agg #[.int .i64 b, v], .string ⟨s.toArray⟩] w fun e w' => e = .returned (.bool true) ∧ Ext w w' := by
  obtain ⟨A, c, rfl, _⟩ := hu.form
  obtain ⟨A', c', rfl, _⟩ := hv.form
  have Hx0 : Hid (Ext w ((w.alloc (.cells #[.int .i64 a, .slice A l.length c] 40)).alloc (.cells #[.int .i64 b, .slice A' m.length c'] 40))) := Lib.hid (Ext.al (Ext.of_alloc _ _) _)
  have hS : ∀ W, Ext ((w.alloc (.cells #[.int .i64 a, .slice A l.length c] 40)).alloc (.cells #[.int .i64 b, .slice A' m.length c'] 40)) W → W.cell? ⟨w.heap.size, 0, none⟩ = some (.int .i64 a) ∧ W.cell? ⟨w.heap.size, 1, none⟩ = some (.slice A l.length c) ∧ W.cell? ⟨w.heap.size + 1, 0, none⟩ = some (.int .i64 b) ∧ W.cell? ⟨w.heap.size + 1, 1, none⟩ = some (.slice A' m.length c') := fun W h => by
    have h0 := cell_new w #[.int .i64 a, .slice A l.length c] 40 0 (v := .int .i64 a) rfl
    have h1 := cell_new w #[.int .i64 a, .slice A l.length c] 40 1 (v := .slice A l.length c) rfl
    have h2 := cell_new (w.alloc (.cells #[.int .i64 a, .slice A l.length c] 40)) #[.int .i64 b, .slice A' m.length c'] 40 0 (v := .int .i64 b) rfl
    have h3 := cell_new (w.alloc (.cells #[.int .i64 a, .slice A l.length c] 40)) #[.int .i64 b, .slice A' m.length c'] 40 1 (v := .slice A' m.length c') rfl
    rw [World.size_alloc] at h2 h3
    exact ⟨Ext.keeps h (Ext.keeps (Ext.of_alloc _ _) h0), Ext.keeps h (Ext.keeps (Ext.of_alloc _ _) h1), Ext.keeps h h2, Ext.keeps h h3⟩
  have HS := Lib.hid hS
  have Hu := Lib.hid (hu.up Hx0.out)
  have Hv := Lib.hid (hv.up Hx0.out)
  have Hs := Lib.hid hs
  clear hu hv hS hs
  go_enter Try.func7, Try.ntmps7
  go_wp2_with fail
  go_region_held3 (fun W => W.cell? ⟨w.heap.size, 0, none⟩ = some (.int .i64 a) ∧ W.cell? ⟨w.heap.size, 1, none⟩ = some (.slice A l.length c) ∧ W.cell? ⟨w.heap.size + 1, 0, none⟩ = some (.int .i64 b) ∧ W.cell? ⟨w.heap.size + 1, 1, none⟩ = some (.slice A' m.length c'))
    (first
      | exact HS.out _ x10
      | exact HS.out _ x9
      | exact HS.out _ x8
      | exact HS.out _ x7
      | exact HS.out _ x6
      | exact HS.out _ x5
      | exact HS.out _ x4
      | exact HS.out _ x3
      | exact HS.out _ x2
      | exact HS.out _ x1
      | exact HS.out _ (Ext.drew _)
      | fail)
    (first
      | (go_at_call 11
         refine (awake_any w9).mono ?_
         rintro e w10 ⟨rfl, hx10⟩
         have x10 := Ext.trans x9 hx10)
      | (go_at_call 32
         refine (risname_any w8 s).mono ?_
         rintro e w9 ⟨rfl, hx9⟩
         have x9 := Ext.trans x8 hx9)
      | (go_at_call 31
         refine (name_any w7 s Hs.out).mono ?_
         rintro e w8 ⟨rfl, hx8⟩
         have x8 := Ext.trans x7 hx8)
      | (go_at_call 30
         refine (same_any w6 a a _ _ l l (SL.up Hu.out x6) (SL.up Hu.out x6)).mono ?_
         rintro e w7 ⟨rfl, hx7⟩
         rw [decide_eq_true rfl]
         have x7 := Ext.trans x6 hx7)
      | (go_at_call 20
         refine (rsame_any w5 a b _ _ l m (SL.up Hu.out x5) (SL.up Hv.out x5)).mono ?_
         rintro e w6 ⟨rfl, hx6⟩
         have x6 := Ext.trans x5 hx6)
      | (go_at_call 30
         refine (same_any w4 a b _ _ l m (SL.up Hu.out x4) (SL.up Hv.out x4)).mono ?_
         rintro e w5 ⟨rfl, hx5⟩
         have x5 := Ext.trans x4 hx5)
      | (go_at_call 29
         refine (rsize_any w3 a _ l (SL.up Hu.out x3)).mono ?_
         rintro e w4 ⟨rfl, hx4⟩
         have x4 := Ext.trans x3 hx4)
      | (go_at_call 28
         refine (size_any w2 a _ l (SL.up Hu.out x2)).mono ?_
         rintro e w3 ⟨rfl, hx3⟩
         have x3 := Ext.trans x2 hx3)
      | (go_at_call 25
         refine (rcheck_any w1 a _ l (SL.up Hu.out x1)).mono ?_
         rintro e w2 ⟨rfl, hx2⟩
         have x2 := Ext.trans x1 hx2)
      | (go_at_call 27
         refine (check_any _ a _ l (SL.up Hu.out (Ext.drew _))).mono ?_
         rintro e w1 ⟨rfl, hx1⟩
         have x1 := Ext.trans (Ext.drew _) hx1)
      | fail)
  have Hx10 := Lib.hid (Ext.trans Hx0.out x10)
  clear x1 x2 x3 x4 x5 x6 x7 x8 x9 x10 hx1 hx2 hx3 hx4 hx5 hx6 hx7 hx8 hx9 hx10
  go_wp2
  go_ret
  exact ⟨rfl, Hx10.out⟩

theorem evforms_row (w : World) (v v' : Value) (s : ByteArray) (x y : Ev) {n n' : Nat} (o : ∃ cs, v = .agg cs ∧ cs.size = n) (o' : ∃ cs, v' = .agg cs ∧ cs.size = n') (h : Rep.r w (Bw w) v.cells.toList x) (h' : Rep.r w (Bw w) v'.cells.toList y) (hs : s.size ≤ maxLen) :
    Calls Try.prog 7 #[v, v', .string s] w fun e w' => e = .returned (.bool true) ∧ Ext w w' := by
  obtain ⟨u, rfl, _, hu⟩ := ev_arg o h
  obtain ⟨u', rfl, _, hu'⟩ := ev_arg o' h'
  have := evforms_any w x.1 y.1 u u' x.2 y.2 s.data.toList hu hu' (by unfold maxLen at hs; simpa using hs)
  simpa using this
end Go.Proofs.Ytbnjhpknagkiaaa
