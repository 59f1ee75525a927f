/-
  Contracts of the digest's methods, and of the law's 'awake'.
  Conditions: rows of bytes of at most 100,000,000.
-/
import Derived.Test.YtohocioglinknaaCb
import Derived.Lib.SlBytesConst
namespace Go.Proofs.Ytohocioglinknaa
open Go.RowKit

/-- block g is a digest -/
def Dig (w : World) (g s n : Nat) : Prop := w.heap[g]? = some (.cells #[.int .u32 (s : Int), .int .i64 (n : Int)] 39 (0, 0))
theorem Dig.c0 {w : World} {g s n : Nat} (h : Dig w g s n) : w.cell? ⟨g, 0, none⟩ = some (.int .u32 (s : Int)) := by
  have := cell_of_row w g 0 _ _ _ h
  simpa using this
theorem Dig.c1 {w : World} {g s n : Nat} (h : Dig w g s n) : w.cell? ⟨g, 1, none⟩ = some (.int .i64 (n : Int)) := by
  have := cell_of_row w g 1 _ _ _ h
  simpa using this
theorem Dig.fr {w : World} {g s n : Nat} (h : Dig w g s n) (i : Nat) : w.frozen? ⟨g, i, none⟩ = false := by
  unfold Dig at h
  simp [World.frozen?, h]
theorem Dig.lt {w : World} {g s n : Nat} (h : Dig w g s n) : g < w.heap.size := by
  rcases Nat.lt_or_ge g w.heap.size with hlt | hge
  · exact hlt
  · unfold Dig at h; rw [Array.getElem?_eq_none hge] at h; cases h
theorem Dig.ext {w w' : World} {g s n : Nat} (h : Dig w g s n) (hx : Ext w w') : Dig w' g s n := (hx.block g h.lt).trans h
theorem Dig.far {w w' : World} {g k s n : Nat} (h : Dig w g s n) (hx : w.grownBy w' (some k)) (hne : g ≠ k) : Dig w' g s n := (hx.block g h.lt (fun e => hne (by injection e))).trans h

theorem Dig.set0 {w : World} {g s n : Nat} (h : Dig w g s n) (s' : Nat) : Dig (w.setCell ⟨g, 0, none⟩ (.int .u32 (s' : Int))) g s' n := by
  unfold Dig at h ⊢
  simp [World.setCell, Array.getElem?_modify, h]
theorem Dig.set1 {w : World} {g s n : Nat} (h : Dig w g s n) (n' : Nat) : Dig (w.setCell ⟨g, 1, none⟩ (.int .i64 (n' : Int))) g s n' := by
  unfold Dig at h ⊢
  simp [World.setCell, Array.getElem?_modify, h]
/-- old memory stands, but for one block -/
theorem grown_ext {w w' : World} {row : Option Nat} (h : Ext w w') : w.grownBy w' row := ⟨h.os, h.tape, h.output, h.size, fun i hi _ => h.block i hi⟩
theorem _root_.Go.World.grownBy.set_ {a w : World} {g : Nat} (h : a.grownBy w (some g)) {p : Addr} (hp : p.block = g ∨ a.heap.size ≤ p.block) (u : Value) : a.grownBy (w.setCell p u) (some g) :=
  ⟨h.os, h.tape, h.output, by simpa [World.setCell] using h.size, fun i hi hne => (Below.heap_setCell w p u i (by
    rintro rfl
    rcases hp with hp | hp
    · exact hne (by rw [hp])
    · omega)).trans (h.block i hi hne)⟩

set_option maxHeartbeats 400000 in
theorem new_any (w : World) : Calls Try.prog 13 #[] w fun e w' => e = .returned (.pointer (some ⟨w.heap.size, 0, none⟩)) ∧ w.alloc (.cells #[.int .u32 0, .int .i64 0] 39) = w' := by
  go_enter Try.func13, Try.ntmps13
  go_wp2
  go_ret
  exact ⟨rfl, rfl⟩

set_option maxHeartbeats 400000 in
theorem dsum_any (w : World) (g s n : Nat) (h : Dig w g s n) : Calls Try.prog 16 #[.pointer (some ⟨g, 0, none⟩)] w fun e w' => e = .returned (.int .u32 s) ∧ w = w' := by
  have h0 := h.c0
  go_enter Try.func16, Try.ntmps16
  go_wp2
  go_ret
  exact ⟨rfl, rfl⟩
set_option maxHeartbeats 400000 in
theorem dlen_any (w : World) (g s n : Nat) (h : Dig w g s n) : Calls Try.prog 18 #[.pointer (some ⟨g, 0, none⟩)] w fun e w' => e = .returned (.int .i64 n) ∧ w = w' := by
  have h1 := h.c1
  go_enter Try.func18, Try.ntmps18
  go_wp2
  go_ret
  exact ⟨rfl, rfl⟩

set_option maxHeartbeats 800000 in
set_option maxRecDepth 100000 in
theorem dwrite_any (w : World) (g s n : Nat) (v : Value) (bs : List UInt8) (h : Dig w g s n) (hs : U32 s) (hn : n ≤ 1000000000) (hv : BS w w.heap.size v bs) (hl : bs.length ≤ 100000000) :
    Calls Try.prog 15 #[.pointer (some ⟨g, 0, none⟩), v] w fun e w' => e = .returned (.int .i64 bs.length) ∧ Dig w' g (cnext s bs) (n + bs.length) ∧ w.grownBy w' (some g) := by
  have h0 := h.c0
  go_enter Try.func15, Try.ntmps15
  go_wp2_with fail
  refine (next_any w _ v s bs hs hv (Nat.le_refl _) hl).mono ?_
  rintro e w1 ⟨rfl, hx⟩
  obtain ⟨A, c, rfl, hc, hm, hrest⟩ := hv
  clear hrest hm h0
  have h1 := h.ext hx
  have Hx := Lib.hid hx
  clear hx
  have c0 := h1.c0
  have c1 := h1.c1
  have f0 := h1.fr 0
  have f1 := h1.fr 1
  go_wp2
  go_ret
  refine ⟨rfl, ?_, ?_⟩
  · have h2 := Dig.set0 h1 (cnext s bs)
    have h3 := Dig.set1 h2 (n + bs.length)
    simpa using h3
  · exact World.grownBy.set_ (World.grownBy.set_ (grown_ext Hx.out) (p := ⟨g, 0, none⟩) (.inl rfl) _) (p := ⟨g, 1, none⟩) (.inl rfl) _

set_option maxHeartbeats 400000 in
theorem dreset_any (w : World) (g s n : Nat) (h : Dig w g s n) : Calls Try.prog 14 #[.pointer (some ⟨g, 0, none⟩)] w fun e w' => e = .returned (.tuple #[]) ∧ Dig w' g 0 0 ∧ w.grownBy w' (some g) := by
  have c0 := h.c0
  have c1 := h.c1
  have f0 := h.fr 0
  have f1 := h.fr 1
  go_enter Try.func14, Try.ntmps14
  go_wp2
  go_end0
  refine ⟨rfl, ?_, ?_⟩
  · have h2 := Dig.set0 h 0
    have h3 := Dig.set1 h2 0
    simpa using h3
  · exact World.grownBy.set_ (World.grownBy.set_ (grown_ext (Below.refl _ _)) (p := ⟨g, 0, none⟩) (.inl rfl) _) (p := ⟨g, 1, none⟩) (.inl rfl) _

/-! ### of none -/
set_option maxHeartbeats 400000 in
theorem nsum_any (w : World) : Calls Try.prog 16 #[.pointer none] w fun e w' => e = .returned (.int .u32 0) ∧ w = w' := by
  go_enter Try.func16, Try.ntmps16
  go_wp2
  go_ret
  exact ⟨rfl, rfl⟩
set_option maxHeartbeats 400000 in
theorem nlen_any (w : World) : Calls Try.prog 18 #[.pointer none] w fun e w' => e = .returned (.int .i64 0) ∧ w = w' := by
  go_enter Try.func18, Try.ntmps18
  go_wp2
  go_ret
  exact ⟨rfl, rfl⟩
set_option maxHeartbeats 400000 in
theorem nwrite_any (w : World) (v : Value) : Calls Try.prog 15 #[.pointer none, v] w fun e w' => e = .returned (.int .i64 0) ∧ w = w' := by
  go_enter Try.func15, Try.ntmps15
  go_wp2
  go_ret
  exact ⟨rfl, rfl⟩
set_option maxHeartbeats 400000 in
theorem nreset_any (w : World) : Calls Try.prog 14 #[.pointer none] w fun e w' => e = .returned (.tuple #[]) ∧ w = w' := by
  go_enter Try.func14, Try.ntmps14
  go_wp2
  go_end0
  exact ⟨rfl, rfl⟩

/-! ### the page's example -/
theorem BS.lit (w : World) (cs : Array Value) (bs : List UInt8) (h : cs.toList = bv bs) (n : Nat) (hn : n = bs.length) (hm : n ≤ maxLen := by simp [maxLen]) :
    BS (w.alloc (.cells cs 5)) (w.heap.size + 1) (.slice (some ⟨w.heap.size, 0, none⟩) n n) bs := by
  subst hn
  refine ⟨_, _, rfl, Nat.le_refl _, hm, fun h => (by cases h), ?_⟩
  have hs : cs.size = bs.length * 1 := by rw [← Array.length_toList, h, bv_length, Nat.mul_one]
  have := Rd.new_ w cs 5 1 bs.length hs
  rwa [h] at this

/-- '[]byte("..")' -/
theorem BS.mark (w : World) (cs : Array Value) (fr : Nat × Nat) (bs : List UInt8) (h : cs.toList = bv bs) (n : Nat) (hn : n = bs.length) (hm : n ≤ maxLen := by simp [maxLen]) :
    BS (w.alloc (.cells cs 5 fr)) (w.heap.size + 1) (.slice (some ⟨w.heap.size, 0, none⟩) n n) bs := by
  subst hn
  refine ⟨_, _, rfl, Nat.le_refl _, hm, fun h => (by cases h), by rw [bv_length, Nat.mul_one], fun _ => ⟨_, rfl, Nat.lt_succ_self _, fun j u hu => ?_⟩⟩
  have hadd : (⟨w.heap.size, 0, none⟩ : Addr).add j = ⟨w.heap.size, j, none⟩ := by unfold Addr.add; split <;> simp_all
  rw [hadd, World.cell?_alloc_mark, ← Array.getElem?_toList, h]
  exact hu

def ex : List UInt8 := [49, 50, 51, 52, 53, 54, 55, 56, 57]
theorem ex_sum : csumTo 0 [[49, 50, 51, 52], [53, 54, 55, 56, 57]] = 3421780262 := by decide +kernel
theorem ex_next : cnext 0 [49, 50, 51, 52, 53, 54, 55, 56, 57] = 3421780262 := by decide +kernel

abbrev exA : Array Value := #[.int .u8 49, .int .u8 50, .int .u8 51, .int .u8 52]
abbrev exB : Array Value := #[.int .u8 53, .int .u8 54, .int .u8 55, .int .u8 56, .int .u8 57]
theorem ex_parts (w : World) :
    BBS (((w.alloc (.cells exA 5 (4, 5))).alloc (.cells exB 5 (5, 6))).alloc (.cells #[.slice (some ⟨w.heap.size, 0, none⟩) 4 4, .slice (some ⟨w.heap.size + 1, 0, none⟩) 5 5] 22))
      (w.heap.size + 1 + 1 + 1) (.slice (some ⟨w.heap.size + 1 + 1, 0, none⟩) 2 2) [[49, 50, 51, 52], [53, 54, 55, 56, 57]] := by
  have h1 : BS (w.alloc (.cells exA 5 (4, 5))) (w.heap.size + 1) (.slice (some ⟨w.heap.size, 0, none⟩) 4 4) [49, 50, 51, 52] := BS.mark w exA (4, 5) _ rfl 4 rfl
  have h2 := BS.mark (w.alloc (.cells exA 5 (4, 5))) exB (5, 6) [53, 54, 55, 56, 57] rfl 5 rfl
  have h3 := (h1.ext (by simp) (Ext.of_alloc _ (.cells exB 5 (5, 6)))).more (B' := (w.alloc (.cells exA 5 (4, 5))).heap.size + 1) (by simp)
  have := BBS.lit ((w.alloc (.cells exA 5 (4, 5))).alloc (.cells exB 5 (5, 6))) ((w.alloc (.cells exA 5 (4, 5))).heap.size + 1) #[.slice (some ⟨w.heap.size, 0, none⟩) 4 4, .slice (some ⟨w.heap.size + 1, 0, none⟩) 5 5] 22 [[49, 50, 51, 52], [53, 54, 55, 56, 57]] 2 rfl rfl (by simp) (by simp [maxLen]) (by
    intro i hi
    match i, hi with
    | 0, _ => exact ⟨_, rfl, h3⟩
    | 1, _ => exact ⟨_, rfl, by simpa using h2⟩)
  simpa using this
theorem ex_sum_call (w : World) : Calls Try.prog 8 #[.slice (some ⟨w.heap.size + 1 + 1, 0, none⟩) 2 2]
    (((w.alloc (.cells #[.int .u8 49, .int .u8 50, .int .u8 51, .int .u8 52] 5 (4, 5))).alloc (.cells #[.int .u8 53, .int .u8 54, .int .u8 55, .int .u8 56, .int .u8 57] 5 (5, 6))).alloc (.cells #[.slice (some ⟨w.heap.size, 0, none⟩) 4 4, .slice (some ⟨w.heap.size + 1, 0, none⟩) 5 5] 22))
    fun e w' => e = .returned (.int .u32 3421780262) ∧ Ext w w' := by
  have hp := ex_parts w
  refine (sum_any _ _ [[49, 50, 51, 52], [53, 54, 55, 56, 57]] (by simpa using hp) (by decide) (by decide)).mono ?_
  rintro e w' ⟨he, hx⟩
  rw [ex_sum] at he
  exact ⟨he, (((Ext.of_alloc w _).trans (Ext.of_alloc _ _)).trans (Ext.of_alloc _ _)).trans hx⟩
theorem ex_write (w : World) (g : Nat) (h : Dig w g 0 0) : Calls Try.prog 15 #[.pointer (some ⟨g, 0, none⟩), .slice (some ⟨w.heap.size, 0, none⟩) 9 9]
    (w.alloc (.cells #[.int .u8 49, .int .u8 50, .int .u8 51, .int .u8 52, .int .u8 53, .int .u8 54, .int .u8 55, .int .u8 56, .int .u8 57] 5 (9, 10)))
    fun e w' => e = .returned (.int .i64 9) ∧ Dig w' g 3421780262 9 ∧ w.grownBy w' (some g) := by
  have hb := BS.mark w #[.int .u8 49, .int .u8 50, .int .u8 51, .int .u8 52, .int .u8 53, .int .u8 54, .int .u8 55, .int .u8 56, .int .u8 57] (9, 10) [49, 50, 51, 52, 53, 54, 55, 56, 57] rfl 9 rfl
  have hd := h.ext (Ext.of_alloc w (.cells #[.int .u8 49, .int .u8 50, .int .u8 51, .int .u8 52, .int .u8 53, .int .u8 54, .int .u8 55, .int .u8 56, .int .u8 57] 5 (9, 10)))
  have h := dwrite_any _ g 0 0 _ [49, 50, 51, 52, 53, 54, 55, 56, 57] hd (U32.mk (by decide)) (by decide) (by simpa using hb) (by decide)
  rw [ex_next] at h
  refine h.mono ?_
  rintro e w' ⟨he, hd, hx⟩
  exact ⟨he, hd, World.grownBy.trans (World.grownBy_alloc w _ (some g)) hx⟩

set_option maxHeartbeats 1600000 in
set_option maxRecDepth 100000 in
theorem awake_any (w : World) : Calls Try.prog 12 #[] w fun e w' => e = .returned (.bool true) ∧ Ext w w' := by
  have kc := fun (w : World) (C : Array Value) (n c : Nat) => Lib.run_convert_bytes_const (P := Try.prog) w 22 5 C n c Try.underlying22 Try.underlying5
  have kc2 : ∀ (w : World) (o : Obj) (C : Array Value) (n c : Nat), (convert 22 22 (.slice (some ⟨w.heap.size + 1, 0, none⟩) n c)).run Try.prog ((w.alloc o).alloc (.cells C 5)) = .ok (.slice (some ⟨w.heap.size + 1, 0, none⟩) n c) ((w.alloc o).alloc (.cells C 5 (C.size, C.size + 1))) := by
    intro w o C n c
    have := kc (w.alloc o) C n c
    rw [World.size_alloc] at this
    exact this
  go_enter Try.func12, Try.ntmps12
  go_wp2_with fail
  refine (new_any _).mono ?_
  rintro e w1 ⟨rfl, hw1⟩
  have hd1 : Dig w1 w.heap.size 0 0 := by rw [← hw1]; exact heap_alloc_new w _
  have hx1 : Ext w w1 := by rw [← hw1]; exact Ext.of_alloc _ _
  clear hw1
  go_wp2_with fail
  refine (ex_sum_call w1).mono ?_
  rintro e w2 ⟨rfl, hx2⟩
  have hd2 := hd1.ext hx2
  clear kc2 hd1
  go_wp2_with fail
  refine (ex_write w2 _ hd2).mono ?_
  rintro e w3 ⟨rfl, hd3, hx3⟩
  go_wp2_with fail
  refine (dsum_any w3 _ _ _ hd3).mono ?_
  rintro e w' ⟨rfl, rfl⟩
  go_wp2_with fail
  refine (dlen_any w3 _ _ _ hd3).mono ?_
  rintro e w' ⟨rfl, rfl⟩
  go_wp2
  go_ret
  exact ⟨rfl, Below.grown (hx1.trans hx2) hx3 (hx1.trans hx2).size (fun k hk => by injection hk with hk; omega)⟩

end Go.Proofs.Ytohocioglinknaa
