/-
  CrcDigests: the law's contract: it answers true and leaves all old memory alone.
  Conditions: none.
-/
import Derived.Test.YtohocioglinknaaLpieces
import Derived.RegionTactic
import Derived.BigRegion
import Derived.Lib.MinMax
namespace Go.Proofs.Ytohocioglinknaa
open Go.RowKit

set_option maxHeartbeats 400000 in
theorem of_any (w : World) (v : Value) (bs : List UInt8) (hv : BS w w.heap.size v bs) (hl : bs.length ≤ 100000000) :
    Calls Try.prog 17 #[v] w fun e w' => e = .returned (.int .u32 (cnext 0 bs)) ∧ w = w' := by
  go_enter Try.func17, Try.ntmps17
  go_wp2_with fail
  refine (rnext_any w _ v 0 bs (U32.mk (by decide)) hv hl).mono ?_
  rintro e w' ⟨rfl, rfl⟩
  go_wp2
  go_ret
  exact ⟨rfl, rfl⟩

theorem addField (x : Addr) (n : Nat) : x.add (n + 1) = ⟨(x.add n).block, (x.add n).off + 1, none⟩ := by
  unfold Addr.add
  by_cases h : n = 0
  · simp [h]
  · simp [h, Nat.add_assoc]
/-- a slice of calls that came in -/
def IsOps (w : World) (a : Option Addr) (len cap : Nat) : Prop :=
  (a = none ∧ len = 0 ∧ cap = 0) ∨
  ∃ x, a = some x ∧ len ≤ cap ∧ cap ≤ maxLen ∧ ∀ i, i < len → ∃ (k : UInt8) (u : Value) (bs : List UInt8), w.cell? (x.add (i * 2)) = some (.int .u8 (k.toNat : Int)) ∧ w.cell? (x.add (i * 2 + 1)) = some u ∧ BS w w.heap.size u bs

/-- what stands while the calls are made: the two digests at the blocks g and g + 1 hold the sum of 'all' and its length -/
theorem min200 (n : Nat) : ∃ M : Nat, M ≤ n ∧ M ≤ 200 ∧ min (n : Int) 200 = (M : Int) := ⟨min n 200, by omega, by omega, by omega⟩
theorem own_far {w w' : World} {B g : Nat} {v : Value} {bs : List UInt8} (h : Own w B v bs) (hg : w.grownBy w' (some g)) (hB : g < B) : Own w' B v bs := by
  refine World.ownsRow.kept h hg ?_
  cases hv : v.ownBlock with
  | none => exact .inl rfl
  | some k =>
    have := own_ge h k hv
    refine .inr fun e => ?_
    injection e with e
    omega

set_option maxHeartbeats 8000000 in
set_option maxRecDepth 100000 in
theorem digests_any (w : World) (A : Option Addr) (len cap : Nat) (ho : IsOps w A len cap) :
    Calls Try.prog 6 #[.slice A len cap] w fun e w' => e = .returned (.bool true) ∧ Ext w w' := by
  have hl : len ≤ cap ∧ (cap : Int) ≤ 9223372036854775807 := by
    rcases ho with ⟨_, h1, h2⟩ | ⟨_, _, h1, h2, _⟩
    · omega
    · unfold maxLen at h2; omega
  have HL := Lib.hid hl
  clear hl
  go_enter Try.func6, Try.ntmps6
  go_wp2_with fail
  refine (new_any _).mono ?_
  rintro e w1 ⟨rfl, hw1⟩
  have hd1 : Dig w1 w.heap.size 0 0 := by rw [← hw1]; exact heap_alloc_new w _
  have hx1 : Ext w w1 := by rw [← hw1]; exact Ext.of_alloc _ _
  have hs1 : w1.heap.size = w.heap.size + 1 := by rw [← hw1]; simp
  clear hw1
  go_wp2_with fail
  refine (awake_any _).mono ?_
  rintro e w2 ⟨rfl, hx2⟩
  have hd2 : Dig w2 w.heap.size 0 0 := (hd1.ext (Ext.of_alloc _ _)).ext hx2
  have he2 : Dig w2 w1.heap.size 0 0 := Dig.ext (heap_alloc_new w1 _) hx2
  have hs2 : w.heap.size + 2 ≤ w2.heap.size := by
    have := hx2.size
    simp only [World.size_alloc] at this
    omega
  have hx3 : Ext w w2 := (hx1.trans (Ext.of_alloc _ _)).trans hx2
  rw [hs1] at he2
  have Hx3 := Lib.hid hx3
  have Hd2 := Lib.hid hd2
  have He2 := Lib.hid he2
  clear hx1 hx2 hd1 hd2 he2 hx3
  go_wp2_with fail
  clear hs1
  have hG : w.heap.size = w.heap.size := rfl
  generalize hg : w.heap.size = g at hG
  clear hG
  go_loopw [6, 7] (fun al i wr => ∃ (j : Nat) (all : List UInt8), j ≤ 40 ∧ all.length ≤ 200 * j ∧ i = .int .i64 j ∧ Own wr w2.heap.size al all ∧ Dig wr g (cnext 0 all) all.length ∧ Dig wr (g + 1) (cnext 0 all) all.length ∧ Ext w wr ∧ w2.heap.size ≤ wr.heap.size)
    (fun _ i _ => 40 - (intOf i).toNat)
  case atStart =>
    refine ⟨0, [], by decide, by decide, rfl, Own.nil_ _ _, ?_, ?_, Hx3.out, Nat.le_refl _⟩
    · rw [cnext_nil (U32.mk (by decide)), ← hg]; exact Hd2.out
    · rw [cnext_nil (U32.mk (by decide)), ← hg]; exact He2.out
  case round =>
    obtain ⟨j, all, hj, hal, rfl, hown, hdd, hde, hx, hws⟩ := hrel
    have Hown := Lib.hid hown
    have Hdd := Lib.hid hdd
    have Hde := Lib.hid hde
    have Hx := Lib.hid hx
    clear hown hdd hde hx
    by_cases hlt : j < len
    · by_cases hlt2 : j < 40
      · obtain ⟨x, rfl, h1, h2, h3⟩ : ∃ x, A = some x ∧ len ≤ cap ∧ cap ≤ maxLen ∧ ∀ i, i < len → ∃ (k : UInt8) (u : Value) (bs : List UInt8), w.cell? (x.add (i * 2)) = some (.int .u8 (k.toNat : Int)) ∧ w.cell? (x.add (i * 2 + 1)) = some u ∧ BS w w.heap.size u bs := by
          rcases ho with ⟨_, h1, h2⟩ | h
          · omega
          · exact h
        obtain ⟨k, u, bs, hc0, hc1, hb⟩ := h3 j hlt
        clear h1 h2 h3 ho
        have hk := k.toNat_lt
        have hlt3 : (j : Int) < 40 := by omega
        have hd0 := ((Hx.out.trans (Ext.drew wr)).cell (World.block_lt_of_cell? _ _ hc0)).trans hc0
        have hd1 := ((Hx.out.trans (Ext.drew wr)).cell (World.block_lt_of_cell? _ _ hc1)).trans hc1
        have hw0 := (Hx.out.cell (World.block_lt_of_cell? _ _ hc0)).trans hc0
        have hw1 := (Hx.out.cell (World.block_lt_of_cell? _ _ hc1)).trans hc1
        rw [addField] at hd1 hw1
        obtain ⟨Au, cu, rfl, hcu⟩ : ∃ Au cu, u = .slice Au bs.length cu ∧ bs.length ≤ cu := by
          obtain ⟨Au, cu, e1, e2, _⟩ := hb
          exact ⟨Au, cu, e1, e2⟩
        obtain ⟨M, hM1, hM2, hM⟩ := min200 bs.length
        have hb2 := hb.take_ (k := M) hM1
        have hcl : (bs.take M).length = M := by rw [List.length_take]; omega
        generalize bs.take M = cs at hb2 hcl
        subst hcl
        have hMc : cs.length ≤ cu := by omega
        have Hb := Lib.hid hb2
        clear hb2
        clear hb hc0 hc1
        have hl := HL.out
        go_wp2
        go_region
        by_cases hk3 : ((k.toNat : Int) % 3 == 2) = true
        · go_wp2_with fail
          refine (dreset_any wr.drew g _ _ (Hdd.out.ext (Ext.drew wr))).mono ?_
          rintro e wa ⟨rfl, hda, hga⟩
          have hxa : Ext w wa := (Hx.out.trans (Ext.drew wr)).grown hga (Hx.out.trans (Ext.drew wr)).size (fun k hk => by cases hk; omega)
          have hea := (Hde.out.ext (Ext.drew wr)).far hga (by omega)
          have hsa : wr.heap.size ≤ wa.heap.size := hga.size
          have Hxa := Lib.hid hxa
          have Hda := Lib.hid hda
          have Hea := Lib.hid hea
          clear hxa hda hea hga hd0 hd1 hw0 hw1
          go_wp2_with fail
          refine (dreset_any wa (g + 1) _ _ Hea.out).mono ?_
          rintro e wb ⟨rfl, heb, hgb⟩
          have HDD := Lib.hid (Hda.out.far hgb (by omega))
          have HDE := Lib.hid heb
          have HX := Lib.hid (show Ext w wb from Hxa.out.grown hgb Hxa.out.size (fun k hk => by cases hk; omega))
          have hsz : w2.heap.size ≤ wb.heap.size := Nat.le_trans hws (Nat.le_trans hsa hgb.size)
          have hof := of_any wb _ [] (BS.nil_ wb wb.heap.size) (by simp)
          rw [cnext_nil (U32.mk (by decide))] at hof
          have HOF := Lib.hid hof
          clear heb hgb hof
          go_wp2_with fail
          refine (nreset_any wb).mono ?_
          rintro e w' ⟨rfl, rfl⟩
          go_wp2_with fail
          refine (dsum_any _ _ _ _ HDD.out).mono ?_
          rintro e w' ⟨rfl, rfl⟩
          go_wp2_with fail
          refine HOF.out.mono ?_
          rintro e w' ⟨rfl, rfl⟩
          go_wp2_with fail
          refine (dsum_any _ _ _ _ HDE.out).mono ?_
          rintro e w' ⟨rfl, rfl⟩
          go_wp2_with fail
          refine HOF.out.mono ?_
          rintro e w' ⟨rfl, rfl⟩
          go_wp2_with fail
          refine (dlen_any _ _ _ _ HDD.out).mono ?_
          rintro e w' ⟨rfl, rfl⟩
          go_wp2_with fail
          refine (dlen_any _ _ _ _ HDE.out).mono ?_
          rintro e w' ⟨rfl, rfl⟩
          go_wp2_with fail
          refine (nlen_any _).mono ?_
          rintro e w' ⟨rfl, rfl⟩
          go_wp2_with fail
          refine (nsum_any _).mono ?_
          rintro e w' ⟨rfl, rfl⟩
          go_wp2
          refine ⟨⟨j + 1, [], by omega, by simp, rfl, Own.nil_ _ _, ?_, ?_, HX.out, hsz⟩, by simp only [intOf]; omega⟩
          · rw [cnext_nil (U32.mk (by decide))]; exact HDD.out
          · rw [cnext_nil (U32.mk (by decide))]; exact HDE.out
        · rw [Bool.not_eq_true] at hk3
          have al200 : all.length ≤ 8000 := by omega
          go_wp2_with fail
          refine (dwrite_any wr.drew g _ _ _ cs (Hdd.out.ext (Ext.drew wr)) (cnext_32 _ _) (by omega) ((Hb.out.ext (Nat.le_refl _) (Hx.out.trans (Ext.drew wr))).more (Hx.out.trans (Ext.drew wr)).size) (by omega)).mono ?_
          rintro e wa ⟨rfl, hda, hga⟩
          have hxa : Ext w wa := (Hx.out.trans (Ext.drew wr)).grown hga (Hx.out.trans (Ext.drew wr)).size (fun k hk => by cases hk; omega)
          have hea := (Hde.out.ext (Ext.drew wr)).far hga (by omega)
          have hoa := own_far (Hown.out.ext (Ext.drew wr)) hga (by omega)
          have hsa : wr.heap.size ≤ wa.heap.size := hga.size
          have Hxa := Lib.hid hxa
          have Hda := Lib.hid hda
          have Hea := Lib.hid hea
          have Hoa := Lib.hid hoa
          clear hxa hda hea hga hoa hd0 hd1 hw0 hw1
          go_wp2_with fail
          refine (dwrite_any wa (g + 1) _ _ _ cs Hea.out (cnext_32 _ _) (by omega) ((Hb.out.ext (Nat.le_refl _) Hxa.out).more Hxa.out.size) (by omega)).mono ?_
          rintro e wb ⟨rfl, heb, hgb⟩
          have Hdb := Lib.hid (Hda.out.far hgb (by omega))
          have Heb := Lib.hid heb
          have Hxb := Lib.hid (show Ext w wb from Hxa.out.grown hgb Hxa.out.size (fun k hk => by cases hk; omega))
          have hbig : w2.heap.size ≤ wb.heap.size := Nat.le_trans hws (Nat.le_trans hsa hgb.size)
          have Hob := Lib.hid (own_far Hoa.out hgb (by omega))
          clear heb hgb
          go_wp2_with fail
          refine (nwrite_any wb _).mono ?_
          rintro e w' ⟨rfl, rfl⟩
          go_wp2_with (at_builtin; refine wpList_append_bytes _ rfl (.tmp 74) (.tmp 75) rfl w2.heap.size u6 all rfl Hob.out w.heap.size (.slice Au cs.length cu) cs rfl (Hb.out.ext (Nat.le_refl _) Hxb.out) (by omega) hbig ?_; intro v1 wc hown1 hg1 _; obtain ⟨A1, c1, rfl⟩ := (Own.bs hown1).form)
          have hdc : Dig wc g _ _ := (hg1.block g Hdb.out.lt (fun e => by have := own_ge Hob.out g (by first | exact e | exact e.symm); omega)).trans Hdb.out
          have hec : Dig wc (g + 1) _ _ := (hg1.block (g + 1) Heb.out.lt (fun e => by have := own_ge Hob.out (g + 1) (by first | exact e | exact e.symm); omega)).trans Heb.out
          have HX := Lib.hid (show Ext w wc from Hxb.out.grown hg1 Hxb.out.size (fun k hk => by have := own_ge Hob.out k hk; omega))
          have hsz : w2.heap.size ≤ wc.heap.size := Nat.le_trans hbig hg1.size
          rw [← cnext_append] at hdc hec
          rw [← List.length_append] at hdc hec
          have hal2 : (all ++ cs).length ≤ 200 * (j + 1) := by rw [List.length_append]; omega
          have HOF := Lib.hid (of_any wc _ (all ++ cs) (Own.bs hown1) (by omega))
          have HOW := Lib.hid hown1
          have HDD := Lib.hid hdc
          have HDE := Lib.hid hec
          clear hdc hec hown1 hg1 Hdb Heb Hob Hxb Hxa Hda Hea Hoa
          have hle : (all ++ cs).length = all.length + cs.length := List.length_append
          rw [← hle]
          generalize all ++ cs = al2 at hal2 HOF HOW HDD HDE hle
          clear hle
          go_wp2_with fail
          refine (dsum_any _ _ _ _ HDD.out).mono ?_
          rintro e w' ⟨rfl, rfl⟩
          go_wp2_with fail
          refine HOF.out.mono ?_
          rintro e w' ⟨rfl, rfl⟩
          go_wp2_with fail
          refine (dsum_any _ _ _ _ HDE.out).mono ?_
          rintro e w' ⟨rfl, rfl⟩
          go_wp2_with fail
          refine HOF.out.mono ?_
          rintro e w' ⟨rfl, rfl⟩
          go_wp2_with fail
          refine (dlen_any _ _ _ _ HDD.out).mono ?_
          rintro e w' ⟨rfl, rfl⟩
          go_wp2_with fail
          refine (dlen_any _ _ _ _ HDE.out).mono ?_
          rintro e w' ⟨rfl, rfl⟩
          go_wp2_with fail
          refine (nlen_any _).mono ?_
          rintro e w' ⟨rfl, rfl⟩
          go_wp2_with fail
          refine (nsum_any _).mono ?_
          rintro e w' ⟨rfl, rfl⟩
          go_wp2
          exact ⟨⟨j + 1, al2, by omega, hal2, rfl, HOW.out, HDD.out, HDE.out, HX.out, hsz⟩, by simp only [intOf]; omega⟩
      · have hlt3 : ¬(j : Int) < 40 := by omega
        go_wp2
        go_ret
        exact ⟨rfl, Hx.out⟩
    · go_wp2
      go_ret
      exact ⟨rfl, Hx.out⟩

end Go.Proofs.Ytohocioglinknaa
