/-
  Contracts of the statements' 'few' and 'cut'; Count.
  Conditions: those of each statement.
-/
import Derived.Test.YtccmhjlniljhcaaQt
namespace Go.Proofs.Ytccmhjlniljhcaa
open Go.RowKit

/-- a post, not more places than are looked at -/
def fewP (p : Post) : Post := (p.1, p.2.take 20)
def few (l : List Post) : List Post := (l.take 70).map fewP
theorem wt_few (l : List Post) : wt (few l) ≤ 15400 := by
  have : ∀ m : List Post, wt (m.map fewP) ≤ 220 * m.length := by
    intro m
    induction m with
    | nil => exact Nat.le_refl _
    | cons p m ih =>
      rw [List.map_cons, wt_cons, List.length_cons]
      have : (fewP p).2.length ≤ 20 := by simp only [fewP, List.length_take]; omega
      omega
  have h := this (l.take 70)
  have h2 : (l.take 70).length ≤ 70 := by rw [List.length_take]; omega
  unfold few
  omega

theorem cut_any (w : World) (v : Value) (bs : List UInt8) (hv : SL w (Bw w) v bs) :
    Calls Try.prog 9 #[v] w fun e w' => ∃ u, e = .returned u ∧ SL w' (Bw w') u (bs.take 600) ∧ Ext w w' := by
  obtain ⟨A, c, rfl, hc, hm⟩ := hv.form
  have hcm : (c : Int) ≤ 9223372036854775807 := by unfold maxLen at hm; omega
  have Hv := Lib.hid hv
  clear hv
  go_enter Try.func9, Try.ntmps9
  by_cases h : 600 < bs.length
  · have h' : (600 : Int) < (bs.length : Int) := by omega
    have hc' : (600 : Int) ≤ (c : Int) := by omega
    go_wp2
    go_ret
    exact ⟨_, rfl, Hv.out.take_ (by omega), Below.refl _ _⟩
  · have h' : ¬(600 : Int) < (bs.length : Int) := by omega
    go_wp2
    go_ret
    exact ⟨_, rfl, by rw [List.take_of_length_le (by omega)]; exact Hv.out, Below.refl _ _⟩

set_option maxHeartbeats 3200000 in
set_option maxRecDepth 100000 in
theorem few_any (w : World) (v : Value) (l : List Post) (hv : SL w (Bw w) v l) :
    Calls Try.prog 8 #[v] w fun e w' => ∃ u, e = .returned u ∧ SL w' (Bw w') u (few l) ∧ Ext w w' := by
  obtain ⟨A, c, rfl, hc, hm⟩ := hv.form
  have hcm : (c : Int) ≤ 9223372036854775807 := by unfold maxLen at hm; omega
  have hcl : (l.length : Int) ≤ c := by omega
  have Hv := Lib.hid hv
  clear hv
  go_enter Try.func8, Try.ntmps8
  go_wp2_with fail
  go_loopw [3, 4] (fun o i wr => ∃ k : Nat, i = .int .i64 k ∧ k ≤ l.length ∧ k ≤ 70 ∧ OwnL wr w.heap.size 43 (Bw w) o ((l.take k).map fewP) ∧ Ext w wr) (fun _ i _ => 70 - (intOf i).toNat)
  case atStart => exact ⟨0, rfl, Nat.zero_le _, Nat.zero_le _, OwnL.nil_ _ _ _ _, Below.refl _ _⟩
  case round =>
    rename World => wr
    obtain ⟨k, rfl, hk, hk7, hol, hx⟩ := hrel
    obtain ⟨Al, cl, rfl, hclo, hmo⟩ := hol.form
    have hsz := hx.size
    have hll : ((l.take k).map fewP).length = k := by rw [List.length_map, List.length_take]; omega
    by_cases hstop : k < l.length ∧ k < 70
    · obtain ⟨hlk, hk70⟩ := hstop
      have hkl : (k : Int) < l.length := by omega
      have hkl7 : (k : Int) < 70 := by omega
      obtain ⟨ad, u, rfl, had, hc0, hc1, hu, h6⟩ := Hv.out.post_at hlk
      have q0 := Ext.keeps hx hc0
      have q1 := Ext.keeps hx hc1
      have htk : (l.take (k + 1)).map fewP = (l.take k).map fewP ++ [fewP l[k]] := by rw [List.take_succ_eq_append_getElem hlk, List.map_append]; rfl
      obtain ⟨Au, cu, rfl, hcu, hmu⟩ := hu.form
      generalize hN : l[k] = N at hc0 hc1 hu h6 htk q0 q1 hcu
      obtain ⟨D, ps⟩ := N
      dsimp only at hc0 hc1 hu h6 htk q0 q1 hcu
      have Hu := Lib.hid (hu.keep (Sm.of_ext hx fun k hk => hk))
      have Htk := Lib.hid htk
      have Hol := Lib.hid hol
      have Hx := Lib.hid hx
      have hcum : (cu : Int) ≤ 9223372036854775807 := by unfold maxLen at hmu; omega
      have hb := Pbox.new wr D (.slice Au ps.length cu)
      obtain ⟨p0, p1, pf⟩ := hb.cell
      have Hb := Lib.hid hb
      clear hc0 hc1 hu htk hol hx hN hb
      generalize (l.take k).map fewP = LS at Hol hll Htk hclo
      have hLS : LS.length ≤ 70 := by omega
      clear hll
      by_cases h20 : 20 < ps.length
      · have h20' : (20 : Int) < (ps.length : Int) := by omega
        have h20c : (20 : Int) ≤ (cu : Int) := by omega
        have hf : fewP (D, ps) = (D, ps.take 20) := rfl
        have hreps : Reps (α := Post) ((wr.alloc (.cells #[.int .i64 D, .slice Au 20 cu] 43)).alloc (.cells #[.int .i64 D, .slice Au 20 cu] 43)) (fun k => k < w.heap.size ∧ k < ((wr.alloc (.cells #[.int .i64 D, .slice Au 20 cu] 43)).alloc (.cells #[.int .i64 D, .slice Au 20 cu] 43)).heap.size ∧ some k ≠ (Value.slice Al LS.length cl).ownBlock) [.int .i64 D, .slice Au 20 cu] [(D, ps.take 20)] := by
          refine Reps.single (rep_post h6 (((Hu.out.take_ (k := 20) (by omega)).keep (Sm.of_ext (Ext.al (Ext.of_alloc wr _) _) fun k hk => by omega)).more fun k hk => ⟨hk, by simp; omega, fun e => ?_⟩))
          have := Hol.out.ge k e.symm
          omega
        rw [hf] at Htk
        have hsv := SV.one_ (wr.alloc (.cells #[.int .i64 D, .slice Au 20 cu] 43)) #[.int .i64 D, .slice Au 20 cu] 43 2 rfl
        rw [World.size_alloc] at hsv
        have Hsv := Lib.hid hsv
        have Hreps := Lib.hid hreps
        clear hsv hreps hf
        go_wp2_with (at_builtin; go_loud (refine wpList_append_l _ rfl (.tmp 28) (.tmp 30) 22 rfl w.heap.size 43 (Bw w) (.agg #[.int .i64 0, .slice none 0 0]) 32 Try.underlying22 info_post rfl (by decide) (.slice Al LS.length cl) LS rfl (Hol.out.ext (Ext.al (Ext.of_alloc wr _) _)) (wr.heap.size + 1 + 1) (.slice (some ⟨wr.heap.size + 1, 0, none⟩) 1 1) [(D, ps.take 20)] [.int .i64 D, .slice Au 20 cu] rfl Hsv.out Hreps.out (by simp; omega) (by omega) (by simp; omega) ?_; intro v6 w6 hown6 hg6 hat6; have hx6 : Ext w w6 := Below.grown (Ext.al (Ext.al Hx.out _) _) hg6 (by simp; omega) (fun j hj => Hol.out.ge j hj); have Hown6 := Lib.hid hown6; have Hx6 := Lib.hid hx6; clear hown6 hg6 hat6 hx6))
        go_roundw
        case rel => exact ⟨k + 1, rfl, by omega, by omega, by rw [Htk.out]; exact Hown6.out, Hx6.out⟩
        case measure => simp only [intOf]; omega
      · have h20' : ¬(20 : Int) < (ps.length : Int) := by omega
        have hf : fewP (D, ps) = (D, ps) := by simp only [fewP]; rw [List.take_of_length_le (by omega)]
        have hreps : Reps (α := Post) ((wr.alloc (.cells #[.int .i64 D, .slice Au ps.length cu] 43)).alloc (.cells #[.int .i64 D, .slice Au ps.length cu] 43)) (fun k => k < w.heap.size ∧ k < ((wr.alloc (.cells #[.int .i64 D, .slice Au ps.length cu] 43)).alloc (.cells #[.int .i64 D, .slice Au ps.length cu] 43)).heap.size ∧ some k ≠ (Value.slice Al LS.length cl).ownBlock) [.int .i64 D, .slice Au ps.length cu] [(D, ps)] := by
          refine Reps.single (rep_post h6 ((Hu.out.keep (Sm.of_ext (Ext.al (Ext.of_alloc wr _) _) fun k hk => by omega)).more fun k hk => ⟨hk, by simp; omega, fun e => ?_⟩))
          have := Hol.out.ge k e.symm
          omega
        rw [hf] at Htk
        have hsv := SV.one_ (wr.alloc (.cells #[.int .i64 D, .slice Au ps.length cu] 43)) #[.int .i64 D, .slice Au ps.length cu] 43 2 rfl
        rw [World.size_alloc] at hsv
        have Hsv := Lib.hid hsv
        have Hreps := Lib.hid hreps
        clear hsv hreps hf
        go_wp2_with (at_builtin; go_loud (refine wpList_append_l _ rfl (.tmp 28) (.tmp 30) 22 rfl w.heap.size 43 (Bw w) (.agg #[.int .i64 0, .slice none 0 0]) 32 Try.underlying22 info_post rfl (by decide) (.slice Al LS.length cl) LS rfl (Hol.out.ext (Ext.al (Ext.of_alloc wr _) _)) (wr.heap.size + 1 + 1) (.slice (some ⟨wr.heap.size + 1, 0, none⟩) 1 1) [(D, ps)] [.int .i64 D, .slice Au ps.length cu] rfl Hsv.out Hreps.out (by simp; omega) (by omega) (by simp; omega) ?_; intro v6 w6 hown6 hg6 hat6; have hx6 : Ext w w6 := Below.grown (Ext.al (Ext.al Hx.out _) _) hg6 (by simp; omega) (fun j hj => Hol.out.ge j hj); have Hown6 := Lib.hid hown6; have Hx6 := Lib.hid hx6; clear hown6 hg6 hat6 hx6))
        go_roundw
        case rel => exact ⟨k + 1, rfl, by omega, by omega, by rw [Htk.out]; exact Hown6.out, Hx6.out⟩
        case measure => simp only [intOf]; omega
    · have hfin : (l.take k).map fewP = few l := by
        unfold few
        by_cases h : k = 70
        · rw [h]
        · rw [List.take_of_length_le (by omega), List.take_of_length_le (by omega)]
      have hex : Ext w wr := hx
      rw [hll, hfin] at hol
      have Hol := Lib.hid hol.sl
      have Hex := Lib.hid hex
      clear hol hx hex hfin
      by_cases h : k < l.length
      · have hkl : (k : Int) < l.length := by omega
        have hkl7 : ¬(k : Int) < 70 := by omega
        clear hll
        go_wp2
        go_ret
        exact ⟨_, rfl, Hol.out, Hex.out⟩
      · have hkl : ¬(k : Int) < l.length := by omega
        clear hll
        go_wp2
        go_ret
        exact ⟨_, rfl, Hol.out, Hex.out⟩

end Go.Proofs.Ytccmhjlniljhcaa
