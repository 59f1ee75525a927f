/-
  Contracts of Docs (both).
  Conditions: at most 1,000,000 posts.
-/
import Derived.Test.YtccmhjlniljhcaaQu
namespace Go.Proofs.Ytccmhjlniljhcaa
open Go.RowKit

set_option maxHeartbeats 1600000 in
set_option maxRecDepth 100000 in
theorem docs_any (w : World) (v : Value) (l : List Post) (hv : SL w (Bw w) v l) (hl : l.length ≤ 1000000) :
    Calls Try.prog 23 #[v] w fun e w' => ∃ u, e = .returned u ∧ SL w' (Bw w') u (l.map (·.1)) ∧ Ext w w' := by
  obtain ⟨A, c, rfl, hc, hm⟩ := hv.form
  have Hv := Lib.hid hv
  clear hv
  go_enter Try.func23, Try.ntmps23
  go_wp2_with fail
  go_loopw [3, 8] (fun o i wr => ∃ k : Nat, i = .int .i64 k ∧ k ≤ l.length ∧ OwnL wr w.heap.size 3 (fun _ => False) o ((l.take k).map (·.1)) ∧ Ext w wr) (fun _ i _ => l.length - (intOf i).toNat)
  case atStart => exact ⟨0, rfl, Nat.zero_le _, OwnL.nil_ _ _ _ _, Below.refl _ _⟩
  case round =>
    rename World => wr
    obtain ⟨k, rfl, hk, hol, hx⟩ := hrel
    obtain ⟨Al, cl, rfl, hclo, hmo⟩ := hol.form
    have hsz := hx.size
    have hll : ((l.take k).map (·.1)).length = k := by rw [List.length_map, List.length_take]; omega
    by_cases hlk : k < l.length
    · have hkl : (k : Int) < l.length := by omega
      obtain ⟨ad, u, rfl, had, hc0, hc1, hu, h6⟩ := Hv.out.post_at hlk
      have q0 := Ext.keeps hx hc0
      have q1 := Ext.keeps hx hc1
      have htk : (l.take (k + 1)).map (·.1) = (l.take k).map (·.1) ++ [l[k].1] := by rw [List.take_succ_eq_append_getElem hlk, List.map_append]; rfl
      obtain ⟨Au, cu, rfl, hcu, hmu⟩ := hu.form
      generalize l[k] = N at hc0 hc1 hu h6 htk q0 q1 hcu
      obtain ⟨D, ps⟩ := N
      dsimp only at hc0 hc1 hu h6 htk q0 q1 hcu
      have Htk := Lib.hid htk
      have Hol := Lib.hid hol
      have Hx := Lib.hid hx
      have hb := Pbox.new wr D (.slice Au ps.length cu)
      obtain ⟨p0, p1, pf⟩ := hb.cell
      clear hc0 hc1 hu htk hol hx hb
      generalize (l.take k).map (·.1) = LS at Hol hll Htk hclo
      have hLS : LS.length ≤ 1000000 := by omega
      clear hll
      have hsv := SV.one_ (wr.alloc (.cells #[.int .i64 D, .slice Au ps.length cu] 43)) #[.int .i64 D] 3 1 rfl
      rw [World.size_alloc] at hsv
      have hreps : ∀ W : World, Reps (α := Int) W (fun k => False ∧ k < W.heap.size ∧ some k ≠ (Value.slice Al LS.length cl).ownBlock) [.int .i64 D] [D] := fun W => Reps.single ⟨rfl, h6⟩
      have Hsv := Lib.hid hsv
      clear hsv
      go_wp2_with (at_builtin; go_loud (refine wpList_append_l _ rfl (.tmp 12) (.tmp 15) 39 rfl w.heap.size 3 (fun _ => False) (.int .i64 0) 8 Try.underlying39 info_int rfl (by decide) (.slice Al LS.length cl) LS rfl (Hol.out.ext (Ext.al (Ext.of_alloc wr _) _)) (wr.heap.size + 1 + 1) (.slice (some ⟨wr.heap.size + 1, 0, none⟩) 1 1) [D] [.int .i64 D] rfl Hsv.out (hreps _) (by simp; omega) (by omega) (by simp; omega) ?_; intro v6 w6 hown6 hg6 hat6; have hx6 : Ext w w6 := Below.grown (Ext.al (Ext.al Hx.out _) _) hg6 (by simp; omega) (fun j hj => Hol.out.ge j hj); have Hown6 := Lib.hid hown6; have Hx6 := Lib.hid hx6; clear hown6 hg6 hat6 hx6))
      go_roundw
      case rel => exact ⟨k + 1, rfl, by omega, by rw [Htk.out]; exact Hown6.out, Hx6.out⟩
      case measure => simp only [intOf]; omega
    · have hkl : ¬(k : Int) < l.length := by omega
      rw [hll, List.take_of_length_le (by omega)] at hol
      have Hol := Lib.hid hol.sl
      have Hx := Lib.hid hx
      clear hol hx hll hclo
      go_wp2
      go_ret
      exact ⟨_, rfl, Hol.out, Hx.out⟩

set_option maxHeartbeats 1600000 in
set_option maxRecDepth 100000 in
theorem rdocs_any (w : World) (v : Value) (l : List Post) (hv : SL w (Bw w) v l) (hl : l.length ≤ 1000000) :
    Calls Try.prog 24 #[v] w fun e w' => ∃ u, e = .returned u ∧ SL w' (Bw w') u (l.map (·.1)) ∧ Ext w w' := by
  obtain ⟨A, c, rfl, hc, hm⟩ := hv.form
  have Hv := Lib.hid hv
  clear hv
  go_enter Try.func24, Try.ntmps24
  go_wp2_with fail
  go_loopw [3, 4] (fun o i wr => ∃ k : Nat, i = .int .i64 k ∧ k ≤ l.length ∧ OwnL wr w.heap.size 3 (fun _ => False) o ((l.take k).map (·.1)) ∧ Ext w wr) (fun _ i _ => l.length - (intOf i).toNat)
  case atStart => exact ⟨0, rfl, Nat.zero_le _, OwnL.nil_ _ _ _ _, Below.refl _ _⟩
  case round =>
    rename World => wr
    obtain ⟨k, rfl, hk, hol, hx⟩ := hrel
    obtain ⟨Al, cl, rfl, hclo, hmo⟩ := hol.form
    have hsz := hx.size
    have hll : ((l.take k).map (·.1)).length = k := by rw [List.length_map, List.length_take]; omega
    by_cases hlk : k < l.length
    · have hkl : (k : Int) < l.length := by omega
      obtain ⟨ad, u, rfl, had, hc0, hc1, hu, h6⟩ := Hv.out.post_at hlk
      have q0 := Ext.keeps hx hc0
      have htk : (l.take (k + 1)).map (·.1) = (l.take k).map (·.1) ++ [l[k].1] := by rw [List.take_succ_eq_append_getElem hlk, List.map_append]; rfl
      generalize l[k].1 = D at hc0 h6 htk q0
      have Htk := Lib.hid htk
      have Hol := Lib.hid hol
      have Hx := Lib.hid hx
      clear hc0 hc1 hu htk hol hx
      generalize (l.take k).map (·.1) = LS at Hol hll Htk hclo
      have hLS : LS.length ≤ 1000000 := by omega
      clear hll
      have hsv := SV.one_ wr #[.int .i64 D] 3 1 rfl
      have hreps : ∀ W : World, Reps (α := Int) W (fun k => False ∧ k < W.heap.size ∧ some k ≠ (Value.slice Al LS.length cl).ownBlock) [.int .i64 D] [D] := fun W => Reps.single ⟨rfl, h6⟩
      have Hsv := Lib.hid hsv
      clear hsv
      go_wp2_with (at_builtin; go_loud (refine wpList_append_l _ rfl (.tmp 11) (.tmp 17) 39 rfl w.heap.size 3 (fun _ => False) (.int .i64 0) 8 Try.underlying39 info_int rfl (by decide) (.slice Al LS.length cl) LS rfl (Hol.out.ext (Ext.of_alloc wr _)) (wr.heap.size + 1) (.slice (some ⟨wr.heap.size, 0, none⟩) 1 1) [D] [.int .i64 D] rfl Hsv.out (hreps _) (by simp; omega) (by omega) (by simp; omega) ?_; intro v6 w6 hown6 hg6 hat6; have hx6 : Ext w w6 := Below.grown (Ext.al Hx.out _) hg6 (by simp; omega) (fun j hj => Hol.out.ge j hj); have Hown6 := Lib.hid hown6; have Hx6 := Lib.hid hx6; clear hown6 hg6 hat6 hx6))
      go_roundw
      case rel => exact ⟨k + 1, rfl, by omega, by rw [Htk.out]; exact Hown6.out, Hx6.out⟩
      case measure => simp only [intOf]; omega
    · have hkl : ¬(k : Int) < l.length := by omega
      rw [hll, List.take_of_length_le (by omega)] at hol
      have Hol := Lib.hid hol.sl
      have Hx := Lib.hid hx
      clear hol hx hll hclo
      go_wp2
      go_ret
      exact ⟨_, rfl, Hol.out, Hx.out⟩

end Go.Proofs.Ytccmhjlniljhcaa
