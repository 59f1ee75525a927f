/-
  Contracts of event.Check and the reference's Check.
  Conditions: none.
-/
import Derived.Test.YtbnjhpknagkiaaaEb
namespace Go.Proofs.Ytbnjhpknagkiaaa
open Go.RowKit Go.Op

theorem addField (x : Addr) (n : Nat) : x.add (n + 1) = ⟨(x.add n).block, (x.add n).off + 1, none⟩ := by
  unfold Addr.add
  by_cases h : n = 0
  · simp [h]
  · simp [h, Nat.add_assoc]
/-- a field, where it lies -/
theorem SL.fld_at {w : World} {S : Nat → Prop} {A : Option Addr} {c n : Nat} {l : List Fld} (h : SL w S (.slice A n c) l) {i : Nat} (hi : i < l.length) : ∃ ad, A = some ad ∧ S ad.block ∧ w.cell? (ad.add (i * 2)) = some (.string ⟨(l[i]).1.b.toArray⟩) ∧
    w.cell? ⟨(ad.add (i * 2)).block, (ad.add (i * 2)).off + 1, none⟩ = some (.string ⟨(l[i]).2.b.toArray⟩) ∧ (l[i]).1.b.length ≤ maxLen ∧ (l[i]).2.b.length ≤ maxLen := by
  obtain ⟨ad, cs, rfl, hS, ⟨c1, c2, rfl, ⟨rfl, h1⟩, ⟨rfl, h2⟩⟩, hc⟩ := h.at_ hi
  have q0 := hc 0 _ rfl
  have q1 := hc 1 _ rfl
  simp only [Rep.n, Nat.add_zero, Nat.reduceAdd] at q0 q1
  rw [addField] at q1
  exact ⟨ad, rfl, hS, q0, q1, h1, h2⟩
theorem fldsE_at {l : List Fld} {k : Nat} (hk : k < l.length) : fldsE (l.drop k) = if fldE l[k] = 0 then fldsE (l.drop (k + 1)) else fldE l[k] := by
  rw [List.drop_eq_getElem_cons hk]
  rfl
theorem fldE_name {n t : List UInt8} (h : nmOk n = false) : fldE (⟨n⟩, ⟨t⟩) = 100 := by unfold fldE; rw [if_pos h]
theorem fldE_long {n t : List UInt8} (h : nmOk n = true) (h2 : 4096 < t.length) : fldE (⟨n⟩, ⟨t⟩) = 2 := by unfold fldE; rw [if_neg (by simp only; rw [h]; decide), if_pos h2]
theorem fldE_ok {n t : List UInt8} (h : nmOk n = true) (h2 : ¬4096 < t.length) : fldE (⟨n⟩, ⟨t⟩) = 0 := by unfold fldE; rw [if_neg (by simp only; rw [h]; decide), if_neg h2]
theorem evE_many {a : Int} {l : List Fld} (h : 16 < l.length) : evE (a, l) = 3 := if_pos h
theorem evE_few {a : Int} {l : List Fld} (h : ¬16 < l.length) : evE (a, l) = fldsE l := if_neg h

set_option maxHeartbeats 3200000 in
set_option maxRecDepth 100000 in
theorem check_any (w : World) (at_ : Int) (v : Value) (l : List Fld) (hv : SL w (Bw w) v l) :
    Calls Try.prog 27 #[.agg #[.int .i64 at_, v]] w fun e w' => e = .returned (.int .i64 (evE (at_, l))) ∧ Ext w w' := by
  obtain ⟨A, c, rfl, hc, hm⟩ := hv.form
  have Hv := Lib.hid hv
  have Hx0 : Hid (Ext w (w.alloc (.cells #[.int .i64 at_, .slice A l.length c] 40))) := Lib.hid (Ext.of_alloc _ _)
  clear hv
  by_cases hL : 16 < l.length
  · have hLi : (16 : Int) < l.length := by omega
    have He := Lib.hid (evE_many (a := at_) hL)
    clear hL
    go_enter Try.func27, Try.ntmps27
    go_wp2
    go_ret
    exact ⟨by rw [He.out]; rfl, Hx0.out⟩
  · have hLi : ¬(16 : Int) < l.length := by omega
    have He := Lib.hid (evE_few (a := at_) hL)
    clear hL
    go_enter Try.func27, Try.ntmps27
    go_wp2_with fail
    go_loopw [12] (fun i wr => ∃ k : Nat, i = .int .i64 k ∧ k ≤ l.length ∧ fldsE l = fldsE (l.drop k) ∧ Ext w wr) (fun i _ => l.length - (intOf i).toNat)
    case atStart => exact ⟨0, rfl, Nat.zero_le _, rfl, Hx0.out⟩
    case round =>
      obtain ⟨k, rfl, hk, hr, hx⟩ := hrel
      have Hx := Lib.hid hx
      by_cases hlt : k < l.length
      · have hklt : (k : Int) < l.length := by omega
        obtain ⟨ad, rfl, _, d0, d1, b0, b1⟩ := (Hv.out.up hx).fld_at hlt
        rw [fldsE_at hlt] at hr
        generalize l[k] = N at d0 d1 b0 b1 hr
        obtain ⟨⟨n⟩, ⟨t⟩⟩ := N
        dsimp only at d0 d1 b0 b1
        have Hr := Lib.hid hr
        have ht : (t.length : Int) ≤ 9223372036854775807 := by unfold maxLen at b1; omega
        have hnl : n.length ≤ 9223372036854775807 := by unfold maxLen at b0; omega
        have hx2 := Ext.al Hx.out (.cells #[.string ⟨n.toArray⟩, .string ⟨t.toArray⟩] 59)
        have Hx2 := Lib.hid hx2
        have Q1 := Lib.hid (cell_new wr #[.string ⟨n.toArray⟩, .string ⟨t.toArray⟩] 59 1 (v := .string ⟨t.toArray⟩) rfl)
        clear hr hx hx2
        go_wp2_with fail
        refine (name_any _ n hnl).mono ?_
        rintro e w1 ⟨rfl, hx1⟩
        have q1 := Ext.keeps hx1 Q1.out
        have HX := Lib.hid (Ext.trans Hx2.out hx1)
        clear hx1 d0 d1
        cases hn : nmOk n with
        | false =>
          have Hf := Lib.hid (fldE_name (t := t) hn)
          clear hn
          go_wp2
          go_ret
          exact ⟨by rw [He.out, Hr.out, Hf.out]; rfl, HX.out⟩
        | true =>
          by_cases h4 : 4096 < t.length
          · have h4i : (4096 : Int) < t.length := by omega
            have Hf := Lib.hid (fldE_long hn h4)
            clear hn h4
            go_wp2
            go_ret
            exact ⟨by rw [He.out, Hr.out, Hf.out]; rfl, HX.out⟩
          · have h4i : ¬(4096 : Int) < t.length := by omega
            have Hf := Lib.hid (fldE_ok hn h4)
            clear hn h4
            go_wp2
            exact ⟨⟨k + 1, rfl, by omega, by rw [Hr.out, Hf.out]; rfl, HX.out⟩, by simp only [intOf]; omega⟩
      · have hklt : ¬(k : Int) < l.length := by omega
        rw [List.drop_of_length_le (by omega)] at hr
        have Hr := Lib.hid hr
        clear hr hx
        go_wp2
        go_ret
        exact ⟨by rw [He.out, Hr.out]; rfl, Hx.out⟩

set_option maxHeartbeats 3200000 in
set_option maxRecDepth 100000 in
theorem rcheck_any (w : World) (at_ : Int) (v : Value) (l : List Fld) (hv : SL w (Bw w) v l) :
    Calls Try.prog 25 #[.agg #[.int .i64 at_, v]] w fun e w' => e = .returned (.int .i64 (evE (at_, l))) ∧ Ext w w' := by
  obtain ⟨A, c, rfl, hc, hm⟩ := hv.form
  have Hv := Lib.hid hv
  have Hx0 : Hid (Ext w (w.alloc (.cells #[.int .i64 at_, .slice A l.length c] 40))) := Lib.hid (Ext.of_alloc _ _)
  have Hb0 : Hid ((w.alloc (.cells #[.int .i64 at_, .slice A l.length c] 40)).cell? ⟨w.heap.size, 1, none⟩ = some (.slice A l.length c)) := Lib.hid (cell_new w #[.int .i64 at_, .slice A l.length c] 40 1 (v := .slice A l.length c) rfl)
  clear hv
  by_cases hL : 16 < l.length
  · have hLi : (16 : Int) < l.length := by omega
    have He := Lib.hid (evE_many (a := at_) hL)
    clear hL
    go_enter Try.func25, Try.ntmps25
    go_wp2
    go_ret
    exact ⟨by rw [He.out]; rfl, Hx0.out⟩
  · have hLi : ¬(16 : Int) < l.length := by omega
    have He := Lib.hid (evE_few (a := at_) hL)
    clear hL
    go_enter Try.func25, Try.ntmps25
    go_wp2_with fail
    go_loopw [3] (fun i wr => ∃ k : Nat, i = .int .i64 k ∧ k ≤ l.length ∧ fldsE l = fldsE (l.drop k) ∧ wr.cell? ⟨w.heap.size, 1, none⟩ = some (.slice A l.length c) ∧ Ext w wr) (fun i _ => l.length - (intOf i).toNat)
    case atStart => exact ⟨0, rfl, Nat.zero_le _, rfl, Hb0.out, Hx0.out⟩
    case round =>
      obtain ⟨k, rfl, hk, hr, hb, hx⟩ := hrel
      have Hx := Lib.hid hx
      have Hb := Lib.hid hb
      by_cases hlt : k < l.length
      · have hklt : (k : Int) < l.length := by omega
        obtain ⟨ad, rfl, _, d0, d1, b0, b1⟩ := (Hv.out.up hx).fld_at hlt
        rw [fldsE_at hlt] at hr
        generalize l[k] = N at d0 d1 b0 b1 hr
        obtain ⟨⟨n⟩, ⟨t⟩⟩ := N
        dsimp only at d0 d1 b0 b1
        have Hr := Lib.hid hr
        have D1 := Lib.hid d1
        have ht : (t.length : Int) ≤ 9223372036854775807 := by unfold maxLen at b1; omega
        clear hr hx d1
        go_wp2_with fail
        refine (risname_any _ n).mono ?_
        rintro e w1 ⟨rfl, hx1⟩
        have d1 := Ext.keeps hx1 D1.out
        have hb1 := Ext.keeps hx1 Hb.out
        have Hb1 := Lib.hid hb1
        have HX := Lib.hid (Ext.trans Hx.out hx1)
        clear hx1 d0 hb
        cases hn : nmOk n with
        | false =>
          have Hf := Lib.hid (fldE_name (t := t) hn)
          clear hn
          go_wp2
          go_ret
          exact ⟨by rw [He.out, Hr.out, Hf.out]; rfl, HX.out⟩
        | true =>
          by_cases h4 : 4096 < t.length
          · have h4i : (4096 : Int) < t.length := by omega
            have Hf := Lib.hid (fldE_long hn h4)
            clear hn h4
            go_wp2
            go_ret
            exact ⟨by rw [He.out, Hr.out, Hf.out]; rfl, HX.out⟩
          · have h4i : ¬(4096 : Int) < t.length := by omega
            have Hf := Lib.hid (fldE_ok hn h4)
            clear hn h4
            go_wp2
            exact ⟨⟨k + 1, rfl, by omega, by rw [Hr.out, Hf.out]; rfl, Hb1.out, HX.out⟩, by simp only [intOf]; omega⟩
      · have hklt : ¬(k : Int) < l.length := by omega
        rw [List.drop_of_length_le (by omega)] at hr
        have Hr := Lib.hid hr
        clear hr hx
        go_wp2
        go_ret
        exact ⟨by rw [He.out, Hr.out]; rfl, Hx.out⟩

end Go.Proofs.Ytbnjhpknagkiaaa
