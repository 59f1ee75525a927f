/-
  Contracts of sort.Search under Floor's test, Dict's Floor, Get, Prefix, strings.HasPrefix.
  Conditions: texts of at most 1,000,000 bytes.
-/
import Derived.Test.YtmgbhmmmegknjaaDm
import Derived.BigQuiet
namespace Go.Proofs.Ytmgbhmmmegknjaa
open Go.RowKit Go.Op

theorem DAny.ptr {W : World} {d : Value} {l : List Ent} {made : Bool} (h : DAny W d l made) : ∃ p, d = .pointer p := by
  rcases h with ⟨_, _, _, D, v, rfl, _⟩ | ⟨_, _, rfl | ⟨D, v, rfl, _⟩⟩
  · exact ⟨_, rfl⟩
  · exact ⟨_, rfl⟩
  · exact ⟨_, rfl⟩

set_option maxHeartbeats 1600000 in
set_option maxRecDepth 100000 in
theorem floor1_any (w : World) (B : Nat) (d : Value) (l : List Ent) (s : List UInt8) (i : Nat) (hb : Boxed w B 31 d) (hs : Boxed w (B + 1) 9 (.string ⟨s.toArray⟩)) (h : DictAt w d l) (hi : i < l.length) :
    Calls Try.prog 37 #[.int .i64 i, .pointer (some ⟨B, 0, none⟩), .pointer (some ⟨B + 1, 0, none⟩)] w fun e w' => e = .returned (.bool (!bytesLess l[i].1.b s)) ∧ Ext w w' := by
  obtain ⟨D, v, rfl, hd, hv⟩ := h
  have hc1 := hb.cell
  have hc2 := hs.cell
  have hc3 := hd.cell.1
  obtain ⟨A, c, rfl, _, hm⟩ := hv.form
  obtain ⟨ad, rfl, _, hc4, _⟩ := hv.ent_at hi
  have hii : (i : Int) < l.length := by omega
  generalize l[i].1.b = T at hc4
  clear hb hs hd hv
  go_enter Try.func37, Try.ntmps37
  go_wp2
  go_quiet (fail)
  all_goals go_wp2
  all_goals go_ret
  all_goals exact ⟨rfl, (show Ext w w from Below.refl _ _).drN _⟩

set_option maxHeartbeats 3200000 in
set_option maxRecDepth 100000 in
theorem search_any (w : World) (B : Nat) (d : Value) (l : List Ent) (made : Bool) (s : List UInt8) (hb : Boxed w B 31 d) (hs : Boxed w (B + 1) 9 (.string ⟨s.toArray⟩)) (h : DAny w d l made) :
    Calls Try.prog 36 #[.int .i64 l.length, .func (.func 37) #[] #[.pointer (some ⟨B, 0, none⟩), .pointer (some ⟨B + 1, 0, none⟩)]] w fun e w' => ∃ k : Nat, e = .returned (.int .i64 k) ∧ Flr l s k ∧ Ext w w' := by
  have hli : (l.length : Int) ≤ 5000 := by have := h.len; omega
  have Hi := Lib.hid h.inc
  have H := Lib.hid h
  have Hb := Lib.hid hb
  have Hs := Lib.hid hs
  clear hb hs h
  go_enter Try.func36, Try.ntmps36
  go_wp2_with fail
  go_loopw [5, 6] (fun a b wr => ∃ lo hi : Nat, a = .int .i64 lo ∧ b = .int .i64 hi ∧ lo ≤ hi ∧ hi ≤ l.length ∧ (∀ j (h : j < l.length), j < lo → bytesLess l[j].1.b s = true) ∧ (∀ j (h : j < l.length), hi ≤ j → bytesLess l[j].1.b s = false) ∧ Ext w wr) (fun a b _ => ((intOf b) - (intOf a)).toNat)
  case atStart => exact ⟨0, l.length, rfl, rfl, Nat.zero_le _, Nat.le_refl _, fun j _ h => absurd h (by omega), fun j h h' => absurd h (by omega), Below.refl _ _⟩
  case round =>
    rename World => wr
    obtain ⟨lo, hi, rfl, rfl, hlh, hhl, hlo, hhi, hx⟩ := hrel
    have Hx := Lib.hid hx
    have Hlo := Lib.hid hlo
    have Hhi := Lib.hid hhi
    clear hlo hhi hx
    by_cases hlt : lo < hi
    · have hlti : (lo : Int) < hi := by omega
      obtain ⟨m, hm⟩ : ∃ m : Nat, ((lo : Int) + hi) / 2 = m := ⟨(lo + hi) / 2, by omega⟩
      have hm1 : lo ≤ m := by omega
      have hm2 : m < hi := by omega
      have hml : m < l.length := by omega
      have hhii : (hi : Int) ≤ 5000 := by omega
      have hda : DictAt w d l := by
        rcases H.out with ⟨_, _, _, h⟩ | ⟨_, h, _⟩
        · exact h
        · rw [h] at hml; simp at hml
      have Hda := Lib.hid hda
      clear hda
      go_wp2_with fail
      refine (floor1_any wr B d l s m ((Hx.out.block _ Hb.out.lt).trans Hb.out) ((Hx.out.block _ Hs.out.lt).trans Hs.out) (Hda.out.ext Hx.out) hml).mono ?_
      rintro e w2 ⟨rfl, hx2⟩
      have Hx2 := Lib.hid (Ext.trans Hx.out hx2)
      clear hx2
      cases hd : bytesLess l[m].1.b s with
      | true =>
        have Hd := Lib.hid hd
        clear hd
        go_wp2_with fail
        go_roundw
        case rel =>
          refine ⟨m + 1, hi, rfl, rfl, by omega, hhl, fun j h hj => ?_, Hhi.out, Hx2.out⟩
          by_cases hjm : j = m
          · subst hjm
            exact Hd.out
          · exact less_trans (Hi.out j m h hml (by omega)) Hd.out
        case measure => simp only [intOf]; omega
      | false =>
        have Hd := Lib.hid hd
        clear hd
        go_wp2_with fail
        go_roundw
        case rel =>
          refine ⟨lo, m, rfl, rfl, hm1, by omega, Hlo.out, fun j h hj => ?_, Hx2.out⟩
          by_cases hjm : j = m
          · subst hjm
            exact Hd.out
          · cases hc : bytesLess l[j].1.b s with
            | false => rfl
            | true =>
              have := less_trans (Hi.out m j hml h (by omega)) hc
              rw [Hd.out] at this
              cases this
        case measure => simp only [intOf]; omega
    · have hlti : ¬(lo : Int) < hi := by omega
      go_wp2
      go_ret
      obtain rfl : lo = hi := by omega
      exact ⟨lo, rfl, ⟨hhl, Hlo.out, Hhi.out⟩, Hx.out⟩

set_option maxHeartbeats 800000 in
theorem floor_any (w : World) (d : Value) (l : List Ent) (made : Bool) (s : List UInt8) (h : DAny w d l made) :
    Calls Try.prog 20 #[d, .string ⟨s.toArray⟩] w fun e w' => ∃ k : Nat, e = .returned (.int .i64 k) ∧ Flr l s k ∧ Ext w w' := by
  obtain ⟨p, rfl⟩ := h.ptr
  have H := Lib.hid h
  have hx0 : Ext w ((w.alloc (.cells #[.pointer p] 31)).alloc (.cells #[.string ⟨s.toArray⟩] 9)) := Ext.al (Ext.of_alloc _ _) _
  have hb1 := (Boxed.new w 31 (.pointer p)).alloc (.cells #[.string ⟨s.toArray⟩] 9)
  have hb2 := Boxed.new (w.alloc (.cells #[.pointer p] 31)) 9 (.string ⟨s.toArray⟩)
  rw [World.size_alloc] at hb2
  have Hx0 := Lib.hid hx0
  have Hb1 := Lib.hid hb1
  have Hb2 := Lib.hid hb2
  clear h hx0 hb1 hb2
  go_enter Try.func20, Try.ntmps20
  go_wp2_with fail
  refine (len_any _ _ l made (H.out.ext Hx0.out)).mono ?_
  rintro e w1 ⟨rfl, hx1⟩
  have Hx1 := Lib.hid hx1
  clear hx1
  go_wp2_with fail
  refine (search_any w1 w.heap.size _ l made s ((Hx1.out.block _ Hb1.out.lt).trans Hb1.out) ((Hx1.out.block _ Hb2.out.lt).trans Hb2.out) (H.out.ext (Ext.trans Hx0.out Hx1.out))).mono ?_
  rintro e w2 ⟨k, rfl, hk, hx2⟩
  have Hk := Lib.hid hk
  have Hx2 := Lib.hid hx2
  clear hk hx2
  go_wp2
  go_ret
  exact ⟨k, rfl, Hk.out, Ext.trans (Ext.trans Hx0.out Hx1.out) Hx2.out⟩

end Go.Proofs.Ytmgbhmmmegknjaa
