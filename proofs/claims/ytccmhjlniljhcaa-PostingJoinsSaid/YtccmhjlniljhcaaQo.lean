/-
  Contract of posting.Decode's 'number'.
  Conditions: those of each statement.
-/
import Derived.Test.YtccmhjlniljhcaaQn
import Derived.Test.YtccmhjlniljhcaaQf
import Derived.Test.YtccmhjlniljhcaaVc
namespace Go.Proofs.Ytccmhjlniljhcaa
open Go.RowKit

/-- the boxes of 'rest' and 'wrong': what is left to read; none: it went wrong -/
def NumSt (n0 L : Nat) (W : World) (Br : Nat) (o : Option (List UInt8)) : Prop :=
  ∃ vr bs0, Boxed W Br 23 vr ∧ BS W n0 vr bs0 ∧ bs0.length ≤ L ∧ Boxed W (Br + 1) 4 (.bool o.isNone) ∧ ∀ bs, o = some bs → bs0 = bs
/-- the next number of at most so much -/
def numO (b : Nat) : Option (List UInt8) → Nat × Option (List UInt8)
  | none => (0, none)
  | some bs => match num b bs with
    | none => (0, none)
    | some (n, r) => (n, some r)
theorem box_keep {T : Nat → Prop} {W W' : World} {B : Nat} {t : TypeId} {v : Value} (h : Boxed W B t v) (hk : Kept T W W') (hT : ¬T B) : Boxed W' B t v := (hk.block B h.lt hT).trans h
theorem BS.keep {T : Nat → Prop} {W W' : World} {n0 : Nat} {v : Value} {bs : List UInt8} (h : BS W n0 v bs) (hn : n0 ≤ W.heap.size) (hk : Kept T W W') (hT : ∀ k, k < n0 → ¬T k) : BS W' n0 v bs := by
  obtain ⟨A, c, hv, h1, h2, h3, h4⟩ := h
  refine ⟨A, c, hv, h1, h2, h3, h4.keep fun p hp => ?_⟩
  exact World.cell?_of_block (hk.block _ (by omega) (hT _ hp))
theorem NumSt.keep {n0 L Br : Nat} {T : Nat → Prop} {W W' : World} {o : Option (List UInt8)} (h : NumSt n0 L W Br o) (hn : n0 ≤ Br) (hk : Kept T W W') (hT : ∀ k, k ≤ Br + 1 → ¬T k) : NumSt n0 L W' Br o := by
  obtain ⟨vr, bs0, h1, h2, h3, h4, h5⟩ := h
  exact ⟨vr, bs0, box_keep h1 hk (hT _ (by omega)), h2.keep (by have := h1.lt; omega) hk (fun k hk' => hT k (by omega)), h3, box_keep h4 hk (hT _ (by omega)), h5⟩

set_option maxHeartbeats 1600000 in
set_option maxRecDepth 100000 in
theorem number_any (n0 L : Nat) (W : World) (Br : Nat) (o : Option (List UInt8)) (b : Nat) (hn : n0 ≤ Br) (hL : L ≤ 1000000) (hb : b ≤ 9223372036854775807) (h : NumSt n0 L W Br o) :
    Calls Try.prog 33 #[.int .i64 b, .pointer (some ⟨Br, 0, none⟩), .pointer (some ⟨Br + 1, 0, none⟩)] W fun e W' => e = .returned (.int .i64 (numO b o).1) ∧ NumSt n0 L W' Br (numO b o).2 ∧ Kept (fun k => k = Br ∨ k = Br + 1) W W' := by
  obtain ⟨vr, bs0, h1, h2, h3, h4, h5⟩ := h
  have hn0 : n0 ≤ W.heap.size := by have := h1.lt; omega
  have hc1 := h1.cell
  have H1 := Lib.hid h1
  have H2 := Lib.hid h2
  have H4 := Lib.hid h4
  have H5 := Lib.hid h5
  have hb' : (b : Int) ≤ 9223372036854775807 := by omega
  clear h1 h2 h4 h5
  go_enter Try.func33, Try.ntmps33
  go_wp2_with fail
  refine (get_any W n0 vr bs0 H2.out hn0 (by omega)).mono ?_
  rintro e w1 ⟨r, rfl, hr, hx1⟩
  have hk1 : Kept (fun k => k = Br ∨ k = Br + 1) W w1 := Ext.kept hx1 _
  have b1 : Boxed w1 Br 23 vr := (hx1.block _ H1.out.lt).trans H1.out
  have b2 : Boxed w1 (Br + 1) 4 (.bool o.isNone) := (hx1.block _ H4.out.lt).trans H4.out
  have hw := b2.cell
  have hwf := b2.frozen
  have hrc := b1.cell
  have hrf := b1.frozen
  have B1 := Lib.hid b1
  have B2 := Lib.hid b2
  have Hk1 := Lib.hid hk1
  have Hr := Lib.hid hr
  have hN := (vgN_64 bs0).lt
  have hR : (vgRest bs0).length ≤ bs0.length := by
    unfold vgRest
    split
    · rw [List.length_drop]; omega
    · simp
  have Hx1 := Lib.hid hx1
  clear b1 b2 hk1 hx1 hr
  have bad : ∀ (u : Value) (x : Option (List UInt8)), NumSt n0 L (w1.setCell ⟨Br + 1, 0, none⟩ (.bool true)) Br none ∧ Kept (fun k => k = Br ∨ k = Br + 1) W (w1.setCell ⟨Br + 1, 0, none⟩ (.bool true)) := fun _ _ => by
    have hk2 : Kept (fun k => k = Br + 1) w1 (w1.setCell ⟨Br + 1, 0, none⟩ (.bool true)) := Kept.setCell _ _ _ _ rfl
    have hx := H2.out.ext hn0 Hx1.out
    exact ⟨⟨vr, bs0, box_keep B1.out hk2 (by omega), hx.keep (Nat.le_trans hn0 Hx1.out.size) hk2 (fun k hk => by omega), h3, B2.out.set _, fun _ h => by cases h⟩, Hk1.out.trans (hk2.more fun k _ hk => .inr hk)⟩
  have Bad := Lib.hid (bad (.bool true) none)
  clear bad
  cases o with
  | none =>
    go_wp2
    go_ret
    exact ⟨rfl, Bad.out.1, Bad.out.2⟩
  | some bs =>
    obtain rfl := H5.out bs rfl
    have hdef : numO b (some bs0) = match num b bs0 with
      | none => (0, none)
      | some (n, r) => (n, some r) := rfl
    by_cases hE : vgE bs0 = 0
    · by_cases hle : vgN bs0 ≤ b
      · have hnum : num b bs0 = some (vgN bs0, vgRest bs0) := if_pos ⟨hE, hle⟩
        rw [hnum] at hdef
        have Hd := Lib.hid hdef
        rw [hE]
        generalize vgN bs0 = N at hN hle Hr Hd
        generalize vgRest bs0 = R at hR Hr Hd
        obtain ⟨Ar, cr, rfl⟩ := Hr.out.form
        have hle' : ¬(b : Int) < (N : Int) := by omega
        have hN' : (N : Int) ≤ 9223372036854775807 := by omega
        clear hdef hnum hE
        go_wp2
        go_ret
        have hk2 : Kept (fun k => k = Br) w1 (w1.setCell ⟨Br, 0, none⟩ (.slice Ar R.length cr)) := Kept.setCell _ _ _ _ rfl
        refine ⟨by rw [Hd.out]; rfl, ?_, Hk1.out.trans (hk2.more fun k _ hk => .inl hk)⟩
        rw [Hd.out]
        exact ⟨_, R, B1.out.set _, Hr.out.keep (Nat.le_trans hn0 Hx1.out.size) hk2 (fun k hk => by omega), by omega, box_keep B2.out hk2 (by omega), fun _ h => by injection h⟩
      · have hnum : num b bs0 = none := if_neg (fun h => hle h.2)
        rw [hnum] at hdef
        have Hd := Lib.hid hdef
        rw [hE]
        generalize vgN bs0 = N at hN hle Hr
        have hle' : (b : Int) < (N : Int) := by omega
        clear hdef hnum hE
        go_wp2
        go_ret
        exact ⟨by rw [Hd.out]; rfl, by rw [Hd.out]; exact Bad.out.1, Bad.out.2⟩
    · have hnum : num b bs0 = none := if_neg (fun h => hE h.1)
      rw [hnum] at hdef
      have Hd := Lib.hid hdef
      have hE' : ((vgE bs0 : Int) != 0) = true := by rw [bne_iff_ne]; omega
      generalize vgE bs0 = E at hE'
      clear hdef hnum hE
      go_wp2
      go_ret
      exact ⟨by rw [Hd.out]; rfl, by rw [Hd.out]; exact Bad.out.1, Bad.out.2⟩

end Go.Proofs.Ytccmhjlniljhcaa
