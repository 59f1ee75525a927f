/-
  Contract of the reference's 'get' and 'heads'; plain law: the reference's reading, step by step.
  Conditions: those of each statement.
-/
import Derived.Test.YtccmhjlniljhcaaQq
import Derived.Test.YtccmhjlniljhcaaVd
namespace Go.Proofs.Ytccmhjlniljhcaa
open Go.RowKit

theorem num_nil (b : Nat) : num b [] = none := rfl
/-- rising numbers, behind others -/
def possR (b m : Nat) (ps : List Int) (bs : List UInt8) : Option (List Int × List UInt8) := (poss b m (ilast (-1) ps) bs).map fun x => (ps ++ x.1, x.2)
theorem possR_zero (b : Nat) (ps : List Int) (bs : List UInt8) : possR b 0 ps bs = some (ps, bs) := by simp [possR, poss]
theorem possR_succ (b m : Nat) (ps : List Int) (bs : List UInt8) : possR b (m + 1) ps bs = match num b bs with
    | none => none
    | some (x, r) => possR b m (ps ++ [ilast (-1) ps + 1 + (x : Int)]) r := by
  simp only [possR, poss]
  cases h : num b bs with
  | none => rfl
  | some x =>
    obtain ⟨n, r⟩ := x
    simp only [ilast_snoc]
    cases h2 : poss b m (ilast (-1) ps + 1 + (n : Int)) r with
    | none => rfl
    | some y => simp
theorem poss_len (b : Nat) : ∀ (m : Nat) (a : Int) (bs : List UInt8) (l : List Int) (r : List UInt8), poss b m a bs = some (l, r) → l.length + r.length ≤ bs.length
  | 0, a, bs, l, r, h => by
    simp only [poss, Option.some.injEq, Prod.mk.injEq] at h
    obtain ⟨rfl, rfl⟩ := h
    simp
  | m + 1, a, bs, l, r, h => by
    simp only [poss] at h
    cases h1 : num b bs with
    | none => rw [h1] at h; cases h
    | some x =>
      obtain ⟨n, r1⟩ := x
      rw [h1] at h
      simp only at h
      cases h2 : poss b m (a + 1 + (n : Int)) r1 with
      | none => rw [h2] at h; cases h
      | some y =>
        obtain ⟨l', r2⟩ := y
        rw [h2] at h
        simp only [Option.some.injEq, Prod.mk.injEq] at h
        obtain ⟨rfl, rfl⟩ := h
        have := poss_len b m _ r1 l' r2 h2
        have := num_len h1
        simp only [List.length_cons]
        omega
/-- the post that stands first -/
def postP (ahead : Int) (bs : List UInt8) : Option (Post × List UInt8) := match num 65535 bs with
  | none => none
  | some (d, r) => match num 1048576 r with
    | none => none
    | some (c, r2) => if c ≤ r2.length then match poss 1048575 c (-1) r2 with
        | none => none
        | some (ps, r3) => some ((ahead + 1 + (d : Int), ps), r3)
      else none
theorem postP_len {ahead : Int} {bs r : List UInt8} {p : Post} (h : postP ahead bs = some (p, r)) : p.2.length + 2 + r.length ≤ bs.length ∧ ahead < p.1 ∧ p.1 ≤ ahead + 65536 := by
  unfold postP at h
  cases h1 : num 65535 bs with
  | none => rw [h1] at h; cases h
  | some x =>
    obtain ⟨d, r1⟩ := x
    rw [h1] at h
    simp only at h
    cases h2 : num 1048576 r1 with
    | none => rw [h2] at h; cases h
    | some y =>
      obtain ⟨c, r2⟩ := y
      rw [h2] at h
      simp only at h
      split at h
      · cases h3 : poss 1048575 c (-1) r2 with
        | none => rw [h3] at h; cases h
        | some z =>
          obtain ⟨ps, r3⟩ := z
          rw [h3] at h
          simp only [Option.some.injEq, Prod.mk.injEq] at h
          obtain ⟨rfl, rfl⟩ := h
          have := poss_len _ _ _ _ _ _ h3
          have := num_len h1
          have := num_len h2
          simp only
          omega
      · cases h
def postsR (m : Nat) (l : List Post) (bs : List UInt8) : Option (List Post) := (posts 65535 1048576 1048575 (fun c r => decide (c ≤ r.length)) m (plast (-1) l) bs).map fun x => l ++ x.1
theorem postsR_zero (l : List Post) (bs : List UInt8) : postsR 0 l bs = some l := by simp [postsR, posts]
theorem postsR_succ (m : Nat) (l : List Post) (bs : List UInt8) : postsR (m + 1) l bs = match postP (plast (-1) l) bs with
    | none => none
    | some (p, r) => postsR m (l ++ [p]) r := by
  simp only [postsR, posts, postP]
  cases h1 : num 65535 bs with
  | none => rfl
  | some x =>
    obtain ⟨d, r1⟩ := x
    simp only
    cases h2 : num 1048576 r1 with
    | none => rfl
    | some y =>
      obtain ⟨c, r2⟩ := y
      simp only [decide_eq_true_eq]
      by_cases hc : c ≤ r2.length
      · rw [if_pos hc, if_pos hc]
        cases h3 : poss 1048575 c (-1) r2 with
        | none => rfl
        | some z =>
          obtain ⟨ps, r3⟩ := z
          simp only [plast_snoc]
          cases h4 : posts 65535 1048576 1048575 (fun c r => decide (c ≤ r.length)) m (plast (-1) l + 1 + (d : Int)) r3 with
          | none => rfl
          | some t => simp
      · rw [if_neg hc, if_neg hc]
        rfl
theorem pref_eq (bs : List UInt8) : pref bs = match num 65536 bs with
    | none => none
    | some (n, r) => if n ≤ bs.length then match hds 65535 1099511627776 ((n + 31) / 32) r with
        | none => none
        | some r2 => postsR n [] r2
      else none := by
  unfold pref parse
  cases h : num 65536 bs with
  | none => rfl
  | some x =>
    obtain ⟨n, r⟩ := x
    simp only [decide_eq_true_eq]
    by_cases hc : n ≤ bs.length
    · rw [if_pos hc, if_pos hc]
      cases h2 : hds 65535 1099511627776 ((n + 31) / 32) r with
      | none => rfl
      | some r2 => simp [postsR, plast]
    · rw [if_neg hc, if_neg hc]

/-- a number of at most so much, by the reference -/
def NumIs (n0 : Nat) (W' : World) (e : Ending) : Option (Nat × List UInt8) → Prop
  | none => e = .returned (.tuple #[.int .i64 0, .slice none 0 0, .bool false])
  | some (n, r) => ∃ u, e = .returned (.tuple #[.int .i64 n, u, .bool true]) ∧ BS W' n0 u r
set_option maxHeartbeats 1600000 in
set_option maxRecDepth 100000 in
theorem rnum_any (n0 : Nat) (W : World) (v : Value) (bs : List UInt8) (b : Nat) (hv : BS W n0 v bs) (hn : n0 ≤ W.heap.size) (hL : bs.length ≤ 1000000) (hb : b ≤ 9223372036854775807) :
    Calls Try.prog 36 #[v, .int .i64 b] W fun e W' => NumIs n0 W' e (num b bs) ∧ Ext W W' := by
  have Hv := Lib.hid hv
  have hb' : (b : Int) ≤ 9223372036854775807 := by omega
  clear hv
  go_enter Try.func36, Try.ntmps36
  go_wp2_with fail
  refine (rget_any W n0 v bs Hv.out hn (by omega)).mono ?_
  rintro e w1 ⟨r, rfl, hr, hx1⟩
  have Hr := Lib.hid hr
  have hN := (vgN_64 bs).lt
  have Hx1 := Lib.hid hx1
  clear hx1 hr
  by_cases hE : vgE bs = 0
  · by_cases hle : vgN bs ≤ b
    · have hnum : num b bs = some (vgN bs, vgRest bs) := if_pos ⟨hE, hle⟩
      rw [hE]
      generalize vgN bs = N at hN hle hnum
      have hle' : ¬(b : Int) < (N : Int) := by omega
      have hN' : (N : Int) ≤ 9223372036854775807 := by omega
      have Hnum := Lib.hid hnum
      clear hnum hE
      go_wp2
      go_ret3
      rw [Hnum.out]
      exact ⟨⟨_, rfl, Hr.out⟩, Hx1.out⟩
    · have hnum : num b bs = none := if_neg (fun h => hle h.2)
      rw [hE]
      generalize vgN bs = N at hN hle
      have hle' : (b : Int) < (N : Int) := by omega
      have Hnum := Lib.hid hnum
      clear hnum hE
      go_wp2
      go_ret3
      rw [Hnum.out]
      exact ⟨rfl, Hx1.out⟩
  · have hnum : num b bs = none := if_neg (fun h => hE h.1)
    have hE' : ((vgE bs : Int) != 0) = true := by rw [bne_iff_ne]; omega
    generalize vgE bs = E at hE'
    have Hnum := Lib.hid hnum
    clear hnum hE
    go_wp2
    go_ret3
    rw [Hnum.out]
    exact ⟨rfl, Hx1.out⟩

/-- what stands behind the heads, by the reference -/
def HdsIs (n0 : Nat) (W' : World) (e : Ending) : Option (List UInt8) → Prop
  | none => e = .returned (.tuple #[.slice none 0 0, .bool false])
  | some r => ∃ u, e = .returned (.tuple #[u, .bool true]) ∧ BS W' n0 u r
theorem hds_succ (b1 b2 m : Nat) (bs : List UInt8) : hds b1 b2 (m + 1) bs = match num b1 bs with
    | none => none
    | some (_, r) => match num b2 r with
      | none => none
      | some (_, r2) => hds b1 b2 m r2 := rfl
set_option maxHeartbeats 3200000 in
set_option maxRecDepth 100000 in
theorem rheads_any (n0 : Nat) (W : World) (v : Value) (bs : List UInt8) (n : Nat) (hv : BS W n0 v bs) (hn : n0 ≤ W.heap.size) (hL : bs.length ≤ 1000000) (hb : n ≤ 65536) :
    Calls Try.prog 37 #[v, .int .i64 n] W fun e W' => HdsIs n0 W' e (hds 65535 1099511627776 ((n + 31) / 32) bs) ∧ Ext W W' := by
  have Hv := Lib.hid hv
  clear hv
  go_enter Try.func37, Try.ntmps37
  go_wp2_with fail
  go_loopw [0, 6] (fun v i wr => ∃ (q : Nat) (r : List UInt8), i = .int .i64 (32 * q : Nat) ∧ 32 * q ≤ n + 31 ∧ BS wr n0 v r ∧ r.length ≤ bs.length ∧ Ext W wr ∧ hds 65535 1099511627776 ((n + 31) / 32 - q) r = hds 65535 1099511627776 ((n + 31) / 32) bs) (fun _ i _ => n + 31 - (intOf i).toNat)
  case atStart => exact ⟨0, bs, rfl, Nat.zero_le _, Hv.out, Nat.le_refl _, Below.refl _ _, rfl⟩
  case round =>
    obtain ⟨q, r, rfl, hq, hr, hrl, hx, hh⟩ := hrel
    have hsz := hx.size
    have Hr := Lib.hid hr
    have Hx := Lib.hid hx
    have Hh := Lib.hid hh
    clear hr hx hh
    by_cases hlq : 32 * q < n
    · have hql : ((32 * q : Nat) : Int) < (n : Int) := by omega
      have hs := hds_succ 65535 1099511627776 ((n + 31) / 32 - (q + 1)) r
      rw [show (n + 31) / 32 - (q + 1) + 1 = (n + 31) / 32 - q from by omega, Hh.out] at hs
      generalize hI : 32 * q = I at hql hq hlq
      have Hs := Lib.hid hs
      clear hs
      go_wp2_with fail
      refine (rnum_any n0 wr _ r 65535 Hr.out (by omega) (by omega) (by decide)).mono ?_
      rintro e w2 ⟨h2, hx2⟩
      have Hx2 := Lib.hid (Ext.trans Hx.out hx2)
      clear hx2
      have hsz2 := Hx2.out.size
      cases hn1 : num 65535 r with
      | none =>
        rw [hn1] at h2
        obtain rfl := h2
        rw [hn1] at Hs
        go_wp2_with fail
        refine (rnum_any n0 w2 _ [] 1099511627776 (BS.nil_ _ _) (by omega) (by simp) (by decide)).mono ?_
        rintro e w3 ⟨h3, hx3⟩
        rw [num_nil] at h3
        obtain rfl := h3
        have Hx3 := Lib.hid (Ext.trans Hx2.out hx3)
        clear hx3
        go_wp2
        go_ret2
        rw [Hs.out]
        exact ⟨rfl, Hx3.out⟩
      | some x =>
        obtain ⟨a, r1⟩ := x
        rw [hn1] at h2 Hs
        obtain ⟨u, rfl, h2⟩ := h2
        have hl1 := num_len hn1
        have H2 := Lib.hid h2
        have ha : (a : Int) ≤ 65535 := by omega
        clear h2 hn1
        go_wp2_with fail
        refine (rnum_any n0 w2 _ r1 1099511627776 H2.out (by omega) (by omega) (by decide)).mono ?_
        rintro e w3 ⟨h3, hx3⟩
        have Hx3 := Lib.hid (Ext.trans Hx2.out hx3)
        clear hx3
        cases hn2 : num 1099511627776 r1 with
        | none =>
          rw [hn2] at h3
          obtain rfl := h3
          simp only [hn2] at Hs
          go_wp2
          go_ret2
          rw [Hs.out]
          exact ⟨rfl, Hx3.out⟩
        | some y =>
          obtain ⟨c, r2⟩ := y
          rw [hn2] at h3
          simp only [hn2] at Hs
          obtain ⟨u3, rfl, h3⟩ := h3
          have hl2 := num_len hn2
          have H3 := Lib.hid h3
          clear h3 hn2
          go_wp2_with fail
          go_roundw
          case rel => exact ⟨q + 1, r2, congrArg (Value.int .i64) (by omega), by omega, H3.out, by omega, Hx3.out, Hs.out.symm⟩
          case measure => simp only [intOf]; omega
    · have hql : ¬((32 * q : Nat) : Int) < (n : Int) := by omega
      rw [show (n + 31) / 32 - q = 0 from by omega] at Hh
      generalize 32 * q = I at hql hq hlq
      go_wp2
      go_ret2
      rw [← Hh.out]
      exact ⟨⟨_, rfl, Hr.out⟩, Hx.out⟩

end Go.Proofs.Ytccmhjlniljhcaa
