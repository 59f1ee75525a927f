/-
  Plain law: a row's bytes, read, are the row.
  Conditions: those of each statement.
-/
import Derived.Test.YtccmhjlniljhcaaQe
import Derived.Test.YtccmhjlniljhcaaVq
namespace Go.Proofs.Ytccmhjlniljhcaa

/-- a number of at most so much -/
def num (b : Nat) (bs : List UInt8) : Option (Nat × List UInt8) := if vgE bs = 0 ∧ vgN bs ≤ b then some (vgN bs, vgRest bs) else none
theorem num_enc {b n : Nat} (hn : n < 18446744073709551616) (h : n ≤ b) (r : List UInt8) : num b (enc n ++ r) = some (n, r) := by
  obtain ⟨h1, h2, h3⟩ := vg_enc (U64.mk hn) r
  unfold num
  rw [h1, h2, h3, if_pos ⟨rfl, h⟩]
theorem num_len {b n : Nat} {bs r : List UInt8} (h : num b bs = some (n, r)) : r.length + 1 ≤ bs.length ∧ n ≤ b := by
  unfold num at h
  split at h
  · rename_i hc
    injection h with h
    injection h with h1 h2
    subst h1
    subst h2
    have := vg_back hc.1
    have h3 := congrArg List.length this
    rw [List.length_append] at h3
    have := enc_pos (vgN bs)
    exact ⟨by omega, hc.2⟩
  · cases h
/-- the blocks' heads -/
def hds (b1 b2 : Nat) : Nat → List UInt8 → Option (List UInt8)
  | 0, bs => some bs
  | m + 1, bs => match num b1 bs with
    | none => none
    | some (_, r) => match num b2 r with
      | none => none
      | some (_, r2) => hds b1 b2 m r2
/-- rising numbers -/
def poss (b : Nat) : Nat → Int → List UInt8 → Option (List Int × List UInt8)
  | 0, _, bs => some ([], bs)
  | m + 1, at_, bs => match num b bs with
    | none => none
    | some (x, r) => match poss b m (at_ + 1 + x) r with
      | none => none
      | some (l, r2) => some ((at_ + 1 + x) :: l, r2)
/-- posts; q: a further look at how many places there are -/
def posts (b1 b2 b3 : Nat) (q : Nat → List UInt8 → Bool) : Nat → Int → List UInt8 → Option (List Post × List UInt8)
  | 0, _, bs => some ([], bs)
  | m + 1, last, bs => match num b1 bs with
    | none => none
    | some (d, r) => match num b2 r with
      | none => none
      | some (c, r2) => if q c r2 = true then match poss b3 c (-1) r2 with
          | none => none
          | some (ps, r3) => match posts b1 b2 b3 q m (last + 1 + d) r3 with
            | none => none
            | some (l, r4) => some ((last + 1 + d, ps) :: l, r4)
        else none
theorem poss_stp (b : Nat) : ∀ (ps : List Int) (at_ : Int) (r : List UInt8), ris at_ (b + 1) ps = true → -1 ≤ at_ → (b : Int) ≤ 1099511627776 → poss b ps.length at_ (stp at_ ps ++ r) = some (ps, r)
  | [], _, _, _, _, _ => rfl
  | n :: ps, at_, r, h, ha, hb => by
    obtain ⟨h1, h2, h3⟩ := ris_cons.1 h
    have e : at_ + 1 + ((n - at_ - 1).toNat : Int) = n := by omega
    simp only [stp, List.length_cons, poss, List.append_assoc]
    rw [num_enc (by omega) (by omega)]
    simp only [e]
    rw [poss_stp b ps n r h3 (by omega) hb]
theorem posts_psby (b1 b2 b3 : Nat) (q : Nat → List UInt8 → Bool) (hb1 : 65535 ≤ b1) (hb3 : 1048575 ≤ b3) (hb3' : (b3 : Int) ≤ 1099511627776) (hq : ∀ (ps : List Int) (r : List UInt8), q ps.length (stp (-1) ps ++ r) = true) :
    ∀ (l : List Post) (last : Int) (r : List UInt8), ris last 65536 (l.map (·.1)) = true → (∀ p ∈ l, ris (-1) 1048576 p.2 = true ∧ p.2.length ≤ b2) → -1 ≤ last → (b2 : Int) < 18446744073709551616 →
    posts b1 b2 b3 q l.length last (psby last l ++ r) = some (l, r)
  | [], _, _, _, _, _, _ => rfl
  | p :: l, last, r, h, hp, hl, hb2 => by
    obtain ⟨h1, h2, h3⟩ := ris_cons.1 h
    have hpp := hp p (by simp)
    obtain ⟨d, ps⟩ := p
    dsimp only at h1 h2 h3 hpp
    have e : last + 1 + ((d - last - 1).toNat : Int) = d := by omega
    have hr3 : ris (-1) (b3 + 1) ps = true := by
      have : ∀ (zs : List Int) (a b c : Int), ris a b zs = true → b ≤ c → ris a c zs = true := by
        intro zs
        induction zs with
        | nil => intro a b c _ _; rfl
        | cons n zs ih =>
          intro a b c h hbc
          obtain ⟨g1, g2, g3⟩ := ris_cons.1 h
          exact ris_cons.2 ⟨g1, by omega, ih _ _ _ g3 hbc⟩
      exact this ps (-1) 1048576 (b3 + 1) hpp.1 (by omega)
    simp only [psby, pby, List.length_cons, posts, List.append_assoc]
    rw [num_enc (by omega) (by omega)]
    simp only
    rw [num_enc (by omega) hpp.2]
    simp only
    rw [if_pos (hq ps _), poss_stp b3 ps (-1) _ hr3 (by omega) hb3']
    simp only [e]
    rw [posts_psby b1 b2 b3 q hb1 hb3 hb3' hq l d r h3 (fun p hp' => hp p (by simp [hp'])) (by omega) hb2]
theorem hds_blks (b1 b2 : Nat) (hb1 : 65535 ≤ b1) : ∀ (n : Nat) (last : Int) (l : List Post) (r : List UInt8), ris last 65536 (l.map (·.1)) = true → (∀ p ∈ l, ris (-1) 1048576 p.2 = true) → -1 ≤ last → wt l ≤ 1000000 →
    (∀ m, m ≤ (blks n last l).2.length → m ≤ b2) → hds b1 b2 ((l.length + 31) / 32 - ((l.length - 32 * n + 31) / 32)) ((blks n last l).1 ++ r) = some r
  | 0, last, l, r, _, _, _, _, _ => by
    rw [show (l.length + 31) / 32 - ((l.length - 32 * 0 + 31) / 32) = 0 from by omega]
    simp [blks, hds]
  | n + 1, last, l, r, h, hp, hl, hw, hb => by
    by_cases h0 : l.length = 0
    · have : l = [] := List.eq_nil_of_length_eq_zero h0
      subst this
      simp [blks, hds]
    · have h1 : ris last 65536 ((l.take 32).map (·.1)) = true := by
        have := h
        rw [← List.take_append_drop 32 l, List.map_append] at this
        exact ris_left this
      have h2 := ris_drop (l.map (·.1)) last 65536 32 h
      rw [← List.map_take, ← List.map_drop, ← plast_eq] at h2
      have h3 := ilast_ge _ _ _ h1
      rw [← plast_eq] at h3
      have hne : l.take 32 ≠ [] := by
        intro e
        have := congrArg List.length e
        rw [List.length_take, List.length_nil] at this
        omega
      have h4 : plast last (l.take 32) < 65536 := h3.2 (by simpa using hne)
      have h5 : 0 ≤ plast last (l.take 32) := by
        cases l with
        | nil => simp at h0
        | cons p l =>
          rw [List.take_succ_cons, List.map_cons] at h1
          obtain ⟨g1, g2, g3⟩ := ris_cons.1 h1
          have := (ilast_ge _ _ _ g3).1
          rw [← plast_eq] at this
          rw [List.take_succ_cons]
          show 0 ≤ plast p.1 (l.take 31)
          omega
      have hs := wt_le l 32
      have h6 := psby_len (l.take 32) last h1 (fun p hp' => hp p (List.mem_of_mem_take hp')) hl (by omega)
      have i := hds_blks b1 b2 hb1 n (plast last (l.take 32)) (l.drop 32) r h2 (fun p hp' => hp p (List.mem_of_mem_drop hp')) (by omega) (by omega) (fun m hm => hb m (by
        rw [blks_next n last h0]
        simp only [List.length_append]
        omega))
      have hbb : (psby last (l.take 32)).length ≤ b2 := hb _ (by
        rw [blks_next n last h0]
        simp only [List.length_append]
        omega)
      have hm : (l.length + 31) / 32 - ((l.length - 32 * (n + 1) + 31) / 32) = ((l.drop 32).length + 31) / 32 - (((l.drop 32).length - 32 * n + 31) / 32) + 1 := by
        rw [List.length_drop]
        omega
      rw [hm, blks_next n last h0]
      simp only [hds, List.append_assoc]
      rw [num_enc (by omega) (by omega)]
      simp only
      rw [num_enc (by omega) hbb]
      simp only
      exact i

end Go.Proofs.Ytccmhjlniljhcaa
