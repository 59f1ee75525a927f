/-
  Plain law: what bytes are a row's; the two decoders' readings.
  Conditions: at most 20,000 bytes.
-/
import Derived.Test.YtccmhjlniljhcaaQm
namespace Go.Proofs.Ytccmhjlniljhcaa

def parse (bn b1h b2h b1 b2 b3 : Nat) (qn : Nat → Bool) (q : Nat → List UInt8 → Bool) (bs : List UInt8) : Option (List Post) :=
  match num bn bs with
  | none => none
  | some (n, r) => if qn n = true then match hds b1h b2h ((n + 31) / 32) r with
      | none => none
      | some r2 => (posts b1 b2 b3 q n (-1) r2).map (·.1)
    else none
theorem blks_body : ∀ (n : Nat) (last : Int) (l : List Post), l.length ≤ 32 * n → (blks n last l).2 = psby last l
  | 0, last, l, h => by
    have : l = [] := List.eq_nil_of_length_eq_zero (by omega)
    subst this
    rfl
  | n + 1, last, l, h => by
    by_cases h0 : l.length = 0
    · have : l = [] := List.eq_nil_of_length_eq_zero h0
      subst this
      simp [blks, psby]
    · rw [blks_next n last h0]
      simp only
      rw [blks_body n _ (l.drop 32) (by rw [List.length_drop]; omega)]
      have : ∀ (a b : List Post) (x : Int), psby x (a ++ b) = psby x a ++ psby (plast x a) b := by
        intro a
        induction a with
        | nil => intro b x; rfl
        | cons p a ih =>
          intro b x
          simp only [List.cons_append, psby, plast, ih, List.append_assoc]
      rw [← this, List.take_append_drop]
theorem stp_ge : ∀ (ps : List Int) (last : Int), ps.length ≤ (stp last ps).length
  | [], _ => by simp [stp]
  | n :: ps, last => by
    have h1 := stp_ge ps n
    have h2 := enc_pos (n - last - 1).toNat
    simp only [stp, List.length_append, List.length_cons]
    omega
theorem psby_ge : ∀ (l : List Post) (last : Int), wt l ≤ 10 * (psby last l).length
  | [], _ => by simp [wt]
  | p :: l, last => by
    have h1 := psby_ge l p.1
    have h2 := enc_pos (p.1 - last - 1).toNat
    have h3 := enc_pos p.2.length
    have h4 := stp_ge p.2 (-1)
    simp only [psby, pby, List.length_append, wt_cons]
    omega
theorem penc_len (l : List Post) : wt l ≤ 10 * (penc l).length ∧ (blks l.length (-1) l).2.length ≤ (penc l).length ∧ l.length ≤ (penc l).length := by
  have h1 := psby_ge l (-1)
  have h2 := blks_body l.length (-1) l (by omega)
  have h3 := wt_len l
  unfold penc
  rw [h2]
  simp only [List.length_append]
  omega
theorem parse_penc (bn b1h b2h b1 b2 b3 : Nat) (qn : Nat → Bool) (q : Nat → List UInt8 → Bool) {l : List Post} (hok : psOk l = true) (hw : wt l ≤ 1000000) (hbn : l.length ≤ bn) (h1h : 65535 ≤ b1h) (h2h : (blks l.length (-1) l).2.length ≤ b2h) (hb1 : 65535 ≤ b1) (hb2 : ∀ p ∈ l, p.2.length ≤ b2)
    (hb2' : (b2 : Int) < 18446744073709551616) (hb3 : 1048575 ≤ b3) (hb3' : (b3 : Int) ≤ 1099511627776) (hqn : qn l.length = true) (hq : ∀ (ps : List Int) (r : List UInt8), q ps.length (stp (-1) ps ++ r) = true) : parse bn b1h b2h b1 b2 b3 qn q (penc l) = some l := by
  obtain ⟨hdoc, hpos⟩ := psOk_spec hok
  have hwl := wt_len l
  unfold parse penc
  rw [List.append_assoc, num_enc (by omega) hbn]
  simp only
  rw [if_pos hqn]
  have hh := hds_blks b1h b2h h1h l.length (-1) l (blks l.length (-1) l).2 hdoc (fun p hp => (hpos p hp).2) (by decide) hw (fun m hm => by omega)
  rw [show (l.length + 31) / 32 - ((l.length - 32 * l.length + 31) / 32) = (l.length + 31) / 32 from by omega] at hh
  rw [hh]
  simp only
  rw [blks_body l.length (-1) l (by omega)]
  have hp := posts_psby b1 b2 b3 q hb1 hb3 hb3' hq l (-1) [] hdoc (fun p hp => ⟨(hpos p hp).2, hb2 p hp⟩) (by decide) hb2'
  rw [List.append_nil] at hp
  rw [hp]
  rfl

/-- the program's reading -/
def pcode (bs : List UInt8) : Option (List Post) := parse 65536 65536 bs.length 65536 (min 1048576 bs.length) 1048576 (fun _ => true) (fun _ _ => true) bs
/-- the reference's -/
def pref (bs : List UInt8) : Option (List Post) := parse 65536 65535 1099511627776 65535 1048576 1048575 (fun n => decide (n ≤ bs.length)) (fun c r => decide (c ≤ r.length)) bs
theorem mem_len {l : List Post} {p : Post} (h : p ∈ l) : p.2.length ≤ (penc l).length := by
  have h1 := wt_mem h
  have h2 := (penc_len l).1
  omega
theorem pcode_penc {l : List Post} (hok : psOk l = true) (hl : (penc l).length ≤ 20000) : pcode (penc l) = some l := by
  obtain ⟨h1, h2, h3⟩ := penc_len l
  refine parse_penc _ _ _ _ _ _ _ _ hok (by omega) (by omega) (by omega) h2 (by omega) (fun p hp => ?_) (by omega) (by omega) (by omega) rfl (fun _ _ => rfl)
  have := mem_len hp
  omega
theorem pref_penc {l : List Post} (hok : psOk l = true) (hl : (penc l).length ≤ 20000) : pref (penc l) = some l := by
  obtain ⟨h1, h2, h3⟩ := penc_len l
  refine parse_penc _ _ _ _ _ _ _ _ hok (by omega) (by omega) (by omega) (by omega) (by omega) (fun p hp => ?_) (by omega) (by omega) (by omega) (decide_eq_true h3) (fun ps r => ?_)
  · have := mem_len hp
    omega
  · have := stp_ge ps (-1)
    exact decide_eq_true (by rw [List.length_append]; omega)

/-- l, e: what the bytes b are: the row whose bytes they are; or none's -/
def DecIs (b : List UInt8) (l : List Post) (e : Nat) : Prop := (e = 0 ∧ psOk l = true ∧ penc l = b) ∨ (e = 80 ∧ l = [] ∧ ∀ m, psOk m = true → penc m ≠ b)
theorem penc_inj {l m : List Post} (hl : psOk l = true) (hm : psOk m = true) (h : penc l = penc m) (hb : (penc l).length ≤ 20000) : l = m := by
  have h1 := pcode_penc hl hb
  rw [h, pcode_penc hm (by rw [← h]; exact hb)] at h1
  injection h1 with h1
  exact h1.symm
theorem DecIs.unique {b : List UInt8} {l m : List Post} {e f : Nat} (hb : b.length ≤ 20000) (h : DecIs b l e) (k : DecIs b m f) : l = m ∧ e = f := by
  rcases h with ⟨rfl, h1, h2⟩ | ⟨rfl, rfl, h3⟩ <;> rcases k with ⟨rfl, k1, k2⟩ | ⟨rfl, rfl, k3⟩
  · exact ⟨penc_inj h1 k1 (h2.trans k2.symm) (by rw [h2]; exact hb), rfl⟩
  · exact absurd h2 (k3 l h1)
  · exact absurd k2 (h3 m k1)
  · exact ⟨rfl, rfl⟩
/-- what no reading reads is none's -/
theorem dec_none {b : List UInt8} (hb : b.length ≤ 20000) (h : pcode b = none ∨ pref b = none) : DecIs b [] 80 := by
  refine .inr ⟨rfl, rfl, fun m hm he => ?_⟩
  subst he
  rcases h with h | h
  · rw [pcode_penc hm hb] at h; cases h
  · rw [pref_penc hm hb] at h; cases h
/-- what is read, and has other bytes, or may not be, is none's -/
theorem dec_other {b : List UInt8} {l : List Post} (hb : b.length ≤ 20000) (h : pcode b = some l ∨ pref b = some l) (ho : psOk l = false ∨ penc l ≠ b) : DecIs b [] 80 := by
  refine .inr ⟨rfl, rfl, fun m hm he => ?_⟩
  subst he
  have : m = l := by
    rcases h with h | h
    · rw [pcode_penc hm hb] at h; exact Option.some.inj h
    · rw [pref_penc hm hb] at h; exact Option.some.inj h
  subst this
  rcases ho with h | h
  · rw [hm] at h; cases h
  · exact h rfl

end Go.Proofs.Ytccmhjlniljhcaa
