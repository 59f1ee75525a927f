/-
  Plain law: a batch's bytes are read back; no beginning of them is one's, nor are they with a byte more.
  Conditions: none.
-/
import Derived.Test.YtbnjhpknagkiaaaWk
namespace Go.Proofs.Ytbnjhpknagkiaaa
open Go.Op

theorem num_app {b n : Nat} {bs r : List UInt8} (h : num b bs = some (n, r)) (t : List UInt8) : num b (bs ++ t) = some (n, r ++ t) := by
  unfold num at h
  split at h
  · rename_i hc
    injection h with h
    injection h with h1 h2
    have h3 := vg_back hc.1
    rw [h1, h2] at h3
    have h4 : n < 18446744073709551616 := by
      have := (vgN_64 bs).lt
      rw [h1] at this
      exact this
    rw [← h3, List.append_assoc]
    exact num_enc h4 (by rw [← h1]; exact hc.2) _
  · cases h
theorem txt_app {b : Nat} {bs s r : List UInt8} (h : txt b bs = some (s, r)) (t : List UInt8) : txt b (bs ++ t) = some (s, r ++ t) := by
  unfold txt at h ⊢
  cases hn : num b bs with
  | none => rw [hn] at h; cases h
  | some x =>
    obtain ⟨n, q⟩ := x
    rw [hn] at h
    simp only at h
    rw [num_app hn t]
    simp only
    split at h
    · rename_i hle
      injection h with h
      injection h with h1 h2
      rw [if_pos (by rw [List.length_append]; omega), List.take_append_of_le_length hle, List.drop_append_of_le_length hle, h1, h2]
    · cases h
theorem fldG_app {bs r : List UInt8} {f : Fld} (h : fldG bs = some (f, r)) (t : List UInt8) : fldG (bs ++ t) = some (f, r ++ t) := by
  unfold fldG at h ⊢
  cases h1 : txt 32 bs with
  | none => rw [h1] at h; cases h
  | some x =>
    obtain ⟨s, q⟩ := x
    rw [h1] at h
    simp only at h
    rw [txt_app h1 t]
    simp only
    cases h2 : txt 4096 q with
    | none => rw [h2] at h; cases h
    | some y =>
      obtain ⟨s2, q2⟩ := y
      rw [h2] at h
      simp only at h
      rw [txt_app h2 t]
      injection h with h
      injection h with h3 h4
      simp only [h3, h4]
theorem fldsG_app : ∀ {n : Nat} {bs r : List UInt8} {l : List Fld}, fldsG n bs = some (l, r) → ∀ t, fldsG n (bs ++ t) = some (l, r ++ t)
  | 0, bs, r, l, h, t => by
    simp only [fldsG] at h ⊢
    injection h with h
    injection h with h1 h2
    rw [h1, h2]
  | n + 1, bs, r, l, h, t => by
    simp only [fldsG] at h ⊢
    cases h1 : fldG bs with
    | none => rw [h1] at h; cases h
    | some x =>
      obtain ⟨f, q⟩ := x
      rw [h1] at h
      simp only at h
      rw [fldG_app h1 t]
      simp only
      cases h2 : fldsG n q with
      | none => rw [h2] at h; cases h
      | some y =>
        obtain ⟨l2, q2⟩ := y
        rw [h2] at h
        simp only at h
        rw [fldsG_app h2 t]
        injection h with h
        injection h with h3 h4
        simp only [h3, h4]
theorem evG_app {bs r : List UInt8} {e : Ev} (h : evG bs = some (e, r)) (t : List UInt8) : evG (bs ++ t) = some (e, r ++ t) := by
  by_cases hE : vgE bs = 0
  · have h3 := vg_back hE
    obtain ⟨g1, g2, g3⟩ := vg_enc (vgN_64 bs) (vgRest bs ++ t)
    rw [← List.append_assoc, h3] at g1 g2 g3
    unfold evG at h ⊢
    rw [if_pos hE] at h
    rw [if_pos g2, g1, g3]
    cases h1 : num 16 (vgRest bs) with
    | none => rw [h1] at h; cases h
    | some x =>
      obtain ⟨n, q⟩ := x
      rw [h1] at h
      simp only at h
      rw [num_app h1 t]
      simp only
      cases h2 : fldsG n q with
      | none => rw [h2] at h; cases h
      | some y =>
        obtain ⟨l, q2⟩ := y
        rw [h2] at h
        simp only at h
        rw [fldsG_app h2 t]
        simp only
        split at h
        · rename_i h5
          rw [if_pos h5]
          injection h with h
          injection h with h6 h7
          rw [h6, h7]
        · cases h
  · rw [evG_err hE] at h
    cases h
theorem evsR_app : ∀ {n : Nat} {acc l : List Ev} {bs r : List UInt8}, evsR n acc bs = some (l, r) → ∀ t, evsR n acc (bs ++ t) = some (l, r ++ t)
  | 0, acc, l, bs, r, h, t => by
    simp only [evsR] at h ⊢
    injection h with h
    injection h with h1 h2
    rw [h1, h2]
  | n + 1, acc, l, bs, r, h, t => by
    simp only [evsR] at h ⊢
    cases h1 : evG bs with
    | none => rw [h1] at h; cases h
    | some x =>
      obtain ⟨e, q⟩ := x
      rw [h1] at h
      simp only at h
      rw [evG_app h1 t]
      exact evsR_app h t
theorem evsR_by : ∀ {l : List Ev} (acc : List Ev), (∀ e ∈ l, evE e = 0 ∧ I64 e.1) → ∀ r, evsR l.length acc (bby l ++ r) = some (acc ++ l, r)
  | [], acc, _, r => by simp [evsR, bby]
  | e :: l, acc, h, r => by
    obtain ⟨h1, h2⟩ := h e (by simp)
    simp only [List.length_cons, evsR, bby, List.append_assoc]
    rw [evG_by h1 h2]
    simp only
    rw [evsR_by (acc ++ [e]) fun x hx => h x (by simp [hx])]
    simp
/-- what bytes hold, ahead of the last tests -/
def batP (bs : List UInt8) : Option (Nat × List Ev × List UInt8) := match num 1099511627776 bs with
  | none => none
  | some (s, r) => match num 64 r with
    | none => none
    | some (n, q) => match evsR n [] q with
      | none => none
      | some (l, t) => some (s, l, t)
theorem batG_P (bs : List UInt8) : batG bs = match batP bs with
    | none => none
    | some (s, l, t) => if t.length = 0 ∧ batE ((s : Int), l) = 0 then some ((s : Int), l) else none := by
  unfold batG batP
  cases num 1099511627776 bs with
  | none => rfl
  | some x =>
    obtain ⟨s, r⟩ := x
    simp only
    cases num 64 r with
    | none => rfl
    | some y =>
      obtain ⟨n, q⟩ := y
      simp only
      cases evsR n [] q with
      | none => rfl
      | some z => rfl
theorem batP_app {bs t : List UInt8} {s : Nat} {l : List Ev} (h : batP bs = some (s, l, t)) (z : List UInt8) : batP (bs ++ z) = some (s, l, t ++ z) := by
  unfold batP at h ⊢
  cases h1 : num 1099511627776 bs with
  | none => rw [h1] at h; cases h
  | some x =>
    obtain ⟨s1, r⟩ := x
    rw [h1] at h
    simp only at h
    rw [num_app h1 z]
    simp only
    cases h2 : num 64 r with
    | none => rw [h2] at h; cases h
    | some y =>
      obtain ⟨n, q⟩ := y
      rw [h2] at h
      simp only at h
      rw [num_app h2 z]
      simp only
      cases h3 : evsR n [] q with
      | none => rw [h3] at h; cases h
      | some w =>
        obtain ⟨l2, t2⟩ := w
        rw [h3] at h
        simp only at h
        rw [evsR_app h3 z]
        injection h with h
        injection h with h4 h5
        injection h5 with h5 h6
        simp only [h4, h5, h6]
theorem batP_benc {b : Bat} (h0 : batE b = 0) (h : ∀ e ∈ b.2, EvOk e) : batP (benc b) = some (b.1.toNat, b.2, []) := by
  obtain ⟨_, h64, _, hs1, hs2⟩ := batE_spec h0
  unfold batP benc
  rw [num_enc (by omega) (by omega)]
  simp only
  rw [num_enc (by omega) h64]
  simp only
  have := evsR_by (l := b.2) [] (fun e he => ⟨(h e he).1, (h e he).2.1⟩) []
  rw [List.append_nil, List.nil_append] at this
  rw [this]
theorem batG_benc {b : Bat} (h0 : batE b = 0) (h : ∀ e ∈ b.2, EvOk e) : batG (benc b) = some b := by
  obtain ⟨_, _, _, hs1, _⟩ := batE_spec h0
  rw [batG_P, batP_benc h0 h]
  simp only
  have hb : ((b.1.toNat : Int), b.2) = b := by rw [Int.toNat_of_nonneg (by omega)]
  rw [hb, if_pos ⟨rfl, h0⟩]
theorem batG_take {b : Bat} (h0 : batE b = 0) (h : ∀ e ∈ b.2, EvOk e) {k : Nat} (hk : k < (benc b).length) : batG ((benc b).take k) = none := by
  rw [batG_P]
  cases hp : batP ((benc b).take k) with
  | none => rfl
  | some x =>
    obtain ⟨s, l, t⟩ := x
    have h1 := batP_app hp ((benc b).drop k)
    rw [List.take_append_drop, batP_benc h0 h] at h1
    injection h1 with h1
    injection h1 with _ h1
    injection h1 with _ h1
    have h2 := congrArg List.length h1
    rw [List.length_append, List.length_drop, List.length_nil] at h2
    omega
theorem batG_more {b : Bat} (h0 : batE b = 0) (h : ∀ e ∈ b.2, EvOk e) (c : UInt8) : batG (benc b ++ [c]) = none := by
  rw [batG_P, batP_app (batP_benc h0 h) [c]]
  simp
theorem benc_pos (b : Bat) : 0 < (benc b).length := by
  have := enc_pos b.1.toNat
  simp only [benc, List.length_append]
  omega
end Go.Proofs.Ytbnjhpknagkiaaa
