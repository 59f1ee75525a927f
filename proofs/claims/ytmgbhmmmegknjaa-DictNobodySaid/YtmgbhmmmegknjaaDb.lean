/-
  Plain law: how a dictionary's bytes are read, entry by entry, by the program's reader and by the reference's.
  Conditions: those of each statement.
-/
import Derived.Test.YtmgbhmmmegknjaaDa
namespace Go.Proofs.Ytmgbhmmmegknjaa
open Go.Op

/-- what the reader has: the bytes that are left, and whether they were none -/
abbrev RSt := List UInt8 × Bool
def rdN (most : Nat) (st : RSt) : Nat × RSt := if st.2 = true then (0, st) else match num most st.1 with
  | none => (0, (st.1, true))
  | some (n, r) => (n, (r, false))
def rdT (st : RSt) : List UInt8 × RSt := if st.2 = true then ([], st) else match txt 65 st.1 with
  | none => ([], (st.1, true))
  | some (s, r) => (s, (r, false))
def rdC (last : List UInt8) (a : Nat × RSt) : Nat × RSt := if last.length < a.1 then (0, (a.2.1, true)) else a
def rdE3 (x : RSt) (t : List UInt8) : Ent × RSt := ((⟨t⟩, ((rdN 67108864 x).1 : Int), ((rdN 67108864 (rdN 67108864 x).2).1 : Int), ((rdN 67108864 (rdN 67108864 (rdN 67108864 x).2).2).1 : Int)), (rdN 67108864 (rdN 67108864 (rdN 67108864 x).2).2).2)
def rdE (last : List UInt8) (st : RSt) : Ent × RSt := rdE3 (rdT (rdC last (rdN 65 st)).2).2 (last.take (rdC last (rdN 65 st)).1 ++ (rdT (rdC last (rdN 65 st)).2).1)
theorem rdN_enc {most n : Nat} (h : n ≤ most) (hm : most < 18446744073709551616) (r : List UInt8) : rdN most (enc n ++ r, false) = (n, (r, false)) := by
  simp only [rdN, Bool.false_eq_true, if_false]
  rw [num_enc (by omega) h]
theorem rdN_le (most : Nat) (st : RSt) : (rdN most st).1 ≤ most ∧ (rdN most st).2.1.length ≤ st.1.length ∧ (st.2 = true → (rdN most st).2 = st) ∧ ((rdN most st).2.2 = false → (rdN most st).2.1.length + 1 ≤ st.1.length) := by
  unfold rdN
  split
  · rename_i h
    exact ⟨Nat.zero_le _, Nat.le_refl _, fun _ => rfl, fun h' => by simp only at h'; rw [h] at h'; cases h'⟩
  · rename_i h
    cases hn : num most st.1 with
    | none => exact ⟨Nat.zero_le _, Nat.le_refl _, fun h' => absurd h' h, fun h' => by cases h'⟩
    | some x =>
      obtain ⟨n, r⟩ := x
      have := num_len hn
      exact ⟨this.2, by simp only; omega, fun h' => absurd h' h, fun _ => this.1⟩
theorem rdT_le (st : RSt) : (rdT st).1.length ≤ 65 ∧ (rdT st).2.1.length ≤ st.1.length := by
  unfold rdT
  split
  · exact ⟨by simp, Nat.le_refl _⟩
  · cases hn : txt 65 st.1 with
    | none => exact ⟨by simp, Nat.le_refl _⟩
    | some x =>
      obtain ⟨n, r⟩ := x
      have := txt_len hn
      exact ⟨this.2, by simp only; omega⟩
theorem rdC_le (last : List UInt8) (a : Nat × RSt) : (rdC last a).1 ≤ last.length ∧ (rdC last a).2.1 = a.2.1 := by
  unfold rdC
  split
  · exact ⟨Nat.zero_le _, rfl⟩
  · exact ⟨by omega, rfl⟩
/-- an entry's term has at most 65 more bytes than the one ahead; less is left -/
theorem rdE_le (last : List UInt8) (st : RSt) : (rdE last st).1.1.b.length ≤ last.length + 65 ∧ (rdE last st).2.1.length ≤ st.1.length ∧
    (0 ≤ (rdE last st).1.2.1 ∧ (rdE last st).1.2.1 ≤ 67108864) ∧ (0 ≤ (rdE last st).1.2.2.1 ∧ (rdE last st).1.2.2.1 ≤ 67108864) ∧ (0 ≤ (rdE last st).1.2.2.2 ∧ (rdE last st).1.2.2.2 ≤ 67108864) := by
  have h1 := rdN_le 65 st
  have h2 := rdC_le last (rdN 65 st)
  have h3 := rdT_le (rdC last (rdN 65 st)).2
  have h4 := rdN_le 67108864 (rdT (rdC last (rdN 65 st)).2).2
  have h5 := rdN_le 67108864 (rdN 67108864 (rdT (rdC last (rdN 65 st)).2).2).2
  have h6 := rdN_le 67108864 (rdN 67108864 (rdN 67108864 (rdT (rdC last (rdN 65 st)).2).2).2).2
  unfold rdE rdE3
  simp only [List.length_append, List.length_take]
  rw [h2.2] at h3
  refine ⟨?_, ?_, ?_, ?_, ?_⟩ <;> omega
theorem tby_read {last t : List UInt8} (ht : t.length ≤ 65) (r : List UInt8) : rdN 65 (tby last t ++ r, false) = (sh last t, (enc (t.drop (sh last t)).length ++ (t.drop (sh last t) ++ r), false)) ∧
    rdT (enc (t.drop (sh last t)).length ++ (t.drop (sh last t) ++ r), false) = (t.drop (sh last t), (r, false)) ∧ last.take (sh last t) ++ t.drop (sh last t) = t := by
  have h1 := (sh_le last t).2
  refine ⟨?_, ?_, ?_⟩
  · unfold tby
    rw [List.append_assoc, List.append_assoc]
    exact rdN_enc (by omega) (by decide) _
  · simp only [rdT, Bool.false_eq_true, if_false]
    rw [txt_enc (by decide) (by rw [List.length_drop]; omega)]
  · rw [← sh_take, List.take_append_drop]
theorem rdE_eby {last : List UInt8} {e : Ent} (he : eOk e = true) (r : List UInt8) : rdE last (eby last e ++ r, false) = (e, (r, false)) := by
  obtain ⟨a1, a2, a3, a4⟩ := eOk_spec he
  obtain ⟨t1, t2, t3⟩ := tby_read (last := last) a1 (enc e.2.1.toNat ++ (enc e.2.2.1.toNat ++ (enc e.2.2.2.toNat ++ r)))
  have hs := (sh_le last e.1.b).1
  have e0 : eby last e ++ r = tby last e.1.b ++ (enc e.2.1.toNat ++ (enc e.2.2.1.toNat ++ (enc e.2.2.2.toNat ++ r))) := by simp only [eby, List.append_assoc]
  have c : ∀ q : RSt, rdC last (sh last e.1.b, q) = (sh last e.1.b, q) := fun q => by unfold rdC; rw [if_neg (by simp only; omega)]
  unfold rdE rdE3
  rw [e0, t1, c]
  simp only
  rw [t2]
  simp only
  rw [t3, rdN_enc (n := e.2.1.toNat) (by omega) (by decide)]
  simp only
  rw [rdN_enc (n := e.2.2.1.toNat) (by omega) (by decide)]
  simp only
  rw [rdN_enc (n := e.2.2.2.toNat) (by omega) (by decide)]
  simp only
  obtain ⟨⟨t⟩, x, y, z⟩ := e
  simp only at a2 a3 a4 ⊢
  rw [Int.toNat_of_nonneg a2.1, Int.toNat_of_nonneg a3.1, Int.toNat_of_nonneg a4.1]
/-- the reference's -/
def entR (ahead : List UInt8) (bs : List UInt8) : Option (Ent × List UInt8) :=
  match num ahead.length bs with
  | none => none
  | some (k, b1) => match txt 65 b1 with
    | none => none
    | some (s, b2) => match num 67108864 b2 with
      | none => none
      | some (x, b3) => match num 67108864 b3 with
        | none => none
        | some (y, b4) => match num 67108864 b4 with
          | none => none
          | some (z, b5) => some ((⟨ahead.take k ++ s⟩, (x : Int), (y : Int), (z : Int)), b5)
theorem entR_eby {last : List UInt8} {e : Ent} (he : eOk e = true) (hl : last.length < 18446744073709551616) (r : List UInt8) : entR last (eby last e ++ r) = some (e, r) := by
  obtain ⟨a1, a2, a3, a4⟩ := eOk_spec he
  have hs := sh_le last e.1.b
  have h3 : last.take (sh last e.1.b) ++ e.1.b.drop (sh last e.1.b) = e.1.b := by rw [← sh_take, List.take_append_drop]
  unfold entR
  simp only [eby, tby, List.append_assoc]
  rw [num_enc (by omega) hs.1]
  simp only
  rw [txt_enc (by decide) (by rw [List.length_drop]; omega)]
  simp only
  rw [num_enc (by omega) (by omega)]
  simp only
  rw [num_enc (by omega) (by omega)]
  simp only
  rw [num_enc (by omega) (by omega)]
  simp only [h3]
  obtain ⟨⟨t⟩, x, y, z⟩ := e
  simp only at a2 a3 a4 ⊢
  rw [Int.toNat_of_nonneg a2.1, Int.toNat_of_nonneg a3.1, Int.toNat_of_nonneg a4.1]
/-! ### reading and what is read -/
/-- of every row that these bytes are: n entries, i are read -/
def Mt (bs : List UInt8) (n i : Nat) (l : List Ent) (last : List UInt8) (st : RSt) : Prop :=
  ∀ m, esOk m = true → denc m = bs → n = m.length ∧ st = (rst m i, false) ∧ i ≤ m.length ∧ l = m.take i ∧ (i % 16 ≠ 0 → last = tlast [] l)
theorem Mt.start (bs : List UInt8) : Mt bs (rdN 262144 (bs, false)).1 0 [] [] (rdN 262144 (bs, false)).2 := by
  intro m hm hb
  obtain ⟨h1, h2⟩ := esOk_spec hm
  have : rdN 262144 (bs, false) = (m.length, (dblk m.length m, false)) := by
    rw [← hb]
    exact rdN_enc h2 (by decide) _
  rw [this]
  exact ⟨rfl, by rw [rst_zero], Nat.zero_le _, by simp, fun h => absurd rfl h⟩
theorem Mt.bad {bs : List UInt8} {n i : Nat} {l : List Ent} {last : List UInt8} {st : RSt} (h : Mt bs n i l last st) (hb : st.2 = true) : ∀ m, esOk m = true → denc m ≠ bs := by
  intro m hm he
  have := (h m hm he).2.1
  rw [this] at hb
  cases hb
theorem Mt.done {bs : List UInt8} {n : Nat} {l : List Ent} {last : List UInt8} {st : RSt} (h : Mt bs n n l last st) (hb : esOk l = false ∨ denc l ≠ bs) : ∀ m, esOk m = true → denc m ≠ bs := by
  intro m hm he
  obtain ⟨h1, _, _, h4, _⟩ := h m hm he
  have : l = m := by rw [h4, h1, List.take_of_length_le (Nat.le_refl _)]
  subst this
  rcases hb with hb | hb
  · rw [hm] at hb; cases hb
  · exact hb he
theorem rst_short {m : List Ent} (hm : ∀ e ∈ m, eOk e = true) : ∀ i, i ≤ m.length → (rst m i).length ≤ (denc m).length
  | 0, _ => by rw [rst_zero]; unfold denc; rw [List.length_append]; omega
  | i + 1, h => by
    have ih := rst_short hm i (by omega)
    by_cases h16 : i % 16 = 0
    · rw [rst_head (by omega) h16, List.length_append, List.length_append] at ih
      omega
    · rw [rst_next (by omega) h16, List.length_append] at ih
      omega
theorem rst_block {m : List Ent} {i : Nat} (hi : i < m.length) (h16 : i % 16 = 0) : (esby [] ((m.drop i).take 16)).length ≤ (rst m i).length := by
  obtain ⟨n, hn⟩ : ∃ n, m.length = n + 1 := ⟨m.length - 1, by omega⟩
  unfold rst
  rw [if_pos h16, hn, dblk_next n (by rw [List.length_drop]; omega)]
  simp only [List.length_append]
  omega
/-- the block's number, and the term ahead -/
def headP (L i : Nat) (last : List UInt8) (st : RSt) : List UInt8 × RSt := if i % 16 = 0 then ([], (rdN L st).2) else (last, st)
theorem Mt.next {bs : List UInt8} {n i : Nat} {l : List Ent} {last : List UInt8} {st : RSt} (h : Mt bs n i l last st) (hi : i < n) (L : Nat) (hL : bs.length ≤ L) (hL2 : L < 18446744073709551616) :
    Mt bs n (i + 1) (l ++ [(rdE (headP L i last st).1 (headP L i last st).2).1]) (rdE (headP L i last st).1 (headP L i last st).2).1.1.b (rdE (headP L i last st).1 (headP L i last st).2).2 := by
  intro m hm he
  obtain ⟨h1, h2, h3, h4, h5⟩ := h m hm he
  obtain ⟨m1, m2⟩ := esOk_spec hm
  have hmi : i < m.length := by omega
  have ok := upw_mem m1 _ (List.getElem_mem hmi)
  have hd : (rdE (headP L i last st).1 (headP L i last st).2) = (m[i], (rst m (i + 1), false)) := by
    unfold headP
    by_cases h16 : i % 16 = 0
    · have hb := rst_block hmi h16
      have hs := rst_short (upw_mem m1) i (by omega)
      rw [he] at hs
      rw [if_pos h16, h2, rst_head hmi h16, rdN_enc (by omega) hL2]
      exact rdE_eby ok _
    · rw [if_neg h16, h2, rst_next hmi h16, h5 h16, h4]
      exact rdE_eby ok _
  rw [hd]
  exact ⟨h1, rfl, by omega, by rw [h4, take_nextE m hmi], fun _ => by rw [tlast_snoc]⟩
/-- the same, by the reference -/
def stepR (L i : Nat) (last bs : List UInt8) : Option (Ent × List UInt8) := if i % 16 = 0 then (match num L bs with
    | none => none
    | some (_, r) => entR [] r) else entR last bs
theorem Mt.nextR {bs r : List UInt8} {n i : Nat} {l : List Ent} {last : List UInt8} (h : Mt bs n i l last (r, false)) (hi : i < n) (L : Nat) (hL : bs.length ≤ L) (hL2 : L < 18446744073709551616) (hla : last.length < 18446744073709551616) :
    (stepR L i last r = none → ∀ m, esOk m = true → denc m ≠ bs) ∧ (∀ e q, stepR L i last r = some (e, q) → Mt bs n (i + 1) (l ++ [e]) e.1.b (q, false)) := by
  have key : ∀ m, esOk m = true → denc m = bs → ∃ h : i < m.length, stepR L i last r = some (m[i], rst m (i + 1)) := by
    intro m hm he
    obtain ⟨h1, h2, h3, h4, h5⟩ := h m hm he
    obtain ⟨m1, m2⟩ := esOk_spec hm
    have hmi : i < m.length := by omega
    have ok := upw_mem m1 _ (List.getElem_mem hmi)
    injection h2 with h2 _
    refine ⟨hmi, ?_⟩
    unfold stepR
    by_cases h16 : i % 16 = 0
    · have hb := rst_block hmi h16
      have hs := rst_short (upw_mem m1) i (by omega)
      rw [he] at hs
      rw [if_pos h16, h2, rst_head hmi h16, num_enc (by omega) (by omega)]
      exact entR_eby ok (by simp) _
    · rw [if_neg h16, h2, rst_next hmi h16, ← h4, ← h5 h16]
      exact entR_eby ok hla _
  refine ⟨fun hn m hm he => ?_, fun e q hs m hm he => ?_⟩
  · obtain ⟨_, hk⟩ := key m hm he
    rw [hn] at hk
    cases hk
  · obtain ⟨hmi, hk⟩ := key m hm he
    obtain ⟨h1, h2, h3, h4, h5⟩ := h m hm he
    rw [hs] at hk
    injection hk with hk
    injection hk with hk1 hk2
    subst hk1
    subst hk2
    exact ⟨h1, rfl, by omega, by rw [h4, take_nextE m hmi], fun _ => by rw [tlast_snoc]⟩
end Go.Proofs.Ytmgbhmmmegknjaa
