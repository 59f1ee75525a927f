/-
  Plain law of reading a stored row.
  Conditions: at most 2^40 bytes.
-/
import Derived.Test.YtnajmpkdeenkbaaEk
namespace Go.Proofs.Ytnajmpkdeenkbaa
open Go.Op

/-- no row has these bytes -/
def NoRow (bs : List UInt8) : Prop := ∀ m, Row m → senc m ≠ bs
/-- i numbers of the head are read -/
def RdB (bs : List UInt8) (n i : Nat) (rest : List UInt8) : Prop := ∃ ns : List Nat, ns.length = i ∧ (∀ x ∈ ns, x < 18446744073709551616) ∧ bs = enc n ++ (encs ns ++ rest)
/-- the docs l are read -/
def RdC (bs : List UInt8) (n : Nat) (l : List Doc) (rest : List UInt8) : Prop := DocsR 0 l ∧ ∃ ns : List Nat, ns.length = 2 * nbk n ∧ (∀ x ∈ ns, x < 18446744073709551616) ∧ bs = enc n ++ (encs ns ++ (dby 0 l ++ rest))
section
variable {bs rest : List UInt8} {n i : Nat} {l m : List Doc}
theorem row_head (h : Row m) : vgE (senc m) = 0 ∧ vgN (senc m) = m.length ∧ vgRest (senc m) = encs (hns m (nbk m.length)) ++ dby 0 m := by
  have := h.from_.2
  unfold senc
  rw [List.append_assoc]
  exact vg_cons (by omega) _
theorem NoRow.head (h : vgE bs ≠ 0 ∨ 65536 < vgN bs ∨ bs.length < vgN bs) : NoRow bs := by
  rintro m hm rfl
  obtain ⟨h1, h2, _⟩ := row_head hm
  have h3 := hm.from_.2
  have h4 := senc_len m
  rcases h with h | h | h
  · exact h h1
  · omega
  · omega
theorem RdB.start (h : vgE bs = 0) : RdB bs (vgN bs) 0 (vgRest bs) := ⟨[], rfl, (fun _ h => by cases h), (vg_back h).symm⟩
theorem RdB.next (h : RdB bs n i rest) (he : vgE rest = 0) : RdB bs n (i + 1) (vgRest rest) := by
  obtain ⟨ns, h1, h2, h3⟩ := h
  refine ⟨ns ++ [vgN rest], by simp [h1], fun x hx => ?_, ?_⟩
  · rcases List.mem_append.1 hx with hx | hx
    · exact h2 x hx
    · simp only [List.mem_singleton] at hx
      subst hx
      exact (vgN_64 rest).lt
  · rw [encs_append, h3]
    conv => lhs; rw [← vg_back he]
    simp [encs, List.append_assoc]
theorem RdB.len (h : RdB bs n i rest) : rest.length ≤ bs.length := by
  obtain ⟨ns, _, _, h3⟩ := h
  rw [h3]
  simp only [List.length_append]
  omega
theorem RdB.of_row (h : RdB bs n i rest) (hi : i ≤ 2 * nbk n) (hn : n < 18446744073709551616) (hm : Row m) (hs : senc m = bs) (hb : bs.length ≤ 1099511627776) : m.length = n ∧ rest = encs ((hns m (nbk n)).drop i) ++ dby 0 m ∧ (∀ x ∈ hns m (nbk n), x ≤ 1099511627776) := by
  obtain ⟨ns, h1, h2, h3⟩ := h
  obtain ⟨_, e2, e3⟩ := row_head hm
  have hb2 := dby_le_senc m
  rw [hs] at e2 e3 hb2
  obtain ⟨_, f2, f3⟩ := vg_cons hn (encs ns ++ rest)
  rw [← h3] at f2 f3
  have hmn := e2.symm.trans f2
  have hr := e3.symm.trans f3
  rw [hmn] at hr
  have hsm := hns_small hm.from_.1 (by omega) (nbk n)
  have hsplit : encs (hns m (nbk n)) ++ dby 0 m = encs ((hns m (nbk n)).take i) ++ (encs ((hns m (nbk n)).drop i) ++ dby 0 m) := by
    rw [← List.append_assoc, ← encs_append, List.take_append_drop]
  rw [hsplit] at hr
  obtain ⟨_, hx⟩ := encs_inj (by rw [List.length_take, hns_len, h1]; omega) (fun x hx => by have := hsm x (List.mem_of_mem_take hx); omega) h2 hr
  exact ⟨hmn, hx.symm, hsm⟩
theorem RdB.bad (h : RdB bs n i rest) (hi : i < 2 * nbk n) (hn : n < 18446744073709551616) (hb : bs.length ≤ 1099511627776) (hw : vgE rest ≠ 0 ∨ 1099511627776 < vgN rest) : NoRow bs := by
  intro m hm hs
  obtain ⟨_, h2, h3⟩ := h.of_row (Nat.le_of_lt hi) hn hm hs hb
  have hl : i < (hns m (nbk n)).length := by rw [hns_len]; exact hi
  rw [List.drop_eq_getElem_cons hl] at h2
  have h4 := h3 _ (List.getElem_mem hl)
  obtain ⟨e1, e2, _⟩ := vg_cons (n := (hns m (nbk n))[i]) (by omega) (encs ((hns m (nbk n)).drop (i + 1)) ++ dby 0 m)
  simp only [encs, List.append_assoc] at h2
  rw [← h2] at e1 e2
  rcases hw with h | h
  · exact h e1
  · omega
theorem RdB.docs (h : RdB bs n (2 * nbk n) rest) : RdC bs n [] rest := by
  obtain ⟨ns, h1, h2, h3⟩ := h
  exact ⟨trivial, ns, h1, h2, by simpa [dby] using h3⟩
theorem RdC.len (h : RdC bs n l rest) : (dby 0 l).length + rest.length ≤ bs.length := by
  obtain ⟨_, ns, _, _, h3⟩ := h
  rw [h3]
  simp only [List.length_append]
  omega
theorem RdC.of_row (h : RdC bs n l rest) (hl : l.length ≤ n) (hn : n < 18446744073709551616) (hm : Row m) (hs : senc m = bs) (hb : bs.length ≤ 1099511627776) : ∃ m', m = l ++ m' ∧ rest = dby (lastD 0 l) m' ∧ m.length = n := by
  obtain ⟨h0, ns, h1, h2, h3⟩ := h
  obtain ⟨e1, e2, _⟩ := RdB.of_row (rest := dby 0 l ++ rest) ⟨ns, h1, h2, h3⟩ (Nat.le_refl _) hn hm hs hb
  rw [List.drop_of_length_le (by rw [hns_len]; omega)] at e2
  simp only [encs, List.nil_append] at e2
  obtain ⟨m', e3, e4⟩ := dby_pre h0 (hm.from_.1.docsR (by decide)) (by omega) e2
  exact ⟨m', e3, e4, e1⟩
theorem docsR_last : ∀ {l : List Doc} {last : Int}, DocsR last l → last ≤ lastD last l
  | [], _, _ => Int.le_refl _
  | d :: l, last, h => by
    have h1 := h.1.lo
    have h2 := docsR_last h.2
    simp only [lastD]
    omega
theorem RdC.next {e : Ev} {q : List UInt8} (h : RdC bs n l rest) (he : vgE rest = 0) (hv : evG (vgRest rest) = some (e, q)) : RdC bs n (l ++ [(lastD 0 l + 1 + (vgN rest : Int), e)]) q := by
  obtain ⟨h0, ns, h1, h2, h3⟩ := h
  obtain ⟨_, hev, htm⟩ := evG_len hv
  have h64 := (vgN_64 rest).lt
  refine ⟨h0.snoc ⟨by dsimp only; omega, by dsimp only; omega, hev, htm⟩, ns, h1, h2, ?_⟩
  rw [dby_snoc, h3]
  have e1 : (lastD 0 l + 1 + (vgN rest : Int) - lastD 0 l - 1).toNat = vgN rest := by omega
  dsimp only
  rw [e1]
  have e2 := vg_back he
  rw [evG_back hv] at e2
  conv => lhs; rw [← e2]
  simp only [List.append_assoc]
theorem RdC.bad (h : RdC bs n l rest) (hl : l.length < n) (hn : n < 18446744073709551616) (hb : bs.length ≤ 1099511627776)
    (hw : vgE rest ≠ 0 ∨ 1099511627776 < vgN rest ∨ evG (vgRest rest) = none ∨ 1099511627776 < lastD 0 l + 1 + (vgN rest : Int)) : NoRow bs := by
  intro m hm hs
  obtain ⟨m', e1, e2, e3⟩ := h.of_row (Nat.le_of_lt hl) hn hm hs hb
  cases m' with
  | nil =>
    rw [List.append_nil] at e1
    subst e1
    omega
  | cons d m2 =>
    have hr := hm.from_.1
    rw [e1] at hr
    obtain ⟨c1, c2, c3, c4, _⟩ := hr.split.2.cons
    have h0 := docsR_last h.1
    simp only [dby] at e2
    obtain ⟨g1, g2, g3⟩ := vg_cons (n := (d.1 - lastD 0 l - 1).toNat) (by omega) (evby d.2 ++ dby d.1 m2)
    rw [← e2] at g1 g2 g3
    rcases hw with h | h | h | h
    · exact h g1
    · omega
    · rw [g3, evG_by c3 c4] at h
      cases h
    · omega
theorem RdC.done (h : RdC bs n l rest) (hl : l.length = n) (hn : n < 18446744073709551616) (hb : bs.length ≤ 1099511627776) (hm : Row m) (hs : senc m = bs) : m = l := by
  obtain ⟨m', e1, _, e3⟩ := h.of_row (Nat.le_of_eq hl) hn hm hs hb
  have := congrArg List.length e1
  rw [List.length_append] at this
  rw [e1, List.eq_nil_of_length_eq_zero (l := m') (by omega), List.append_nil]
theorem DocsR.tm : ∀ {l : List Doc} {last : Int}, DocsR last l → ∀ d ∈ l, I64 d.2.1
  | [], _, _, _, h => by cases h
  | c :: l, _, h, d, hd => by
    rcases List.mem_cons.1 hd with rfl | hd
    · exact h.1.tm
    · exact h.2.tm d hd
theorem DocsR.len : ∀ {l : List Doc} {last : Int}, DocsR last l → l.length ≤ (dby last l).length
  | l, last, _ => dby_len_ge l last
end
/-- what the bytes decode to -/
def DecIs (bs : List UInt8) (l : List Doc) (E : Nat) : Prop := (Row l ∧ senc l = bs ∧ E = 0) ∨ (NoRow bs ∧ l = [] ∧ E = 120)
theorem DecIs.same {bs : List UInt8} {l m : List Doc} {E F : Nat} (hb : bs.length ≤ 1099511627776) (h : DecIs bs l E) (k : DecIs bs m F) : l = m ∧ E = F := by
  rcases h with ⟨h1, h2, rfl⟩ | ⟨h1, rfl, rfl⟩
  · rcases k with ⟨k1, k2, rfl⟩ | ⟨k1, _, _⟩
    · exact ⟨senc_inj h1 k1 (by rw [k2]; exact hb) (h2.trans k2.symm), rfl⟩
    · exact absurd h2 (k1 l h1)
  · rcases k with ⟨k1, k2, _⟩ | ⟨_, rfl, rfl⟩
    · exact absurd k2 (h1 m k1)
    · exact ⟨rfl, rfl⟩
end Go.Proofs.Ytnajmpkdeenkbaa
