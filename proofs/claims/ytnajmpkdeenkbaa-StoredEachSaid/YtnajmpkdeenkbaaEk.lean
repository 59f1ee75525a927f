/-
  Plain law of stored rows: their bytes, and that bytes are one row's at most.
  Conditions: those of each statement.
-/
import Derived.Test.YtnajmpkdeenkbaaEh
namespace Go.Proofs.Ytnajmpkdeenkbaa
open Go.Op

/-- the docs' bytes, behind number 'last' -/
def dby : Int → List Doc → List UInt8
  | _, [] => []
  | last, d :: l => enc (d.1 - last - 1).toNat ++ (evby d.2 ++ dby d.1 l)
/-- the last number -/
def lastD : Int → List Doc → Int
  | last, [] => last
  | _, d :: l => lastD d.1 l
theorem dby_append : ∀ (l m : List Doc) (last : Int), dby last (l ++ m) = dby last l ++ dby (lastD last l) m
  | [], _, _ => rfl
  | d :: l, m, last => by simp only [List.cons_append, dby, lastD, dby_append l m, List.append_assoc]
theorem lastD_append : ∀ (l m : List Doc) (last : Int), lastD last (l ++ m) = lastD (lastD last l) m
  | [], _, _ => rfl
  | d :: l, m, _ => lastD_append l m d.1
theorem dby_snoc (l : List Doc) (d : Doc) (last : Int) : dby last (l ++ [d]) = dby last l ++ enc (d.1 - lastD last l - 1).toNat ++ evby d.2 := by
  rw [dby_append]
  simp [dby, List.append_assoc]
theorem lastD_snoc (l : List Doc) (d : Doc) (last : Int) : lastD last (l ++ [d]) = d.1 := by rw [lastD_append]; rfl
/-- the k-th block's docs, its numbers -/
def bkD (l : List Doc) (k : Nat) : List Doc := (l.drop (16 * k)).take 16
def bkL (l : List Doc) (k : Nat) : Int := lastD 0 (l.take (16 * k))
def bkB (l : List Doc) (k : Nat) : List UInt8 := dby (bkL l k) (bkD l k)
theorem take_block (l : List Doc) (k : Nat) : l.take (16 * (k + 1)) = l.take (16 * k) ++ bkD l k := by
  unfold bkD
  rw [Nat.mul_add, Nat.mul_one, List.take_add]
theorem bkL_next (l : List Doc) (k : Nat) : bkL l (k + 1) = lastD (bkL l k) (bkD l k) := by
  unfold bkL
  rw [take_block, lastD_append]
/-- the numbers at the head -/
def hns (l : List Doc) : Nat → List Nat
  | 0 => []
  | k + 1 => hns l k ++ [(bkL l (k + 1)).toNat, (bkB l k).length]
def encs : List Nat → List UInt8
  | [] => []
  | n :: l => enc n ++ encs l
theorem encs_append : ∀ l m : List Nat, encs (l ++ m) = encs l ++ encs m
  | [], _ => rfl
  | n :: l, m => by simp only [List.cons_append, encs, encs_append l m, List.append_assoc]
theorem hns_next (l : List Doc) (k : Nat) : encs (hns l (k + 1)) = encs (hns l k) ++ enc (bkL l (k + 1)).toNat ++ enc (bkB l k).length := by
  rw [show hns l (k + 1) = hns l k ++ [(bkL l (k + 1)).toNat, (bkB l k).length] from rfl, encs_append]
  simp [encs, List.append_assoc]
theorem hns_len (l : List Doc) : ∀ k, (hns l k).length = 2 * k
  | 0 => rfl
  | k + 1 => by simp only [hns, List.length_append, hns_len l k, List.length_cons, List.length_nil]; omega
theorem dby_block (l : List Doc) (k : Nat) : dby 0 (l.take (16 * (k + 1))) = dby 0 (l.take (16 * k)) ++ bkB l k := by
  rw [take_block, dby_append]
  rfl
/-- how many blocks -/
def nbk (n : Nat) : Nat := (n + 15) / 16
/-- a row's bytes -/
def senc (l : List Doc) : List UInt8 := enc l.length ++ encs (hns l (nbk l.length)) ++ dby 0 l

/-! ### sizes -/
theorem dRis_append : ∀ (l m : List Doc) (last : Int), dRis last (l ++ m) = (dRis last l && dRis (lastD last l) m)
  | [], _, _ => by simp [dRis, lastD]
  | d :: l, m, last => by simp only [List.cons_append, dRis, lastD, dRis_append l m, Bool.and_assoc]
/-- numbers rise, events are right, times are of 64 bits -/
structure RowFrom (last : Int) (l : List Doc) : Prop where
  ris : dRis last l = true
  tm : ∀ d ∈ l, I64 d.2.1
theorem RowFrom.cons {last : Int} {d : Doc} {l : List Doc} (h : RowFrom last (d :: l)) : last < d.1 ∧ d.1 ≤ 1099511627776 ∧ evE d.2 = 0 ∧ I64 d.2.1 ∧ RowFrom d.1 l := by
  have h1 := h.ris
  simp only [dRis, Bool.and_eq_true, decide_eq_true_eq] at h1
  exact ⟨h1.1, h1.2.1, h1.2.2.1, h.tm d (by simp), h1.2.2.2, fun x hx => h.tm x (by simp [hx])⟩
theorem RowFrom.nil (last : Int) : RowFrom last [] := ⟨rfl, fun _ h => by cases h⟩
theorem RowFrom.split {last : Int} {l m : List Doc} (h : RowFrom last (l ++ m)) : RowFrom last l ∧ RowFrom (lastD last l) m := by
  have h1 := h.ris
  rw [dRis_append, Bool.and_eq_true] at h1
  exact ⟨⟨h1.1, fun d hd => h.tm d (by simp [hd])⟩, ⟨h1.2, fun d hd => h.tm d (by simp [hd])⟩⟩
theorem RowFrom.take {last : Int} {l : List Doc} (h : RowFrom last l) (k : Nat) : RowFrom last (l.take k) := by
  rw [← List.take_append_drop k l] at h
  exact h.split.1
theorem RowFrom.drop {last : Int} {l : List Doc} (h : RowFrom last l) (k : Nat) : RowFrom (lastD last (l.take k)) (l.drop k) := by
  rw [← List.take_append_drop k l] at h
  exact h.split.2
theorem RowFrom.last : ∀ {l : List Doc} {last : Int}, RowFrom last l → last ≤ 1099511627776 → last ≤ lastD last l ∧ lastD last l ≤ 1099511627776
  | [], _, _, h => ⟨Int.le_refl _, h⟩
  | d :: l, _, h, hl => by
    obtain ⟨h1, h2, _, _, h5⟩ := h.cons
    have := h5.last h2
    exact ⟨by simp only [lastD]; omega, this.2⟩
theorem evby_pos (e : Ev) : 0 < (evby e).length := by
  have := enc_pos (zig e.1)
  simp only [evby, List.length_append]
  omega
theorem dby_cons_len {last : Int} {d : Doc} {l : List Doc} (h : RowFrom last (d :: l)) (h0 : 0 ≤ last) : (dby last (d :: l)).length ≤ 10 + (evby d.2).length + (dby d.1 l).length := by
  obtain ⟨h1, h2, _⟩ := h.cons
  have := enc_len10 (n := (d.1 - last - 1).toNat) (U64.mk (by omega))
  simp only [dby, List.length_append]
  omega
theorem dby_len_ge : ∀ (l : List Doc) (last : Int), l.length ≤ (dby last l).length
  | [], _ => by simp
  | d :: l, last => by
    have := dby_len_ge l d.1
    have := evby_pos d.2
    simp only [dby, List.length_append, List.length_cons]
    omega
theorem dby_take_le (l : List Doc) (last : Int) (k : Nat) : (dby last (l.take k)).length ≤ (dby last l).length := by
  have : dby last l = dby last (l.take k) ++ dby (lastD last (l.take k)) (l.drop k) := by rw [← dby_append, List.take_append_drop]
  rw [this, List.length_append]
  omega
theorem bkB_le (l : List Doc) (k : Nat) : (bkB l k).length ≤ (dby 0 l).length := by
  have h1 := dby_take_le l 0 (16 * (k + 1))
  rw [dby_block, List.length_append] at h1
  omega
theorem bkL_le {l : List Doc} (h : RowFrom 0 l) (k : Nat) : 0 ≤ bkL l k ∧ bkL l k ≤ 1099511627776 := (h.take (16 * k)).last (by decide)
theorem hns_small {l : List Doc} (h : RowFrom 0 l) (hb : (dby 0 l).length ≤ 1099511627776) : ∀ k, ∀ n ∈ hns l k, n ≤ 1099511627776
  | 0, n, hn => by cases hn
  | k + 1, n, hn => by
    unfold hns at hn
    rcases List.mem_append.1 hn with hn | hn
    · exact hns_small h hb k n hn
    · have := bkL_le h (k + 1)
      have := bkB_le l k
      simp only [List.mem_cons, List.not_mem_nil, or_false] at hn
      rcases hn with rfl | rfl <;> omega
theorem encs_len : ∀ l : List Nat, (∀ n ∈ l, n ≤ 1099511627776) → (encs l).length ≤ 10 * l.length
  | [], _ => by simp [encs]
  | n :: l, h => by
    have := encs_len l fun x hx => h x (by simp [hx])
    have := enc_len10 (n := n) (U64.mk (by have := h n (by simp); omega))
    simp only [encs, List.length_append, List.length_cons]
    omega
/-! ### bytes read -/
theorem vg_cons {n : Nat} (h : n < 18446744073709551616) (r : List UInt8) : vgE (enc n ++ r) = 0 ∧ vgN (enc n ++ r) = n ∧ vgRest (enc n ++ r) = r := ⟨(vg_enc (U64.mk h) r).2.1, (vg_enc (U64.mk h) r).1, (vg_enc (U64.mk h) r).2.2⟩
/-- equally many numbers: what stands behind is the same -/
theorem encs_inj : ∀ {a b : List Nat} {x y : List UInt8}, a.length = b.length → (∀ n ∈ a, n < 18446744073709551616) → (∀ n ∈ b, n < 18446744073709551616) → encs a ++ x = encs b ++ y → a = b ∧ x = y
  | [], [], _, _, _, _, _, h => ⟨rfl, h⟩
  | [], _ :: _, _, _, h, _, _, _ => by cases h
  | _ :: _, [], _, _, h, _, _, _ => by cases h
  | m :: a, n :: b, x, y, hl, ha, hb, h => by
    simp only [encs, List.append_assoc] at h
    obtain ⟨_, e1, e2⟩ := vg_cons (ha m (by simp)) (encs a ++ x)
    obtain ⟨_, f1, f2⟩ := vg_cons (hb n (by simp)) (encs b ++ y)
    rw [h] at e1 e2
    obtain ⟨h1, h2⟩ := encs_inj (by simpa using hl) (fun k hk => ha k (by simp [hk])) (fun k hk => hb k (by simp [hk])) (e2.symm.trans f2)
    exact ⟨by rw [h1, e1.symm.trans f1], h2⟩
/-- what was read is what stands there -/
theorem num_back {b n : Nat} {bs r : List UInt8} (h : num b bs = some (n, r)) : bs = enc n ++ r ∧ n ≤ b ∧ n < 18446744073709551616 := by
  unfold num at h
  split at h
  · rename_i hc
    injection h with h
    injection h with h1 h2
    subst h1
    subst h2
    exact ⟨(vg_back hc.1).symm, hc.2, (vgN_64 bs).lt⟩
  · cases h
theorem txt_back {b : Nat} {bs s r : List UInt8} (h : txt b bs = some (s, r)) : bs = tby s ++ r := by
  unfold txt at h
  cases hn : num b bs with
  | none => rw [hn] at h; cases h
  | some x =>
    obtain ⟨n, q⟩ := x
    rw [hn] at h
    simp only at h
    split at h
    · rename_i hle
      injection h with h
      injection h with h1 h2
      obtain ⟨e, _⟩ := num_back hn
      subst h1
      subst h2
      rw [e, tby, List.length_take, Nat.min_eq_left hle, List.append_assoc, List.take_append_drop]
    · cases h
theorem fldG_back {bs r : List UInt8} {f : Fld} (h : fldG bs = some (f, r)) : bs = fby f ++ r := by
  unfold fldG at h
  cases h1 : txt 32 bs with
  | none => rw [h1] at h; cases h
  | some x =>
    obtain ⟨s, q⟩ := x
    rw [h1] at h
    simp only at h
    cases h2 : txt 4096 q with
    | none => rw [h2] at h; cases h
    | some y =>
      obtain ⟨t, q2⟩ := y
      rw [h2] at h
      simp only [Option.some.injEq, Prod.mk.injEq] at h
      obtain ⟨rfl, rfl⟩ := h
      rw [txt_back h1, txt_back h2, fby, List.append_assoc]
theorem fldsG_back : ∀ {n : Nat} {bs r : List UInt8} {l : List Fld}, fldsG n bs = some (l, r) → bs = fsby l ++ r
  | 0, bs, r, l, h => by
    simp only [fldsG, Option.some.injEq, Prod.mk.injEq] at h
    obtain ⟨rfl, rfl⟩ := h
    rfl
  | n + 1, bs, r, l, h => by
    simp only [fldsG] at h
    cases h1 : fldG bs with
    | none => rw [h1] at h; cases h
    | some x =>
      obtain ⟨f, q⟩ := x
      rw [h1] at h
      simp only at h
      cases h2 : fldsG n q with
      | none => rw [h2] at h; cases h
      | some y =>
        obtain ⟨l', q2⟩ := y
        rw [h2] at h
        simp only [Option.some.injEq, Prod.mk.injEq] at h
        obtain ⟨rfl, rfl⟩ := h
        rw [fldG_back h1, fldsG_back h2, fsby, List.append_assoc]
theorem evG_back {bs r : List UInt8} {e : Ev} (h : evG bs = some (e, r)) : bs = evby e ++ r := by
  unfold evG at h
  split at h
  · rename_i hE
    cases h1 : num 16 (vgRest bs) with
    | none => rw [h1] at h; cases h
    | some x =>
      obtain ⟨n, q⟩ := x
      rw [h1] at h
      simp only at h
      cases h2 : fldsG n q with
      | none => rw [h2] at h; cases h
      | some y =>
        obtain ⟨l, q2⟩ := y
        rw [h2] at h
        simp only at h
        split at h
        · simp only [Option.some.injEq, Prod.mk.injEq] at h
          obtain ⟨rfl, rfl⟩ := h
          have e1 := vg_back hE
          have e2 := (num_back h1).1
          have e3 := fldsG_back h2
          have e4 := (fldsG_len h2).2
          refine e1.symm.trans ?_
          rw [e2, e3, evby, zig_zag, e4]
          simp only [List.append_assoc]
        · cases h
  · cases h
/-- a doc that is read: its number's step may be any -/
structure DocR (last : Int) (d : Doc) : Prop where
  lo : last < d.1
  st : d.1 - last - 1 < 18446744073709551616
  ev : evE d.2 = 0
  tm : I64 d.2.1
def DocsR : Int → List Doc → Prop
  | _, [] => True
  | last, d :: l => DocR last d ∧ DocsR d.1 l
theorem DocsR.snoc : ∀ {l : List Doc} {last : Int} {d : Doc}, DocsR last l → DocR (lastD last l) d → DocsR last (l ++ [d])
  | [], _, _, _, h => ⟨h, trivial⟩
  | _ :: _, _, _, h, h2 => ⟨h.1, h.2.snoc h2⟩
theorem RowFrom.docsR : ∀ {l : List Doc} {last : Int}, RowFrom last l → 0 ≤ last → DocsR last l
  | [], _, _, _ => trivial
  | d :: l, _, h, h0 => by
    obtain ⟨h1, h2, h3, h4, h5⟩ := h.cons
    exact ⟨⟨h1, by omega, h3, h4⟩, h5.docsR (by omega)⟩
/-- docs that were read are the first docs of any row that has these bytes -/
theorem dby_pre : ∀ {l m : List Doc} {last : Int} {x : List UInt8}, DocsR last l → DocsR last m → l.length ≤ m.length → dby last l ++ x = dby last m → ∃ m', m = l ++ m' ∧ x = dby (lastD last l) m'
  | [], m, _, _, _, _, _, h => ⟨m, rfl, h⟩
  | _ :: _, [], _, _, _, _, h, _ => by cases h
  | d :: l, c :: m, last, x, hl, hm, hle, h => by
    simp only [dby, List.append_assoc] at h
    have hd := hl.1
    have hc := hm.1
    have l1 := hd.lo
    have l2 := hc.lo
    have l3 := hd.st
    have l4 := hc.st
    obtain ⟨_, e1, e2⟩ := vg_cons (n := (d.1 - last - 1).toNat) (by omega) (evby d.2 ++ (dby d.1 l ++ x))
    obtain ⟨_, f1, f2⟩ := vg_cons (n := (c.1 - last - 1).toNat) (by omega) (evby c.2 ++ dby c.1 m)
    rw [h] at e1 e2
    have hs := e1.symm.trans f1
    have hr := e2.symm.trans f2
    have g1 := evG_by hd.ev hd.tm (dby d.1 l ++ x)
    have g2 := evG_by hc.ev hc.tm (dby c.1 m)
    rw [hr, g2] at g1
    simp only [Option.some.injEq, Prod.mk.injEq] at g1
    have hdc : d = c := Prod.ext (by omega) g1.1.symm
    subst hdc
    obtain ⟨m', e, hx⟩ := dby_pre hl.2 hm.2 (by simpa using hle) g1.2.symm
    exact ⟨m', by rw [e]; rfl, hx⟩
/-- a row that may be -/
structure Row (l : List Doc) : Prop where
  ok : sOk l = true
  tm : ∀ d ∈ l, I64 d.2.1
theorem Row.from_ {l : List Doc} (h : Row l) : RowFrom 0 l ∧ l.length ≤ 65536 := by
  have h1 := h.ok
  simp only [sOk, Bool.and_eq_true, decide_eq_true_eq] at h1
  exact ⟨⟨h1.2, h.tm⟩, h1.1⟩
theorem senc_len (l : List Doc) : l.length < (senc l).length := by
  have := dby_len_ge l 0
  have := enc_pos l.length
  simp only [senc, List.length_append]
  omega
theorem dby_le_senc (l : List Doc) : (dby 0 l).length ≤ (senc l).length := by
  simp only [senc, List.length_append]
  omega
theorem senc_inj {l m : List Doc} (hl : Row l) (hm : Row m) (hs : (senc m).length ≤ 1099511627776) (h : senc l = senc m) : l = m := by
  obtain ⟨l1, l2⟩ := hl.from_
  obtain ⟨m1, m2⟩ := hm.from_
  have b1 := dby_le_senc l
  have b2 := dby_le_senc m
  rw [h] at b1
  unfold senc at h
  rw [List.append_assoc, List.append_assoc] at h
  obtain ⟨_, e1, e2⟩ := vg_cons (n := l.length) (by omega) (encs (hns l (nbk l.length)) ++ dby 0 l)
  obtain ⟨_, f1, f2⟩ := vg_cons (n := m.length) (by omega) (encs (hns m (nbk m.length)) ++ dby 0 m)
  rw [h] at e1 e2
  have hn := e1.symm.trans f1
  have hr := e2.symm.trans f2
  obtain ⟨_, hd⟩ := encs_inj (by rw [hns_len, hns_len, hn]) (fun n hn => by have := hns_small l1 (by omega) _ n hn; omega) (fun n hn => by have := hns_small m1 (by omega) _ n hn; omega) hr
  obtain ⟨m', e, _⟩ := dby_pre (x := []) (l1.docsR (by decide)) (m1.docsR (by decide)) (by omega) (by rw [List.append_nil]; exact hd)
  have : m'.length = 0 := by
    have := congrArg List.length e
    rw [List.length_append] at this
    omega
  rw [List.eq_nil_of_length_eq_zero this, List.append_nil] at e
  exact e.symm
end Go.Proofs.Ytnajmpkdeenkbaa
