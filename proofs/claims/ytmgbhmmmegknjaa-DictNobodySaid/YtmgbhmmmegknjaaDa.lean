/-
  Plain law of dictionaries: which entries may be; their bytes; what remains of them behind some entries.
  Conditions: those of each statement.
-/
import Derived.Test.YtmgbhmmmegknjaaVp
import Derived.Test.YtmgbhmmmegknjaaVq
import Derived.Test.YtmgbhmmmegknjaaDt
import Derived.Lib.Bytealg
namespace Go.Proofs.Ytmgbhmmmegknjaa
open Go.Op

/-- an entry: a term, three numbers -/
abbrev Ent := Tx × Int × Int × Int
/-- may a number be? -/
def pl (n : Int) : Bool := decide (0 ≤ n) && decide (n ≤ 67108864)
def eOk (e : Ent) : Bool := decide (e.1.b.length ≤ 65) && (pl e.2.1 && (pl e.2.2.1 && pl e.2.2.2))
/-- each entry may be, and the terms rise -/
def upw (last : List UInt8) : List Ent → Bool
  | [] => true
  | e :: l => (eOk e && bytesLess last e.1.b) && upw e.1.b l
def esOk (l : List Ent) : Bool := upw [] l && decide (l.length ≤ 262144)
theorem upw_cons {last : List UInt8} {e : Ent} {l : List Ent} : upw last (e :: l) = true ↔ eOk e = true ∧ bytesLess last e.1.b = true ∧ upw e.1.b l = true := by
  simp only [upw, Bool.and_eq_true, and_assoc]
theorem eOk_spec {e : Ent} (h : eOk e = true) : e.1.b.length ≤ 65 ∧ (0 ≤ e.2.1 ∧ e.2.1 ≤ 67108864) ∧ (0 ≤ e.2.2.1 ∧ e.2.2.1 ≤ 67108864) ∧ (0 ≤ e.2.2.2 ∧ e.2.2.2 ≤ 67108864) := by
  simpa [eOk, pl] using h
theorem upw_mem : ∀ {l : List Ent} {last : List UInt8}, upw last l = true → ∀ e ∈ l, eOk e = true
  | [], _, _, e, he => by cases he
  | a :: l, last, h, e, he => by
    obtain ⟨h1, _, h3⟩ := upw_cons.1 h
    rcases List.mem_cons.1 he with rfl | he
    · exact h1
    · exact upw_mem h3 e he
/-- how many bytes two texts begin with alike -/
def sh : List UInt8 → List UInt8 → Nat
  | a :: x, b :: y => if a = b then sh x y + 1 else 0
  | _, _ => 0
theorem sh_le : ∀ (a b : List UInt8), sh a b ≤ a.length ∧ sh a b ≤ b.length
  | [], b => by cases b <;> simp [sh]
  | a :: x, [] => by simp [sh]
  | a :: x, b :: y => by
    have := sh_le x y
    unfold sh
    split
    · simp only [List.length_cons]; omega
    · simp
theorem sh_take : ∀ (a b : List UInt8), b.take (sh a b) = a.take (sh a b)
  | [], b => by cases b <;> simp [sh]
  | a :: x, [] => by simp [sh]
  | a :: x, b :: y => by
    have := sh_take x y
    unfold sh
    split
    · rename_i h
      subst h
      simp [this]
    · simp
theorem sh_nil (b : List UInt8) : sh [] b = 0 := by cases b <;> rfl
theorem sh_end {a b : List UInt8} (h : a = [] ∨ b = []) : sh a b = 0 := by
  rcases h with rfl | rfl
  · exact sh_nil b
  · cases a <;> rfl
/-- a term's bytes, behind the one ahead -/
def tby (last t : List UInt8) : List UInt8 := enc (sh last t) ++ (enc (t.drop (sh last t)).length ++ t.drop (sh last t))
def eby (last : List UInt8) (e : Ent) : List UInt8 := tby last e.1.b ++ (enc e.2.1.toNat ++ (enc e.2.2.1.toNat ++ enc e.2.2.2.toNat))
def esby (last : List UInt8) : List Ent → List UInt8
  | [] => []
  | e :: l => eby last e ++ esby e.1.b l
def dblk : Nat → List Ent → List UInt8
  | 0, _ => []
  | n + 1, l => if l.length = 0 then [] else (enc (esby [] (l.take 16)).length ++ esby [] (l.take 16)) ++ dblk n (l.drop 16)
def denc (l : List Ent) : List UInt8 := enc l.length ++ dblk l.length l
/-- the last term -/
def tlast (last : List UInt8) : List Ent → List UInt8
  | [] => last
  | e :: l => tlast e.1.b l
theorem tlast_append : ∀ (l m : List Ent) (last : List UInt8), tlast last (l ++ m) = tlast (tlast last l) m
  | [], _, _ => rfl
  | e :: l, m, _ => tlast_append l m e.1.b
theorem tlast_snoc (l : List Ent) (e : Ent) (last : List UInt8) : tlast last (l ++ [e]) = e.1.b := by rw [tlast_append]; rfl
theorem esby_append : ∀ (l m : List Ent) (last : List UInt8), esby last (l ++ m) = esby last l ++ esby (tlast last l) m
  | [], _, _ => rfl
  | e :: l, m, last => by simp only [List.cons_append, esby, tlast, esby_append l m e.1.b, List.append_assoc]
theorem esby_snoc (l : List Ent) (e : Ent) (last : List UInt8) : esby last (l ++ [e]) = esby last l ++ eby (tlast last l) e := by
  rw [esby_append]
  simp [esby]
theorem dblk_nil (n : Nat) : dblk n [] = [] := by cases n <;> simp [dblk]
theorem dblk_next (n : Nat) {l : List Ent} (h : l.length ≠ 0) : dblk (n + 1) l = (enc (esby [] (l.take 16)).length ++ esby [] (l.take 16)) ++ dblk n (l.drop 16) := by
  simp only [dblk]
  rw [if_neg h]
theorem dblk_snoc : ∀ (n : Nat) (l : List Ent), 16 * n < l.length →
    dblk (n + 1) l = dblk n l ++ (enc (esby [] ((l.drop (16 * n)).take 16)).length ++ esby [] ((l.drop (16 * n)).take 16))
  | 0, l, h => by
    rw [dblk_next 0 (by omega)]
    simp [dblk]
  | n + 1, l, h => by
    have i := dblk_snoc n (l.drop 16) (by rw [List.length_drop]; omega)
    rw [List.drop_drop, show 16 + 16 * n = 16 * (n + 1) from by omega] at i
    rw [dblk_next (n + 1) (l := l) (by omega), dblk_next n (l := l) (by omega), i]
    simp only [List.append_assoc]
theorem dblk_fuel : ∀ (n m : Nat) (l : List Ent), l.length ≤ 16 * n → l.length ≤ 16 * m → dblk n l = dblk m l
  | 0, m, l, h, _ => by
    have : l = [] := List.eq_nil_of_length_eq_zero (by omega)
    rw [this, dblk_nil, dblk_nil]
  | n + 1, 0, l, _, h => by
    have : l = [] := List.eq_nil_of_length_eq_zero (by omega)
    rw [this, dblk_nil, dblk_nil]
  | n + 1, m + 1, l, h1, h2 => by
    by_cases h0 : l.length = 0
    · have : l = [] := List.eq_nil_of_length_eq_zero h0
      rw [this, dblk_nil, dblk_nil]
    · rw [dblk_next n h0, dblk_next m h0, dblk_fuel n m (l.drop 16) (by rw [List.length_drop]; omega) (by rw [List.length_drop]; omega)]
/-! ### how long -/
theorem tby_len (last t : List UInt8) (h : t.length ≤ 65) : (tby last t).length ≤ 85 := by
  have h1 := (sh_le last t).2
  have e1 := enc_len10 (n := sh last t) (U64.mk (by omega))
  have h2 : (t.drop (sh last t)).length ≤ 65 := by rw [List.length_drop]; omega
  have e2 := enc_len10 (n := (t.drop (sh last t)).length) (U64.mk (by omega))
  simp only [tby, List.length_append]
  omega
theorem eby_len (last : List UInt8) {e : Ent} (h : eOk e = true) : (eby last e).length ≤ 115 := by
  obtain ⟨h1, h2, h3, h4⟩ := eOk_spec h
  have t := tby_len last e.1.b h1
  have e1 := enc_len10 (n := e.2.1.toNat) (U64.mk (by omega))
  have e2 := enc_len10 (n := e.2.2.1.toNat) (U64.mk (by omega))
  have e3 := enc_len10 (n := e.2.2.2.toNat) (U64.mk (by omega))
  simp only [eby, List.length_append]
  omega
theorem esby_len : ∀ (l : List Ent) (last : List UInt8), (∀ e ∈ l, eOk e = true) → (esby last l).length ≤ 115 * l.length
  | [], _, _ => by simp [esby]
  | e :: l, last, h => by
    have := esby_len l e.1.b fun x hx => h x (by simp [hx])
    have := eby_len last (h e (by simp))
    simp only [esby, List.length_append, List.length_cons]
    omega
theorem dblk_len : ∀ (n : Nat) (l : List Ent), (∀ e ∈ l, eOk e = true) → l.length ≤ 1000000 → (dblk n l).length ≤ 125 * l.length
  | 0, l, _, _ => by simp [dblk]
  | n + 1, l, h, hl => by
    by_cases h0 : l.length = 0
    · have : l = [] := List.eq_nil_of_length_eq_zero h0
      rw [this, dblk_nil]
      simp
    · have i := dblk_len n (l.drop 16) (fun e he => h e (List.mem_of_mem_drop he)) (by rw [List.length_drop]; omega)
      have j := esby_len (l.take 16) [] fun e he => h e (List.mem_of_mem_take he)
      rw [List.length_take] at j
      rw [List.length_drop] at i
      have e1 := enc_len10 (n := (esby [] (l.take 16)).length) (U64.mk (by omega))
      rw [dblk_next n h0]
      simp only [List.length_append]
      omega
/-! ### numbers and texts, read -/
/-- a number of at most so much -/
def num (b : Nat) (bs : List UInt8) : Option (Nat × List UInt8) := if vgE bs = 0 ∧ vgN bs ≤ b then some (vgN bs, vgRest bs) else none
theorem num_enc {b n : Nat} (hn : n < 18446744073709551616) (h : n ≤ b) (r : List UInt8) : num b (enc n ++ r) = some (n, r) := by
  obtain ⟨h1, h2, h3⟩ := vg_enc (U64.mk hn) r
  unfold num
  rw [h1, h2, h3, if_pos ⟨rfl, h⟩]
theorem num_len {b n : Nat} {bs r : List UInt8} (h : num b bs = some (n, r)) : r.length + 1 ≤ bs.length ∧ n ≤ b := by
  unfold num at h
  split at h
  · rename_i hc
    injection h with h
    injection h with h1 h2
    subst h1
    subst h2
    have := vg_back hc.1
    have h3 := congrArg List.length this
    rw [List.length_append] at h3
    have := enc_pos (vgN bs)
    exact ⟨by omega, hc.2⟩
  · cases h
/-- a text of at most so many bytes -/
def txt (b : Nat) (bs : List UInt8) : Option (List UInt8 × List UInt8) :=
  match num b bs with
  | none => none
  | some (n, r) => if n ≤ r.length then some (r.take n, r.drop n) else none
theorem txt_enc {b : Nat} {s : List UInt8} (hb : b < 18446744073709551616) (h : s.length ≤ b) (r : List UInt8) : txt b (enc s.length ++ (s ++ r)) = some (s, r) := by
  unfold txt
  rw [num_enc (by omega) h]
  simp
theorem txt_len {b : Nat} {bs s r : List UInt8} (h : txt b bs = some (s, r)) : r.length + 1 ≤ bs.length ∧ s.length ≤ b := by
  unfold txt at h
  cases hn : num b bs with
  | none => rw [hn] at h; cases h
  | some x =>
    obtain ⟨n, q⟩ := x
    rw [hn] at h
    simp only at h
    split at h
    · injection h with h
      injection h with h1 h2
      have := num_len hn
      subst h1
      subst h2
      rw [List.length_drop, List.length_take]
      omega
    · cases h
theorem enc_inj {n m : Nat} (hn : n < 18446744073709551616) (hm : m < 18446744073709551616) {r q : List UInt8} (h : enc n ++ r = enc m ++ q) : n = m ∧ r = q := by
  have h1 := num_enc hn (Nat.le_refl n) r
  obtain ⟨a1, a2, a3⟩ := vg_enc (U64.mk hn) r
  obtain ⟨b1, b2, b3⟩ := vg_enc (U64.mk hm) q
  rw [h] at a1 a3
  exact ⟨a1.symm.trans b1, a3.symm.trans b3⟩
/-! ### what remains behind the first i entries -/
def rst (l : List Ent) (i : Nat) : List UInt8 :=
  if i % 16 = 0 then dblk l.length (l.drop i) else esby (tlast [] (l.take i)) ((l.drop i).take (16 - i % 16)) ++ dblk l.length (l.drop (i + (16 - i % 16)))
theorem rst_zero (l : List Ent) : rst l 0 = dblk l.length l := by simp [rst]
theorem take_nextE {α : Type} (l : List α) {k : Nat} (h : k < l.length) : l.take (k + 1) = l.take k ++ [l[k]] := List.take_succ_eq_append_getElem h
theorem rst_head {l : List Ent} {i : Nat} (hi : i < l.length) (h : i % 16 = 0) : rst l i = enc (esby [] ((l.drop i).take 16)).length ++ (eby [] l[i] ++ rst l (i + 1)) := by
  have hd := List.drop_eq_getElem_cons hi
  obtain ⟨n, hn⟩ : ∃ n, l.length = n + 1 := ⟨l.length - 1, by omega⟩
  have e1 : tlast [] (l.take (i + 1)) = (l[i]).1.b := by rw [take_nextE l hi, tlast_snoc]
  have e2 : (l.drop i).drop 16 = l.drop (i + 16) := by rw [List.drop_drop]
  have e3 : dblk n (l.drop (i + 16)) = dblk (n + 1) (l.drop (i + 16)) := dblk_fuel _ _ _ (by rw [List.length_drop]; omega) (by rw [List.length_drop]; omega)
  unfold rst
  rw [if_pos h, if_neg (by omega), hn, dblk_next n (by rw [List.length_drop]; omega), e1, e2, e3, show i + 1 + (16 - (i + 1) % 16) = i + 16 from by omega, show 16 - (i + 1) % 16 = 15 from by omega]
  simp only [List.append_assoc]
  congr 1
  rw [hd, List.take_succ_cons]
  simp only [esby, List.append_assoc]
theorem rst_next {l : List Ent} {i : Nat} (hi : i < l.length) (h : i % 16 ≠ 0) : rst l i = eby (tlast [] (l.take i)) l[i] ++ rst l (i + 1) := by
  have hd := List.drop_eq_getElem_cons hi
  have e1 : tlast [] (l.take (i + 1)) = (l[i]).1.b := by rw [take_nextE l hi, tlast_snoc]
  obtain ⟨m, hm⟩ : ∃ m, 16 - i % 16 = m + 1 := ⟨15 - i % 16, by omega⟩
  unfold rst
  rw [if_neg h, hm, hd, List.take_succ_cons]
  by_cases h2 : (i + 1) % 16 = 0
  · rw [if_pos h2]
    have hm0 : m = 0 := by omega
    subst hm0
    simp only [esby, List.take_zero, List.append_nil, show i + (0 + 1) = i + 1 from rfl]
  · rw [if_neg h2, e1, show 16 - (i + 1) % 16 = m from by omega, show i + (m + 1) = i + 1 + m from by omega]
    simp only [esby, List.append_assoc]
/-! ### entries' bytes are theirs alone -/
theorem tby_inj {last s t r q : List UInt8} (hs : s.length ≤ 65) (ht : t.length ≤ 65) (h : tby last s ++ r = tby last t ++ q) : s = t ∧ r = q := by
  have a1 := (sh_le last s).2
  have a2 := (sh_le last t).2
  simp only [tby, List.append_assoc] at h
  obtain ⟨h1, h2⟩ := enc_inj (by omega) (by omega) h
  have l1 : (s.drop (sh last s)).length ≤ 65 := by rw [List.length_drop]; omega
  have l2 : (t.drop (sh last t)).length ≤ 65 := by rw [List.length_drop]; omega
  obtain ⟨h3, h4⟩ := enc_inj (by omega) (by omega) h2
  obtain ⟨h5, h6⟩ := List.append_inj h4 h3
  refine ⟨?_, h6⟩
  rw [← List.take_append_drop (sh last s) s, ← List.take_append_drop (sh last t) t, h5, sh_take last s, sh_take last t, h1]
theorem eby_inj {last : List UInt8} {e f : Ent} {r q : List UInt8} (he : eOk e = true) (hf : eOk f = true) (h : eby last e ++ r = eby last f ++ q) : e = f ∧ r = q := by
  obtain ⟨a1, a2, a3, a4⟩ := eOk_spec he
  obtain ⟨b1, b2, b3, b4⟩ := eOk_spec hf
  simp only [eby, List.append_assoc] at h
  obtain ⟨h1, h⟩ := tby_inj a1 b1 h
  obtain ⟨h2, h⟩ := enc_inj (by omega) (by omega) h
  obtain ⟨h3, h⟩ := enc_inj (by omega) (by omega) h
  obtain ⟨h4, h⟩ := enc_inj (by omega) (by omega) h
  refine ⟨?_, h⟩
  obtain ⟨⟨t⟩, x, y, z⟩ := e
  obtain ⟨⟨s⟩, u, v, w⟩ := f
  simp only at h1 h2 h3 h4 a2 a3 a4 b2 b3 b4
  subst h1
  have e1 : x = u := by omega
  have e2 : y = v := by omega
  have e3 : z = w := by omega
  rw [e1, e2, e3]
theorem esOk_spec {l : List Ent} (h : esOk l = true) : upw [] l = true ∧ l.length ≤ 262144 := by
  simpa [esOk] using h
theorem esby64 {l : List Ent} (h : ∀ e ∈ l, eOk e = true) (i : Nat) : (esby [] ((l.drop i).take 16)).length < 18446744073709551616 := by
  have := esby_len ((l.drop i).take 16) [] fun e he => h e (List.mem_of_mem_drop (List.mem_of_mem_take he))
  rw [List.length_take] at this
  omega
theorem denc_inj {l m : List Ent} (hl : esOk l = true) (hm : esOk m = true) (h : denc l = denc m) : l = m := by
  obtain ⟨l1, l2⟩ := esOk_spec hl
  obtain ⟨m1, m2⟩ := esOk_spec hm
  unfold denc at h
  obtain ⟨h1, h2⟩ := enc_inj (by omega) (by omega) h
  have key : ∀ i, i ≤ l.length → l.take i = m.take i ∧ rst l i = rst m i := by
    intro i
    induction i with
    | zero => intro _; exact ⟨by simp, by rw [rst_zero, rst_zero]; exact h2⟩
    | succ i ih =>
      intro hi
      obtain ⟨i1, i2⟩ := ih (by omega)
      have hli : i < l.length := by omega
      have hmi : i < m.length := by omega
      have ok1 := upw_mem l1 _ (List.getElem_mem hli)
      have ok2 := upw_mem m1 _ (List.getElem_mem hmi)
      by_cases h16 : i % 16 = 0
      · rw [rst_head hli h16, rst_head hmi h16] at i2
        obtain ⟨_, i3⟩ := enc_inj (esby64 (upw_mem l1) i) (esby64 (upw_mem m1) i) i2
        obtain ⟨i4, i5⟩ := eby_inj ok1 ok2 i3
        exact ⟨by rw [take_nextE l hli, take_nextE m hmi, i1, i4], i5⟩
      · rw [rst_next hli h16, rst_next hmi h16, i1] at i2
        obtain ⟨i4, i5⟩ := eby_inj ok1 ok2 i2
        exact ⟨by rw [take_nextE l hli, take_nextE m hmi, i1, i4], i5⟩
  have := (key l.length (Nat.le_refl _)).1
  rw [List.take_of_length_le (Nat.le_refl _), List.take_of_length_le (by omega)] at this
  exact this
/-- what bytes are: entries, or none's -/
def DIs (bs : List UInt8) (l : List Ent) (E : Nat) : Prop := (E = 0 ∧ esOk l = true ∧ denc l = bs) ∨ (E = 110 ∧ l = [] ∧ ∀ m, esOk m = true → denc m ≠ bs)
theorem DIs.same {bs : List UInt8} {l m : List Ent} {E F : Nat} (h : DIs bs l E) (k : DIs bs m F) : l = m ∧ E = F := by
  rcases h with ⟨rfl, h1, h2⟩ | ⟨rfl, rfl, h1⟩
  · rcases k with ⟨rfl, k1, k2⟩ | ⟨rfl, rfl, k1⟩
    · exact ⟨denc_inj h1 k1 (h2.trans k2.symm), rfl⟩
    · exact absurd h2 (k1 l h1)
  · rcases k with ⟨rfl, k1, k2⟩ | ⟨rfl, rfl, k1⟩
    · exact absurd k2 (h1 m k1)
    · exact ⟨rfl, rfl⟩
end Go.Proofs.Ytmgbhmmmegknjaa
