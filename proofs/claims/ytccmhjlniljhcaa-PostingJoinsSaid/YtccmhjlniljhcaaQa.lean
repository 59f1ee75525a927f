/-
  Plain law of postings: which rows may be; a row's bytes.
  Conditions: those of each statement.
-/
import Derived.Test.YtccmhjlniljhcaaVp
import Derived.Test.YtccmhjlniljhcaaDt
namespace Go.Proofs.Ytccmhjlniljhcaa

abbrev Post := Int × List Int
/-- numbers rise strictly from above 'last' to below 'bound' -/
def ris (last bound : Int) : List Int → Bool
  | [] => true
  | n :: l => decide (last < n) && (decide (n < bound) && ris n bound l)
def pOk (p : Post) : Bool := decide (0 < p.2.length) && ris (-1) 1048576 p.2
/-- a row may be -/
def psOk (l : List Post) : Bool := ris (-1) 65536 (l.map (·.1)) && l.all pOk
/-- rising numbers' bytes, each by how much it is above the one ahead, less 1 -/
def stp (last : Int) : List Int → List UInt8
  | [] => []
  | n :: l => enc (n - last - 1).toNat ++ stp n l
/-- a post's bytes -/
def pby (last : Int) (p : Post) : List UInt8 := enc (p.1 - last - 1).toNat ++ enc p.2.length ++ stp (-1) p.2
def psby (last : Int) : List Post → List UInt8
  | [] => []
  | p :: l => pby last p ++ psby p.1 l
/-- the last doc -/
def plast (last : Int) : List Post → Int
  | [] => last
  | p :: l => plast p.1 l
theorem psby_snoc : ∀ (l : List Post) (last : Int) (p : Post), psby last (l ++ [p]) = psby last l ++ pby (plast last l) p
  | [], last, p => by simp [psby, plast]
  | q :: l, last, p => by simp [psby, plast, psby_snoc l]
theorem plast_snoc : ∀ (l : List Post) (last : Int) (p : Post), plast last (l ++ [p]) = p.1
  | [], last, p => rfl
  | q :: l, last, p => by simp [plast, plast_snoc l]
theorem plast_append : ∀ (l m : List Post) (last : Int), plast last (l ++ m) = plast (plast last l) m
  | [], m, last => rfl
  | q :: l, m, last => by simp [plast, plast_append l]
/-- the last number -/
def ilast (last : Int) : List Int → Int
  | [] => last
  | n :: l => ilast n l
theorem ilast_snoc : ∀ (l : List Int) (last n : Int), ilast last (l ++ [n]) = n
  | [], _, _ => rfl
  | m :: l, _, n => ilast_snoc l m n
theorem stp_snoc : ∀ (l : List Int) (last n : Int), stp last (l ++ [n]) = stp last l ++ enc (n - ilast last l - 1).toNat
  | [], last, n => by simp [stp, ilast]
  | m :: l, last, n => by simp only [List.cons_append, stp, ilast, stp_snoc l, List.append_assoc]
/-- the blocks' heads and bodies, of n blocks and fewer -/
def blks : Nat → Int → List Post → List UInt8 × List UInt8
  | 0, _, _ => ([], [])
  | n + 1, last, l => if l.length = 0 then ([], []) else
    (enc (plast last (l.take 32)).toNat ++ enc (psby last (l.take 32)).length ++ (blks n (plast last (l.take 32)) (l.drop 32)).1, psby last (l.take 32) ++ (blks n (plast last (l.take 32)) (l.drop 32)).2)
/-- a row's bytes -/
def penc (l : List Post) : List UInt8 := enc l.length ++ (blks l.length (-1) l).1 ++ (blks l.length (-1) l).2

theorem ris_cons {last bound n : Int} {l : List Int} : ris last bound (n :: l) = true ↔ last < n ∧ n < bound ∧ ris n bound l = true := by simp [ris]
theorem ris_bounds : ∀ (l : List Int) (last bound : Int), ris last bound l = true → ∀ n ∈ l, last < n ∧ n < bound
  | [], _, _, _, n, hn => by cases hn
  | m :: l, last, bound, h, n, hn => by
    obtain ⟨h1, h2, h3⟩ := ris_cons.1 h
    rcases List.mem_cons.1 hn with rfl | hn
    · exact ⟨h1, h2⟩
    · have := ris_bounds l m bound h3 n hn
      omega

section
open Go.RowKit
variable {w : World} {S : Nat → Prop} {A : Option Addr} {c n : Nat}
theorem SL.int_at {l : List Int} (h : SL w S (.slice A n c) l) {i : Nat} (hi : i < l.length) : ∃ ad, A = some ad ∧ S ad.block ∧ w.cell? (ad.add i) = some (.int .i64 l[i]) ∧ I6 l[i] := by
  obtain ⟨ad, cs, rfl, hS, ⟨rfl, h6⟩, hc⟩ := h.at_ hi
  have := hc 0 _ rfl
  simp only [Rep.n, Nat.mul_one, Nat.add_zero] at this
  exact ⟨ad, rfl, hS, this, h6⟩
theorem addField (x : Addr) (n : Nat) : x.add (n + 1) = ⟨(x.add n).block, (x.add n).off + 1, none⟩ := by
  unfold Addr.add
  by_cases h : n = 0
  · simp [h]
  · simp [h, Nat.add_assoc]
theorem SL.post_at {l : List Post} (h : SL w S (.slice A n c) l) {i : Nat} (hi : i < l.length) : ∃ ad u, A = some ad ∧ S ad.block ∧ w.cell? (ad.add (i * 2)) = some (.int .i64 l[i].1) ∧
    w.cell? ⟨(ad.add (i * 2)).block, (ad.add (i * 2)).off + 1, none⟩ = some u ∧ SL w S u l[i].2 ∧ I6 l[i].1 := by
  obtain ⟨ad, cs, rfl, hS, ⟨c1, c2, rfl, ⟨rfl, h6⟩, u, rfl, hu⟩, hc⟩ := h.at_ hi
  have h0 := hc 0 _ rfl
  have h1 := hc 1 _ rfl
  simp only [Rep.n, Nat.add_zero] at h0 h1
  rw [addField] at h1
  exact ⟨ad, u, rfl, hS, h0, h1, hu, h6⟩
/-- a post's cells -/
theorem rep_post {a : Int} {u : Value} {ps : List Int} (h6 : I6 a) (hu : SL w S u ps) : Rep.r w S [.int .i64 a, u] ((a, ps) : Post) := ⟨[.int .i64 a], [u], rfl, ⟨rfl, h6⟩, u, rfl, hu⟩
end

end Go.Proofs.Ytccmhjlniljhcaa
