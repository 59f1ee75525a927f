/-
  Words of texts: contracts of token.word, token.Tokens at ASCII.
  Conditions: bytes below 128; at most 100,000.
-/
import Derived.Test.YtbnjhpknagkiaaaUa
import Derived.Test.YtbnjhpknagkiaaaUc
namespace Go.Proofs.Ytbnjhpknagkiaaa
open Go.RowKit Go.Op

/-- a rune's bytes -/
def renc0 (n : Nat) : List UInt8 :=
  if n < 128 then [UInt8.ofNat n] else if n < 2048 then [UInt8.ofNat (192 + n / 64), UInt8.ofNat (128 + n % 64)]
  else if n < 65536 then [UInt8.ofNat (224 + n / 4096), UInt8.ofNat (128 + n / 64 % 64), UInt8.ofNat (128 + n % 64)]
  else [UInt8.ofNat (240 + n / 262144), UInt8.ofNat (128 + n / 4096 % 64), UInt8.ofNat (128 + n / 64 % 64), UInt8.ofNat (128 + n % 64)]
def renc (r : Int) : List UInt8 := renc0 (if r < 0 ∨ 1114111 < r ∨ (55296 ≤ r ∧ r ≤ 57343) then 65533 else r.toNat)
theorem renc_asc {n : Nat} (h : n < 128) : renc (n : Int) = [UInt8.ofNat n] := by
  unfold renc
  rw [if_neg (show ¬((n : Int) < 0 ∨ 1114111 < (n : Int) ∨ (55296 ≤ (n : Int) ∧ (n : Int) ≤ 57343)) by omega), Int.toNat_natCast]
  unfold renc0
  rw [if_pos h]
theorem renc0_pos (n : Nat) : 0 < (renc0 n).length ∧ (renc0 n).length ≤ 4 := by
  unfold renc0
  split
  · simp
  · split
    · simp
    · split <;> simp
theorem renc_pos (r : Int) : 0 < (renc r).length ∧ (renc r).length ≤ 4 := renc0_pos _
/-- a word of runes, cut -/
def wordR : List UInt8 → List Int → List UInt8
  | acc, [] => acc
  | acc, r :: l => if 32 < acc.length + (renc (lowR r)).length then acc else wordR (acc ++ renc (lowR r)) l
theorem lowR_asc {n : Nat} (h : n < 128) : ∃ m : Nat, lowR (n : Int) = (m : Int) ∧ m < 128 := by
  unfold lowR
  by_cases h1 : (65 : Int) ≤ n ∧ (n : Int) ≤ 90
  · refine ⟨n + 32, ?_, by omega⟩
    rw [if_pos (by simp only [inS, Bool.or_eq_true, Bool.and_eq_true, decide_eq_true_eq, bne_iff_ne]; omega)]
    rfl
  · refine ⟨n, ?_, h⟩
    rw [if_neg (by simp only [inS, Bool.or_eq_true, Bool.and_eq_true, decide_eq_true_eq, bne_iff_ne]; omega), if_neg (by simp only [inS, Bool.and_eq_true, decide_eq_true_eq, bne_iff_ne]; omega)]
/-- runes below 128 -/
def AscR (l : List Int) : Prop := ∀ r ∈ l, ∃ n : Nat, r = (n : Int) ∧ n < 128
/-- words' runes -/
def splR : List Int → List Int → List (List Int)
  | cur, [] => if cur.isEmpty then [] else [cur]
  | cur, r :: l => if isWd r = true then splR (cur ++ [r]) l else if cur.isEmpty then splR [] l else cur :: splR [] l
theorem splR_end : ∀ (l cur : List Int), splR cur (l ++ [32]) = splR cur l
  | [], cur => by
    have : isWd 32 = false := by decide
    simp only [List.nil_append, splR, this]
    cases cur <;> rfl
  | r :: l, cur => by
    simp only [List.cons_append, splR]
    split
    · exact splR_end l _
    · split
      · exact splR_end l _
      · rw [splR_end l []]
/-- words where they stand -/
def tokI (ws : List (List UInt8)) : List (Tx × Int) := ws.zipIdx.map fun p => (⟨p.1⟩, (p.2 : Int))
theorem tokI_len (ws : List (List UInt8)) : (tokI ws).length = ws.length := by simp [tokI]
theorem tokI_snoc (ws : List (List UInt8)) (x : List UInt8) : tokI (ws ++ [x]) = tokI ws ++ [(⟨x⟩, (ws.length : Int))] := by simp [tokI, List.zipIdx_append]
def toksR (l : List Int) : List (List UInt8) := (splR [] l).map (wordR [])

set_option maxHeartbeats 1600000 in
set_option maxRecDepth 100000 in
theorem word_asc (w : World) (v : Value) (l : List Int) (hv : SL w (Bw w) v l) (ha : AscR l) (h0 : l ≠ []) :
    Calls Try.prog 69 #[v] w fun e w' => e = .returned (.string ⟨(wordR [] l).toArray⟩) ∧ Ext w w' := by
  obtain ⟨A, c, rfl, hc, hm⟩ := hv.form
  have hml : (l.length : Int) ≤ 9223372036854775807 := by unfold maxLen at hm; omega
  have Hv := Lib.hid hv
  have Ha := Lib.hid ha
  have H0 := Lib.hid h0
  have hB := Lib.fresh_isBuilder 113 5 w
  have HB := Lib.hid (show Bld w.heap.size w.heap.size (Lib.byteCells []) (w.alloc (.cells #[.pointer none, .slice none 0 0] 113)) from hB)
  clear hv ha h0 hB
  go_enter Try.func69, Try.ntmps69
  go_wp2_with fail
  go_loopw [9] (fun i wr => ∃ (k : Nat) (acc : List UInt8), i = .int .i64 k ∧ k ≤ l.length ∧ wordR [] l = wordR acc (l.drop k) ∧ (0 < k → acc ≠ []) ∧ acc.length ≤ 32 ∧ Bld w.heap.size w.heap.size (Lib.byteCells acc) wr ∧ Ext w wr) (fun i _ => l.length - (intOf i).toNat)
  case atStart => exact ⟨0, [], rfl, Nat.zero_le _, by rw [List.drop_zero], fun h => absurd h (by omega), Nat.zero_le _, HB.out, Ext.of_alloc _ _⟩
  case round =>
    obtain ⟨k, acc, rfl, hk, hw, hne, hal, hbd, hx⟩ := hrel
    have hsz := hx.size
    have Hbd := Lib.hid hbd
    have Hx := Lib.hid hx
    have Hw := Lib.hid hw
    have Hne := Lib.hid hne
    clear hbd hw hne
    by_cases hlk : k < l.length
    · have hkl : (k : Int) < l.length := by omega
      obtain ⟨ad, rfl, d0, h6⟩ : ∃ ad, A = some ad ∧ w.cell? (ad.add k) = some (.int .i64 l[k]) ∧ I6 l[k] := by
        obtain ⟨ad, cs, rfl, _, ⟨rfl, h6⟩, hc⟩ := Hv.out.at_ hlk
        have := hc 0 _ rfl
        simp only [Rep.n, Nat.mul_one, Nat.add_zero] at this
        exact ⟨ad, rfl, this, h6⟩
      have q0 := Ext.keeps hx d0
      have hdr := List.drop_eq_getElem_cons hlk
      obtain ⟨n, hn, hn128⟩ := Ha.out _ (List.getElem_mem hlk)
      rw [hn] at d0 q0 hdr
      obtain ⟨m, hm1, hm2⟩ := lowR_asc hn128
      have hre := renc_asc hm2
      have Hstep : Hid (wordR acc (l.drop k) = if 32 < acc.length + 1 then acc else wordR (acc ++ [UInt8.ofNat m]) (l.drop (k + 1))) := Lib.hid (by rw [hdr]; simp only [wordR, hm1, hre, List.length_cons, List.length_nil])
      clear d0 hdr hn hre hx
      go_wp2_with fail
      refine (lower_any wr n).mono ?_
      rintro e w2 ⟨rfl, hx2⟩
      rw [hm1]
      have hsl := SL.newL w2 #[.int .i64 m] 3 (l := [(m : Int)]) (S := fun _ => False) 1 rfl (by simp [maxLen]) (Reps.single ⟨rfl, I6.mk (by omega)⟩) (fun _ h => h.elim)
      have Hsl := Lib.hid hsl
      have Hx2 := Lib.hid (Ext.al hx2 (.cells #[.int .i64 m] 3))
      clear hx2 hsl hm1
      go_wp2_with fail
      refine (encode_asc _ _ m Hsl.out hm2).mono ?_
      rintro e w3 ⟨rfl, hx3⟩
      have Hx3 := Lib.hid (Ext.trans Hx.out (Ext.trans Hx2.out hx3))
      have Hbd3 : Hid (Bld w.heap.size w.heap.size (Lib.byteCells acc) w3) := Lib.hid (Bld.ext (Bld.ext Hbd.out Hx2.out) hx3)
      clear hx3
      go_wp2_with fail
      refine (blen_any _ _ _ w3 Hbd3.out).mono ?_
      rintro e w3 ⟨rfl, rfl⟩
      rw [Lib.byteCells_length]
      by_cases hgt : 32 < acc.length + 1
      · have hgi : (32 : Int) < (acc.length : Int) + 1 := by omega
        have hres : wordR [] l = acc := by rw [Hw.out, Hstep.out, if_pos hgt]
        have Hres := Lib.hid hres
        have hacc : acc ≠ [] := fun h => by rw [h] at hgt; simp at hgt
        have Hacc := Lib.hid hacc
        clear hres hacc hgt
        go_wp2_with fail
        refine (bstring_any _ _ acc w3 Hbd3.out Hacc.out).mono ?_
        rintro e w4 ⟨rfl, hx4⟩
        go_wp2
        go_ret
        exact ⟨by rw [Hres.out]; rfl, Below.trans Hx3.out hx4⟩
      · have hgi : decide ((32 : Int) < (acc.length : Int) + 1) = false := decide_eq_false (by omega)
        have Hw2 : Hid (wordR [] l = wordR (acc ++ [UInt8.ofNat m]) (l.drop (k + 1))) := Lib.hid (by rw [Hw.out, Hstep.out, if_neg hgt])
        have Hle : Hid (acc.length + 1 ≤ 32) := Lib.hid (by omega)
        clear hgt
        go_wp2_with fail
        refine (bwrite_any _ _ _ _ w3 Hbd3.out (by rw [Lib.byteCells_length, show (ByteArray.mk #[UInt8.ofNat m]).size = 1 from rfl]; omega) (by have := Hx3.out.size; omega)).mono ?_
        rintro e w4 ⟨rfl, hb4, hx4⟩
        have hcells : Lib.byteCells acc ++ Lib.strCells ⟨#[UInt8.ofNat m]⟩ = Lib.byteCells (acc ++ [UInt8.ofNat m]) := by simp [Lib.byteCells, Lib.strCells]
        rw [hcells] at hb4
        have Hb4 : Hid (Bld w.heap.size w.heap.size (Lib.byteCells (acc ++ [UInt8.ofNat m])) w4) := Lib.hid (.inr hb4)
        have Hx4 := Lib.hid (Below.trans Hx3.out hx4)
        clear hcells hb4 hx4
        go_wp2_with fail
        exact ⟨⟨k + 1, acc ++ [UInt8.ofNat m], rfl, by omega, Hw2.out, fun _ => by simp, by rw [List.length_append]; exact Hle.out, Hb4.out, Hx4.out⟩, by simp only [intOf]; omega⟩
    · have hkl : ¬(k : Int) < l.length := by omega
      have hres : wordR [] l = acc := by rw [Hw.out, List.drop_of_length_le (by omega)]; rfl
      have Hres := Lib.hid hres
      have hacc : acc ≠ [] := Hne.out (by have : l.length ≠ 0 := fun h => H0.out (List.eq_nil_of_length_eq_zero h); omega)
      have Hacc := Lib.hid hacc
      clear hres hacc hx
      go_wp2_with fail
      refine (bstring_any _ _ acc wr Hbd.out Hacc.out).mono ?_
      rintro e w4 ⟨rfl, hx4⟩
      go_wp2
      go_ret
      exact ⟨by rw [Hres.out]; rfl, Below.trans Hx.out hx4⟩
end Go.Proofs.Ytbnjhpknagkiaaa
