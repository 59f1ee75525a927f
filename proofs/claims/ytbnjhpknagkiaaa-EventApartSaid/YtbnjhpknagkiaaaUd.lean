/-
  Words of texts; contract of token.word.
  Conditions: runes.
-/
import Derived.Test.YtbnjhpknagkiaaaUa
import Derived.Test.YtbnjhpknagkiaaaUc
namespace Go.Proofs.Ytbnjhpknagkiaaa
open Go.RowKit Go.Op

/-- a word of runes, cut -/
def wordR : List UInt8 → List Int → List UInt8
  | acc, [] => acc
  | acc, r :: l => if 32 < acc.length + (renc (lowR r)).length then acc else wordR (acc ++ renc (lowR r)) l
theorem lowR_r {r : Int} (h : IsR r) : IsR (lowR r) := by
  obtain ⟨h1, h2, h3⟩ := h
  unfold lowR
  split
  · rename_i hb
    simp only [inS, Bool.or_eq_true, Bool.and_eq_true, decide_eq_true_eq, bne_iff_ne] at hb
    exact ⟨by omega, by omega, by omega⟩
  · split
    · rename_i hb
      simp only [inS, Bool.and_eq_true, decide_eq_true_eq, bne_iff_ne] at hb
      exact ⟨by omega, by omega, by omega⟩
    · exact ⟨h1, h2, h3⟩
/-- runes -/
def Rns (l : List Int) : Prop := ∀ r ∈ l, IsR r
/-- words' runes -/
def splR : List Int → List Int → List (List Int)
  | cur, [] => if cur.isEmpty then [] else [cur]
  | cur, r :: l => if isWd r = true then splR (cur ++ [r]) l else if cur.isEmpty then splR [] l else cur :: splR [] l
theorem splR_end : ∀ (l cur : List Int), splR cur (l ++ [32]) = splR cur l
  | [], cur => by
    have : isWd 32 = false := by decide
    simp only [List.nil_append, splR, this]
    cases cur <;> rfl
  | r :: l, cur => by
    simp only [List.cons_append, splR]
    split
    · exact splR_end l _
    · split
      · exact splR_end l _
      · rw [splR_end l []]
/-- words where they stand -/
def tokI (ws : List (List UInt8)) : List (Tx × Int) := ws.zipIdx.map fun p => (⟨p.1⟩, (p.2 : Int))
theorem tokI_len (ws : List (List UInt8)) : (tokI ws).length = ws.length := by simp [tokI]
theorem tokI_snoc (ws : List (List UInt8)) (x : List UInt8) : tokI (ws ++ [x]) = tokI ws ++ [(⟨x⟩, (ws.length : Int))] := by simp [tokI, List.zipIdx_append]
def toksR (l : List Int) : List (List UInt8) := (splR [] l).map (wordR [])

set_option maxHeartbeats 1600000 in
set_option maxRecDepth 100000 in
theorem word_any (w : World) (v : Value) (l : List Int) (hv : SL w (Bw w) v l) (ha : Rns l) (h0 : l ≠ []) :
    Calls Try.prog 69 #[v] w fun e w' => e = .returned (.string ⟨(wordR [] l).toArray⟩) ∧ Ext w w' := by
  obtain ⟨A, c, rfl, hc, hm⟩ := hv.form
  have hml : (l.length : Int) ≤ 9223372036854775807 := by unfold maxLen at hm; omega
  have Hv := Lib.hid hv
  have Ha := Lib.hid ha
  have H0 := Lib.hid h0
  have hB := Lib.fresh_isBuilder 113 5 w
  have HB := Lib.hid (show Bld w.heap.size w.heap.size (Lib.byteCells []) (w.alloc (.cells #[.pointer none, .slice none 0 0] 113)) from hB)
  clear hv ha h0 hB
  go_enter Try.func69, Try.ntmps69
  go_wp2_with fail
  go_loopw [9] (fun i wr => ∃ (k : Nat) (acc : List UInt8), i = .int .i64 k ∧ k ≤ l.length ∧ wordR [] l = wordR acc (l.drop k) ∧ (0 < k → acc ≠ []) ∧ acc.length ≤ 32 ∧ Bld w.heap.size w.heap.size (Lib.byteCells acc) wr ∧ Ext w wr) (fun i _ => l.length - (intOf i).toNat)
  case atStart => exact ⟨0, [], rfl, Nat.zero_le _, by rw [List.drop_zero], fun h => absurd h (by omega), Nat.zero_le _, HB.out, Ext.of_alloc _ _⟩
  case round =>
    obtain ⟨k, acc, rfl, hk, hw, hne, hal, hbd, hx⟩ := hrel
    have hsz := hx.size
    have Hbd := Lib.hid hbd
    have Hx := Lib.hid hx
    have Hw := Lib.hid hw
    have Hne := Lib.hid hne
    clear hbd hw hne
    by_cases hlk : k < l.length
    · have hkl : (k : Int) < l.length := by omega
      obtain ⟨ad, rfl, d0, h6⟩ : ∃ ad, A = some ad ∧ w.cell? (ad.add k) = some (.int .i64 l[k]) ∧ I6 l[k] := by
        obtain ⟨ad, cs, rfl, _, ⟨rfl, h6⟩, hc⟩ := Hv.out.at_ hlk
        have := hc 0 _ rfl
        simp only [Rep.n, Nat.mul_one, Nat.add_zero] at this
        exact ⟨ad, rfl, this, h6⟩
      have q0 := Ext.keeps hx d0
      have hdr := List.drop_eq_getElem_cons hlk
      have hr := lowR_r (Ha.out _ (List.getElem_mem hlk))
      generalize l[k] = r0 at d0 q0 h6 hdr hr
      have hrp := renc_pos (lowR r0)
      have hst : wordR acc (l.drop k) = if 32 < acc.length + (renc (lowR r0)).length then acc else wordR (acc ++ renc (lowR r0)) (l.drop (k + 1)) := by rw [hdr]; rfl
      generalize hm1 : lowR r0 = m at hr hst hrp
      have hri := hr.i6
      generalize hbs : renc m = rb at hst hrp
      have Hstep := Lib.hid hst
      have Hr := Lib.hid hr
      have Hbs := Lib.hid hbs
      obtain ⟨hr0, hr4⟩ := hrp
      have hsz : (ByteArray.mk rb.toArray).size = rb.length := by show rb.toArray.size = _; simp
      clear d0 hdr hx hst hr hbs
      go_wp2_with fail
      refine (lower_any wr r0).mono ?_
      rintro e w2 ⟨rfl, hx2⟩
      rw [hm1]
      have hsl := SL.newL w2 #[.int .i64 m] 3 (l := [(m : Int)]) (S := fun _ => False) 1 rfl (by simp [maxLen]) (Reps.single ⟨rfl, hri⟩) (fun _ h => h.elim)
      have Hsl := Lib.hid hsl
      have Hx2 := Lib.hid (Ext.al hx2 (.cells #[.int .i64 m] 3))
      clear hx2 hsl hm1 hri h6
      go_wp2_with fail
      refine (encode_one _ _ m Hsl.out Hr.out).mono ?_
      rintro e w3 ⟨rfl, hx3⟩
      rw [Hbs.out]
      have Hx3 := Lib.hid (Ext.trans Hx.out (Ext.trans Hx2.out hx3))
      have Hbd3 : Hid (Bld w.heap.size w.heap.size (Lib.byteCells acc) w3) := Lib.hid (Bld.ext (Bld.ext Hbd.out Hx2.out) hx3)
      clear hx3
      go_wp2_with fail
      refine (blen_any _ _ _ w3 Hbd3.out).mono ?_
      rintro e w3 ⟨rfl, rfl⟩
      rw [Lib.byteCells_length]
      by_cases hgt : 32 < acc.length + rb.length
      · have hgi : (32 : Int) < (acc.length : Int) + rb.length := by omega
        have hres : wordR [] l = acc := by rw [Hw.out, Hstep.out, if_pos hgt]
        have Hres := Lib.hid hres
        have hacc : acc ≠ [] := fun h => by rw [h, List.length_nil] at hgt; omega
        have Hacc := Lib.hid hacc
        clear hres hacc hgt
        go_wp2_with fail
        refine (bstring_any _ _ acc w3 Hbd3.out Hacc.out).mono ?_
        rintro e w4 ⟨rfl, hx4⟩
        go_wp2
        go_ret
        exact ⟨by rw [Hres.out]; rfl, Below.trans Hx3.out hx4⟩
      · have hgi : decide ((32 : Int) < (acc.length : Int) + rb.length) = false := decide_eq_false (by omega)
        have Hw2 : Hid (wordR [] l = wordR (acc ++ rb) (l.drop (k + 1))) := Lib.hid (by rw [Hw.out, Hstep.out, if_neg hgt])
        have Hle : Hid (acc.length + rb.length ≤ 32) := Lib.hid (by omega)
        have hacc : acc ++ rb ≠ [] := fun h => by have := congrArg List.length h; rw [List.length_append, List.length_nil] at this; omega
        have Hacc := Lib.hid hacc
        clear hacc
        clear hgt
        go_wp2_with fail
        refine (bwrite_any _ _ _ _ w3 Hbd3.out (by rw [Lib.byteCells_length, hsz]; have := Hle.out; omega) (by have := Hx3.out.size; omega)).mono ?_
        rintro e w4 ⟨rfl, hb4, hx4⟩
        have hcells : Lib.byteCells acc ++ Lib.strCells ⟨rb.toArray⟩ = Lib.byteCells (acc ++ rb) := by simp [Lib.byteCells, Lib.strCells]
        rw [hcells] at hb4
        have Hb4 : Hid (Bld w.heap.size w.heap.size (Lib.byteCells (acc ++ rb)) w4) := Lib.hid (.inr hb4)
        have Hx4 := Lib.hid (Below.trans Hx3.out hx4)
        clear hcells hb4 hx4
        go_wp2_with fail
        exact ⟨⟨k + 1, acc ++ rb, rfl, by omega, Hw2.out, fun _ => Hacc.out, by rw [List.length_append]; exact Hle.out, Hb4.out, Hx4.out⟩, by simp only [intOf]; omega⟩
    · have hkl : ¬(k : Int) < l.length := by omega
      have hres : wordR [] l = acc := by rw [Hw.out, List.drop_of_length_le (by omega)]; rfl
      have Hres := Lib.hid hres
      have hacc : acc ≠ [] := Hne.out (by have : l.length ≠ 0 := fun h => H0.out (List.eq_nil_of_length_eq_zero h); omega)
      have Hacc := Lib.hid hacc
      clear hres hacc hx
      go_wp2_with fail
      refine (bstring_any _ _ acc wr Hbd.out Hacc.out).mono ?_
      rintro e w4 ⟨rfl, hx4⟩
      go_wp2
      go_ret
      exact ⟨by rw [Hres.out]; rfl, Below.trans Hx.out hx4⟩
end Go.Proofs.Ytbnjhpknagkiaaa
