/-
  Plain law: a frame of which one byte behind its head is turned is none.
  Conditions: a payload of at most 16,777,216 bytes.
-/
import Derived.Test.YtgipbkfpfidpmaaFb
import Derived.Test.YtgipbkfpfidpmaaFg
import Derived.Test.YtgipbkfpfidpmaaCq
import Derived.Test.YtgipbkfpfidpmaaVq
namespace Go.Proofs.Ytgipbkfpfidpmaa

theorem fs4_go_inj : ∀ (a b : List UInt8) (s t : Nat), a.length = b.length → a.foldl (fun s x => s * 256 + x.toNat) s = b.foldl (fun s x => s * 256 + x.toNat) t → s = t ∧ a = b
  | [], [], s, t, _, h => ⟨h, rfl⟩
  | x :: a, y :: b, s, t, hl, h => by
    have hx := x.toNat_lt
    have hy := y.toNat_lt
    obtain ⟨h1, h2⟩ := fs4_go_inj a b (s * 256 + x.toNat) (t * 256 + y.toNat) (by simpa using hl) h
    have h3 : x.toNat = y.toNat := by omega
    exact ⟨by omega, by rw [h2, UInt8.toNat_inj.1 h3]⟩
  | [], _ :: _, _, _, hl, _ => by cases hl
  | _ :: _, [], _, _, hl, _ => by cases hl
theorem fs4_inj {a b : List UInt8} (hl : a.length = b.length) (h : fs4 a = fs4 b) : a = b := (fs4_go_inj a b 0 0 hl h).2
theorem fs4_be4 {S : Nat} (h : U32 S) : fs4 (be4 S) = S := by
  have h' := h.lt
  simp only [fs4, be4, List.foldl_cons, List.foldl_nil, UInt8.toNat_ofNat']
  omega
theorem be4_len (S : Nat) : (be4 S).length = 4 := rfl

/-- what stands behind a head of n bytes' number is 4 + n bytes and more: whether its sum is right decides -/
theorem fgE_enc {n : Nat} (hn : n ≤ 16777216) (M rest : List UInt8) (hM : M.length = 4 + n) :
    fgE (enc n ++ (M ++ rest)) = if cnext 0 (enc n ++ M.drop 4) ≠ fs4 (M.take 4) then 40 else 0 := by
  obtain ⟨h1, h2, h3⟩ := vg_enc (U64.mk (show n < _ by omega)) (M ++ rest)
  have hh : fgHead (enc n ++ (M ++ rest)) = enc n := by
    unfold fgHead
    rw [h3, List.length_append, List.length_append]
    rw [show (enc n).length + (M.length + rest.length) - (M.length + rest.length) = (enc n).length from by omega]
    simp
  have hp : fgPay (enc n ++ (M ++ rest)) = M.drop 4 := by
    unfold fgPay
    rw [h3, h1, List.drop_append_of_le_length (by omega), List.take_append_of_le_length (by rw [List.length_drop]; omega), List.take_of_length_le (by rw [List.length_drop]; omega)]
  unfold fgE
  rw [hh, hp, h1, h2, h3, if_neg (by omega), if_neg (by omega), if_neg (by rw [List.length_append]; omega), List.take_append_of_le_length (by omega)]

theorem set_ne {L : List UInt8} {m : Nat} (hm : m < L.length) {b : UInt8} (hb : b ≠ 0) : L.set m (L[m] ^^^ b) ≠ L := by
  intro he
  have h3 := congrArg (fun l => l[m]?) he
  simp only [List.getElem?_set_self hm] at h3
  rw [List.getElem?_eq_getElem hm] at h3
  have h4 : L[m] ^^^ b = L[m] := Option.some.inj h3
  apply hb
  have h5 := congrArg (L[m] ^^^ ·) h4
  simpa [← UInt8.xor_assoc] using h5

theorem turned_fr {ps : List UInt8} (hn : ps.length ≤ 16777216) {m : Nat} {b : UInt8} (hb : b ≠ 0) (L : List UInt8) (hL : L = be4 (cnext 0 (enc ps.length ++ ps)) ++ ps) (hm : m < L.length) (rest : List UInt8) :
    fgE (enc ps.length ++ (L.set m (L[m] ^^^ b) ++ rest)) = 40 := by
  have hne := set_ne hm hb
  have hlen : L.length = 4 + ps.length := by rw [hL, List.length_append, be4_len]
  have h32 : U32 (cnext 0 (enc ps.length ++ ps)) := cnext_32 _ _
  have hd : L.drop 4 = ps := by rw [hL, List.drop_append_of_le_length (by rw [be4_len]; omega), List.drop_of_length_le (by rw [be4_len]; omega), List.nil_append]
  have ht : L.take 4 = be4 (cnext 0 (enc ps.length ++ ps)) := by rw [hL, List.take_append_of_le_length (by rw [be4_len]; omega), List.take_of_length_le (by rw [be4_len]; omega)]
  generalize hM : L.set m (L[m] ^^^ b) = M at hne
  have hMl : M.length = L.length := by rw [← hM, List.length_set]
  rw [fgE_enc hn M rest (by omega), if_pos]
  intro he
  apply hne
  rw [← List.take_append_drop 4 M, ← List.take_append_drop 4 L]
  by_cases h4 : m < 4
  · have e1 : M.drop 4 = L.drop 4 := by rw [← hM, List.drop_set_of_lt h4]
    rw [e1, hd] at he
    have e2 : M.take 4 = L.take 4 := fs4_inj (by rw [List.length_take, List.length_take, hMl]) (by rw [← he, ht, fs4_be4 h32])
    rw [e1, e2]
  · have e2 : M.take 4 = L.take 4 := by rw [← hM, List.take_set_of_le (by omega)]
    rw [e2, ht, fs4_be4 h32, ← hd] at he
    have e3 : enc (L.drop 4).length ++ M.drop 4 = enc (L.drop 4).length ++ L.drop 4 := by
      refine turned_sum (s := 0) (k := (enc (L.drop 4).length).length + (m - 4)) ?_ ?_ ?_ ?_
      · simp [hMl]
      · have : M.drop 4 = (L.drop 4).set (m - 4) (L[m] ^^^ b) := by rw [← hM, List.drop_set, if_neg (by omega)]
        rw [this, List.take_append, List.take_append, List.take_set_of_le (by omega)]
      · have : M.drop 4 = (L.drop 4).set (m - 4) (L[m] ^^^ b) := by rw [← hM, List.drop_set, if_neg (by omega)]
        rw [this, List.drop_append, List.drop_append, List.drop_set_of_lt (by omega)]
      · exact he
    rw [e2, List.append_cancel_left e3]

end Go.Proofs.Ytgipbkfpfidpmaa
