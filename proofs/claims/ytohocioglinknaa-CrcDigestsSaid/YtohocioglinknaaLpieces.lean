/-
  CrcPieces: the law's contract: it answers true and leaves all old memory alone.
  Conditions: none.
-/
import Derived.Test.YtohocioglinknaaCc
import Derived.Lib.MinMax
namespace Go.Proofs.Ytohocioglinknaa
open Go.RowKit

theorem one_ (w : World) (a : Value) (xs : List UInt8) (ha : BS w w.heap.size a xs) :
    BBS (w.alloc (.cells #[a] 22)) (w.heap.size + 1) (.slice (some ⟨w.heap.size, 0, none⟩) 1 1) [xs] :=
  BBS.lit w w.heap.size #[a] _ [xs] 1 rfl rfl (Nat.le_refl _) (by simp [maxLen]) (by
    intro i hi
    match i, hi with
    | 0, _ => exact ⟨_, rfl, ha⟩)
/-- 'b[k:k+n]' -/
theorem BS.mid {w : World} {B c : Nat} {A : Option Addr} {bs : List UInt8} (h : BS w B (.slice A bs.length c) bs) {k n : Nat} (hk : k + n ≤ bs.length) :
    BS w B (.slice (if c = k then A else A.map (·.add k)) n (c - k)) ((bs.drop k).take n) := by
  have h1 := h.cut_ (k := k) (by omega)
  have h2 := BS.take_ (bs := bs.drop k) (A := if c = k then A else A.map (·.add k)) (c := c - k) (k := n) (by rw [List.length_drop]; exact h1) (by rw [List.length_drop]; omega)
  exact h2

theorem min_sub (n k b : Nat) (h : k ≤ n) : ∃ N : Nat, N = min (n - k) b ∧ min ((n : Int) - (k : Int)) (b : Int) = (N : Int) ∧ k + N ≤ n := ⟨min (n - k) b, rfl, by omega, by omega⟩
/-- the sum of what lies ahead of k, gone on by the n bytes at k -/
theorem cnext_mid (xs : List UInt8) (k n : Nat) : cnext (cnext 0 (xs.take k)) ((xs.drop k).take n) = cnext 0 (xs.take (k + n)) := by
  rw [← cnext_append, List.take_add]
theorem cnext_rest (xs : List UInt8) (k : Nat) : cnext (cnext 0 (xs.take k)) (xs.drop k) = cnext 0 (xs.take xs.length) := by
  rw [← cnext_append, List.take_append_drop, List.take_length]

set_option maxHeartbeats 4000000 in
set_option maxRecDepth 100000 in
theorem pieces_any (w : World) (va vb : Value) (as0 qs : List UInt8) (ha : BS w w.heap.size va as0) (hb : BS w w.heap.size vb qs) (hq : qs.length ≤ 140737488355328) :
    Calls Try.prog 4 #[va, vb] w fun e w' => e = .returned (.bool true) ∧ Ext w w' := by
  obtain ⟨Aq, cq, rfl⟩ := hb.form
  have Hq := Lib.hid hb
  clear hb
  have Q := Lib.hid hq
  clear hq
  go_enter Try.func4, Try.ntmps4
  go_wp2_with fail
  refine (cut_any w _ va as0 ha).mono ?_
  rintro e w' ⟨a, rfl, ha, rfl⟩
  have la : (as0.take 3000).length ≤ 3000 := by rw [List.length_take]; omega
  generalize as0.take 3000 = xs at ha la
  obtain ⟨A, c, rfl⟩ := ha.form
  have Ha := Lib.hid ha
  clear ha
  go_wp2_with fail
  go_loopw [5, 6, 7] (fun s at_ i wr => ∃ k m : Nat, at_ = .int .i64 k ∧ k ≤ xs.length ∧ i = .int .i64 m ∧ (k < xs.length → m ≤ qs.length) ∧ s = .int .u32 (cnext 0 (xs.take k)) ∧ Ext w wr)
    (fun _ at_ i _ => (qs.length - (intOf i).toNat) + (xs.length - (intOf at_).toNat))
  case atStart => exact ⟨0, 0, rfl, Nat.zero_le _, rfl, fun _ => Nat.zero_le _, by rw [List.take_zero, cnext_nil (U32.mk (by decide))]; rfl, Below.refl _ _⟩
  case round =>
    obtain ⟨k, m, rfl, hk, rfl, hm, rfl, hx⟩ := hrel
    by_cases hlt : k < xs.length
    · have hm := hm hlt
      have q := Q.out
      have hx1 := Ha.out.ext (Nat.le_refl _) hx
      obtain ⟨h1, h2, h3, h4⟩ : ∃ cc, A = A ∧ xs.length ≤ cc ∧ cc = c := by
        obtain ⟨A', c', hv, e1, _⟩ := hx1
        simp only [Value.slice.injEq] at hv
        exact ⟨c, rfl, by omega, rfl⟩
      by_cases hmq : m < qs.length
      · have hqx := Hq.out.ext (Nat.le_refl _) hx
        obtain ⟨ad, rfl, hcell, hqc⟩ : ∃ ad, Aq = some ad ∧ wr.cell? (ad.add m) = some (.int .u8 ((qs[m]).toNat : Int)) ∧ qs.length ≤ cq := by
          obtain ⟨A', c', hv, e1, e2, e3, e4⟩ := hqx
          simp only [Value.slice.injEq] at hv
          obtain ⟨rfl, _, rfl⟩ := hv
          obtain ⟨ad, rfl, _, hc⟩ := e4.2 (by omega)
          exact ⟨ad, rfl, hc m _ (bv_get qs m hmq), e1⟩
        have hb := (qs[m]).toNat_lt
        generalize qs[m] = X at hcell hb
        obtain ⟨N, hN, hn, hN2⟩ := min_sub xs.length k X.toNat hk
        have HN := Lib.hid hN
        clear hN
        go_wp2_with fail
        refine (next_any wr w.heap.size _ (cnext 0 (xs.take k)) ((xs.drop k).take N) (cnext_32 _ _) (by simpa [Nat.ne_of_gt (show k < c by omega)] using hx1.mid (k := k) (n := N) (by omega)) hx.size (by rw [List.length_take, List.length_drop]; omega)).mono ?_
        rintro e w1 ⟨rfl, hx2⟩
        go_wp2
        refine ⟨⟨k + N, m + 1, by congr 1, hN2, rfl, fun _ => hmq, by rw [cnext_mid], hx.trans hx2⟩, ?_⟩
        simp only [intOf]
        omega
      · go_wp2_with fail
        refine (next_any wr w.heap.size _ (cnext 0 (xs.take k)) (xs.drop k) (cnext_32 _ _) (by simpa [Nat.ne_of_gt (show k < c by omega)] using hx1.cut_ (k := k) (by omega)) hx.size (by rw [List.length_drop]; omega)).mono ?_
        rintro e w1 ⟨rfl, hx2⟩
        go_wp2
        refine ⟨⟨xs.length, m + 1, by congr 1; omega, Nat.le_refl _, rfl, fun h => absurd h (Nat.lt_irrefl _), by rw [cnext_rest], hx.trans hx2⟩, ?_⟩
        simp only [intOf]
        omega
    · go_wp2_with fail
      refine (sum_any (wr.alloc (.cells #[.slice A xs.length c] 22)) _ [xs] (by simpa using one_ wr _ xs (((Ha.out.ext (Nat.le_refl _) hx)).more hx.size)) (by simp; omega) (by simp)).mono ?_
      rintro e w1 ⟨rfl, hx1⟩
      have hk' : k = xs.length := by omega
      subst hk'
      have hs : csumTo 0 [xs] = cnext 0 (xs.take xs.length) := by rw [List.take_length]; rfl
      go_wp2_with fail
      refine (awake_any w1).mono ?_
      rintro e w2 ⟨rfl, hx2⟩
      go_wp2
      go_ret
      exact ⟨rfl, (hx.trans (Ext.of_alloc _ _)).trans (hx1.trans hx2)⟩

end Go.Proofs.Ytohocioglinknaa
