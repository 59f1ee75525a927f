/-
  Contracts of crc.Sum, its reference, the digest's methods, and the laws' own small functions.
  Conditions: rows of bytes of at most 100,000,000.
-/
import Derived.Test.YtgipbkfpfidpmaaCa
import Derived.Test.YtgipbkfpfidpmaaBb
import Derived.Lib.MinMax
import Derived.LaidEqlPtr
namespace Go.Proofs.Ytgipbkfpfidpmaa
open Go.RowKit

/-- the sum of parts -/
def csumTo (s : Nat) (l : List (List UInt8)) : Nat := l.foldl cnext s
theorem csumTo_32 : ∀ (l : List (List UInt8)) (s : Nat), U32 s → U32 (csumTo s l)
  | [], _, h => h
  | b :: l, s, _ => csumTo_32 l _ (cnext_32 s b)
theorem csumTo_flat : ∀ (l : List (List UInt8)) (s : Nat), U32 s → csumTo s l = cnext s l.flatten
  | [], s, h => (cnext_nil h).symm
  | b :: l, s, _ => by
    rw [List.flatten_cons, cnext_append]
    exact csumTo_flat l _ (cnext_32 s b)

set_option maxHeartbeats 1600000 in
set_option maxRecDepth 100000 in
theorem sum_any (w : World) (v : Value) (l : List (List UInt8)) (hv : BBS w w.heap.size v l) (hl : ∀ b ∈ l, b.length ≤ 100000000) (hn : l.length ≤ 1000000) :
    Calls Try.prog 24 #[v] w fun e w' => e = .returned (.int .u32 (csumTo 0 l)) ∧ Ext w w' := by
  have Hv := Lib.hid hv
  obtain ⟨A, c, rfl, hc, hm⟩ := hv.form
  have Hl := Lib.hid hl
  clear hv hm hl
  go_enter Try.func24, Try.ntmps24
  go_wp2_with fail
  go_loopw [3, 8] (fun x i wr => ∃ (k y : Nat), i = .int .i64 k ∧ k ≤ l.length ∧ x = .int .u32 y ∧ U32 y ∧ csumTo y (l.drop k) = csumTo 0 l ∧ Ext w wr) (fun _ i _ => l.length - (intOf i).toNat)
  case atStart => exact ⟨0, 0, rfl, Nat.zero_le _, rfl, U32.mk (by decide), rfl, Below.refl _ _⟩
  case round =>
    obtain ⟨k, y, rfl, hk, rfl, hy, heq, hbr⟩ := hrel
    have Heq := Lib.hid heq
    clear heq
    by_cases hlt : k < l.length
    · obtain ⟨ad, u, rfl, had, hcell, hbs⟩ := (Hv.out.ext (Nat.le_refl _) hbr).at_ hlt
      have hll := Hl.out l[k] (List.getElem_mem hlt)
      have Hd := Lib.hid (List.drop_eq_getElem_cons hlt)
      generalize l[k] = b at hbs hll Hd
      go_wp2_with fail
      refine (next_any wr _ u y b hy hbs hbr.size hll).mono ?_
      rintro e w' ⟨rfl, hx⟩
      go_wp2
      go_roundw
      case rel => exact ⟨k + 1, cnext y b, by go_num, by omega, rfl, cnext_32 _ _, by rw [← Heq.out, Hd.out]; rfl, hbr.trans hx⟩
      case measure => simp [intOf]; omega
    · have hE : csumTo 0 l = y := by rw [← Heq.out, List.drop_eq_nil_of_le (by omega)]; rfl
      have HE := Lib.hid hE
      clear hE
      go_wp2
      go_ret
      exact ⟨ret_int (by rw [HE.out]), hbr⟩

set_option maxHeartbeats 400000 in
theorem of_any (w : World) (v : Value) (bs : List UInt8) (hv : BS w w.heap.size v bs) (hl : bs.length ≤ 100000000) :
    Calls Try.prog 30 #[v] w fun e w' => e = .returned (.int .u32 (cnext 0 bs)) ∧ w = w' := by
  go_enter Try.func30, Try.ntmps30
  go_wp2_with fail
  refine (rnext_any w _ v 0 bs (U32.mk (by decide)) hv hl).mono ?_
  rintro e w' ⟨rfl, rfl⟩
  go_wp2
  go_ret
  exact ⟨rfl, rfl⟩


end Go.Proofs.Ytgipbkfpfidpmaa
