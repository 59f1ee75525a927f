/-
  Contracts of varint.Put, varint.Size.
  Conditions: a row of bytes of at most 1,000,000.
-/
import Derived.Test.YtbnjhpknagkiaaaVa
import Derived.Test.YtbnjhpknagkiaaaVp
namespace Go.Proofs.Ytbnjhpknagkiaaa
open Go.RowKit

set_option maxHeartbeats 800000 in
set_option maxRecDepth 100000 in
theorem put_any (w : World) (B : Nat) (v : Value) (bs : List UInt8) (n : Nat) (h : BS w B v bs) (hB : B ≤ w.heap.size) (hl : bs.length ≤ 1000000) (hn : U64 n) :
    Calls Try.prog 40 #[v, .int .u64 n] w fun e w' => ∃ v', e = .returned v' ∧ Own w' w.heap.size v' (bs ++ enc n) ∧ Below w.heap.size w w' := by
  obtain ⟨A, c, rfl, hc, hm, hnil, hr⟩ := h
  have hbs : BS w B (.slice A bs.length c) bs := ⟨A, c, rfl, hc, hm, hnil, hr⟩
  clear hnil hm hc hr
  have he := enc_len10 hn
  go_enter Try.func40, Try.ntmps40
  go_wp2_with (go_at_call 63; refine (clone_any w B _ bs hbs hB hl).mono ?_; rintro e w1 ⟨v1, rfl, hown1, hb1⟩)
  go_loopw [1, 5] (fun i v wr => ∃ (m : Nat) (done : List UInt8), i = .int .u64 m ∧ U64 m ∧ Own wr w.heap.size v done ∧ Below w.heap.size w wr ∧ done ++ enc m = bs ++ enc n)
    (fun i _ _ => (intOf i).toNat)
  case atStart => exact ⟨n, bs, rfl, hn, hown1, hb1, rfl⟩
  case round =>
    obtain ⟨m, done, rfl, hm2, hown, hbr, heq⟩ := hrel
    have Heq := Lib.hid heq
    clear heq
    have hdl : done.length ≤ bs.length + 10 := by
      have := congrArg List.length Heq.out
      simp only [List.length_append] at this
      omega
    have hds := hbr.size
    by_cases hlt : m < 128
    · have hx : (m : Int) = ((UInt8.ofNat m).toNat : Int) := by rw [UInt8.toNat_ofNat']; omega
      have Hx := Lib.hid hx
      clear hx
      go_wp2_with (at_builtin; refine wpList_append_bytes _ rfl (.tmp 18) (.tmp 21) rfl w.heap.size _ done rfl (hown.ext (Ext.of_alloc _ _)) _ _ [UInt8.ofNat m] rfl (BS.one _ _ _ Hx.out) (by simp; omega) (by simp; omega) ?_; intro v2 w2 hown2 hg2 hat2)
      go_ret
      refine ⟨_, rfl, ?_, ?_⟩
      · rw [← Heq.out, enc_lt hlt]; exact hown2
      · exact (hbr.alloc hbr.size _).grown hg2 (by simp; omega) (own_ge hown)
    · have hx : bits .or .u8 ((m : Int) % 256) 128 = ((UInt8.ofNat (m % 128 + 128)).toNat : Int) := by
        rw [u8_or _ _ (by omega) (by omega) (by omega) (by omega), UInt8.toNat_ofNat', ← or128]
        have := or128 m
        have e : ((m : Int) % 256).toNat = m % 256 := by omega
        rw [e]
        show ((m % 256 ||| 128 : Nat) : Int) = (((m % 256 ||| 128) % 256 : Nat) : Int)
        rw [this]
        omega
      have Hx := Lib.hid hx
      clear hx
      go_wp2_with (at_builtin; refine wpList_append_bytes _ rfl (.tmp 10) (.tmp 14) rfl w.heap.size _ done rfl (hown.ext (Ext.of_alloc _ _)) _ _ [UInt8.ofNat (m % 128 + 128)] rfl (BS.one _ _ _ Hx.out) (by simp; omega) (by simp; omega) ?_; intro v2 w2 hown2 hg2 hat2)
      go_roundw
      case rel =>
        refine ⟨m / 128, done ++ [UInt8.ofNat (m % 128 + 128)], by go_num, hm2.le (by omega), hown2, (hbr.alloc hbr.size _).grown hg2 (by simp; omega) (own_ge hown), ?_⟩
        rw [List.append_assoc, ← Heq.out, enc_ge (n := m) (by omega)]
        rfl
      case measure => simp [intOf]; omega

end Go.Proofs.Ytbnjhpknagkiaaa
