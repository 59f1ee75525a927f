/-
  Contracts of the reference's Check, put, block.
  Conditions: those of each statement.
-/
import Derived.Test.YtccmhjlniljhcaaQh
import Derived.Test.YtccmhjlniljhcaaVe
import Derived.Test.YtccmhjlniljhcaaGr
namespace Go.Proofs.Ytccmhjlniljhcaa
open Go.RowKit

set_option maxHeartbeats 400000 in
theorem rcheck_any (w : World) (v : Value) (l : List Post) (hv : SL w (Bw w) v l) :
    Calls Try.prog 22 #[v] w fun e w' => e = .returned (.int .i64 (if psOk l = true then 0 else 80)) ∧ Ext w w' := by
  cases hp : psOk l with
  | true =>
    have Hp := Lib.hid hp
    clear hp
    rw [if_pos rfl]
    go_enter Try.func22, Try.ntmps22
    go_wp2_with fail
    refine (is_any w v l hv).mono ?_
    rintro e w1 ⟨rfl, hx1⟩
    rw [Hp.out]
    go_wp2
    go_ret
    exact ⟨rfl, hx1⟩
  | false =>
    have Hp := Lib.hid hp
    clear hp
    rw [if_neg (by decide)]
    go_enter Try.func22, Try.ntmps22
    go_wp2_with fail
    refine (is_any w v l hv).mono ?_
    rintro e w1 ⟨rfl, hx1⟩
    rw [Hp.out]
    go_wp2
    go_ret
    exact ⟨rfl, hx1⟩

set_option maxHeartbeats 400000 in
theorem rput_any (w : World) (base : Nat) (hbase : base ≤ w.heap.size) (vb : Value) (bs : List UInt8) (n : Nat) (hb : Own w base vb bs) (hl : bs.length ≤ 1000000) (hn : n < 9223372036854775808) :
    Calls Try.prog 31 #[vb, .int .i64 n] w fun e w' => ∃ v', e = .returned v' ∧ Own w' base v' (bs ++ enc n) ∧ GrowO w w' vb v' := by
  have Hb := Lib.hid hb
  obtain ⟨A, c, rfl⟩ := (Own.bs hb).form
  have hu : U64 n := U64.mk (by omega)
  have he := enc_len10 hu
  have hn' : (n : Int) ≤ 9223372036854775807 := by omega
  clear hb
  go_enter Try.func31, Try.ntmps31
  go_wp2_with fail
  refine (bytes_any n n w (Nat.le_refl _) hu).mono ?_
  rintro e w1 ⟨v1, rfl, ho1, hx1⟩
  have Ho1 := Lib.hid ho1
  have Hx1 := Lib.hid hx1
  have hb1 : base ≤ w1.heap.size := Nat.le_trans hbase hx1.size
  clear ho1 hx1
  go_wp2_with (at_builtin; refine wpList_append_bytes _ rfl (.tmp 5) (.tmp 8) rfl base (.slice A bs.length c) bs rfl (Own.ext Hb.out Hx1.out) _ v1 (enc n) rfl (Own.bs Ho1.out) (by omega) hb1 ?_; intro v2 w2 hown2 hg2 hat2)
  go_ret
  exact ⟨_, rfl, hown2, GrowO.pre Hx1.out (GrowO.append hg2 hat2)⟩

end Go.Proofs.Ytccmhjlniljhcaa
