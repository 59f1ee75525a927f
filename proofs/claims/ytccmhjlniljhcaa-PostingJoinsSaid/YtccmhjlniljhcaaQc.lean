/-
  Contracts of posting.steps and of slices.Chunk over posts.
  Conditions: those of each statement.
-/
import Derived.Test.YtccmhjlniljhcaaQb
import Derived.Test.YtccmhjlniljhcaaVba
import Derived.Test.YtccmhjlniljhcaaRl
namespace Go.Proofs.Ytccmhjlniljhcaa
open Go.RowKit

theorem toNat_64 {x : Int} (h : x ≤ 9223372036854775807) : U64 x.toNat := U64.mk (by omega)
theorem stp_len : ∀ (zs : List Int) (last b : Int), ris last b zs = true → -1 ≤ last → b ≤ 1099511627776 → (stp last zs).length ≤ 10 * zs.length
  | [], _, _, _, _, _ => by simp [stp]
  | n :: zs, last, b, h, hl, hb => by
    obtain ⟨h1, h2, h3⟩ := ris_cons.1 h
    have i := stp_len zs n b h3 (by omega) hb
    have e := enc_len10 (toNat_64 (x := n - last - 1) (by omega))
    simp only [stp, List.length_append, List.length_cons]
    omega
theorem ris_drop : ∀ (zs : List Int) (last b : Int) (k : Nat), ris last b zs = true → ris (ilast last (zs.take k)) b (zs.drop k) = true
  | [], _, _, _, _ => by simp [ris]
  | n :: zs, last, b, 0, h => h
  | n :: zs, last, b, k + 1, h => ris_drop zs n b k (ris_cons.1 h).2.2
theorem ris_left : ∀ {zs ys : List Int} {last b : Int}, ris last b (zs ++ ys) = true → ris last b zs = true
  | [], _, _, _, _ => rfl
  | n :: zs, ys, last, b, h => by
    obtain ⟨h1, h2, h3⟩ := ris_cons.1 h
    exact ris_cons.2 ⟨h1, h2, ris_left h3⟩
theorem ilast_ge : ∀ (zs : List Int) (last b : Int), ris last b zs = true → last ≤ ilast last zs ∧ (zs ≠ [] → ilast last zs < b)
  | [], _, _, _ => ⟨Int.le_refl _, fun h => absurd rfl h⟩
  | n :: zs, last, b, h => by
    obtain ⟨h1, h2, h3⟩ := ris_cons.1 h
    obtain ⟨i1, i2⟩ := ilast_ge zs n b h3
    refine ⟨by simp only [ilast]; omega, fun _ => ?_⟩
    simp only [ilast]
    cases zs with
    | nil => exact h2
    | cons m zs => exact i2 (by simp)
theorem take_next {α : Type} (l : List α) {k : Nat} (h : k < l.length) : l.take (k + 1) = l.take k ++ [l[k]] := List.take_succ_eq_append_getElem h

set_option maxHeartbeats 1600000 in
set_option maxRecDepth 100000 in
theorem steps_any (w : World) (b0 : Nat) (hb0 : b0 ≤ w.heap.size) (vb u : Value) (bs : List UInt8) (zs : List Int) (last b : Int) (hb : Own w b0 vb bs) (hu : SL w (Bw w) u zs) (hr : ris last b zs = true) (hlast : -1 ≤ last) (hbb : b ≤ 1099511627776) (hl : bs.length + 10 * zs.length ≤ 1000000) :
    Calls Try.prog 29 #[vb, .int .i64 last, u] w fun e w' => ∃ v', e = .returned v' ∧ Own w' b0 v' (bs ++ stp last zs) ∧ Ext w w' := by
  obtain ⟨A, c, rfl, hc, hm⟩ := hu.form
  have Hu := Lib.hid hu
  have Hb := Lib.hid hb
  have Hr := Lib.hid hr
  have Hl := Lib.hid hlast
  clear hu hb hm hr hlast
  go_enter Try.func29, Try.ntmps29
  go_wp2_with fail
  go_loopw [0, 1, 11] (fun b x i wr => ∃ (k : Nat), i = .int .i64 k ∧ k ≤ zs.length ∧ x = .int .i64 (ilast last (zs.take k)) ∧ Own wr b0 b (bs ++ stp last (zs.take k)) ∧ Ext w wr) (fun _ _ i _ => zs.length - (intOf i).toNat)
  case atStart => exact ⟨0, rfl, Nat.zero_le _, rfl, by simpa [stp] using Hb.out, Below.refl _ _⟩
  case round =>
    obtain ⟨k, rfl, hk, rfl, hbs, hx⟩ := hrel
    have Hx := Lib.hid hx
    have Hbs := Lib.hid hbs
    by_cases hlt : k < zs.length
    · obtain ⟨ad, rfl, _, hcell, h6⟩ := (Hu.out.up hx).int_at hlt
      have hd := ris_drop zs last b k Hr.out
      rw [drop_at zs hlt] at hd
      obtain ⟨d1, d2, _⟩ := ris_cons.1 hd
      have hsn := stp_snoc (zs.take k) last zs[k]
      have hil := ilast_snoc (zs.take k) last zs[k]
      rw [← take_next zs hlt] at hsn hil
      have hrt : ris last b (zs.take k) = true := by
        have := Hr.out
        rw [← List.take_append_drop k zs] at this
        exact ris_left this
      have hsl : (stp last (zs.take k)).length ≤ 10 * k := by
        have := stp_len _ _ _ hrt Hl.out hbb
        rw [List.length_take] at this
        omega
      have hil0 : -1 ≤ ilast last (zs.take k) := by
        have := (ilast_ge _ _ _ hrt).1
        have := Hl.out
        omega
      generalize zs[k] = N at hcell h6 d1 d2 hsn hil
      generalize hI : ilast last (zs.take k) = I at d1 hsn hil0
      generalize stp last (zs.take k) = ST at hsn hsl Hbs
      generalize hS1 : stp last (zs.take (k + 1)) = ST1 at hsn
      have HS1 := Lib.hid hS1
      have Hsn := Lib.hid hsn
      have Hil := Lib.hid hil
      clear hx hbs hd hsn hil hI hS1
      go_wp2_with fail
      obtain ⟨D, hD⟩ : ∃ D : Nat, N - I - 1 = (D : Int) := ⟨(N - I - 1).toNat, by omega⟩
      rw [hD] at Hsn ⊢
      rw [Int.toNat_natCast] at Hsn
      refine (put_any wr wr.heap.size _ _ D (Own.bs Hbs.out) (Nat.le_refl _) (by rw [List.length_append]; omega) (U64.mk (by omega))).mono ?_
      rintro e w2 ⟨v2, rfl, hv2, hx2⟩
      rw [List.append_assoc, ← Hsn.out] at hv2
      have Hv2 := Lib.hid (Own.base hv2 (Nat.le_trans hb0 Hx.out.size))
      have Hx2 := Lib.hid (Hx.out.trans hx2)
      clear hv2 hx2
      go_wp2
      go_roundw
      case rel => exact ⟨k + 1, rfl, by omega, by rw [Hil.out], by rw [HS1.out]; exact Hv2.out, Hx2.out⟩
      case measure => simp only [intOf]; omega
    · rw [List.take_of_length_le (by omega)] at Hbs
      clear hbs hx
      go_wp2
      go_ret
      exact ⟨_, rfl, Hbs.out, Hx.out⟩

end Go.Proofs.Ytccmhjlniljhcaa
