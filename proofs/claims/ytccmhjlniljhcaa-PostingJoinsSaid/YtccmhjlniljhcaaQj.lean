/-
  Contract of the reference's block.
  Conditions: those of each statement.
-/
import Derived.Test.YtccmhjlniljhcaaQi
namespace Go.Proofs.Ytccmhjlniljhcaa
open Go.RowKit

theorem ris_take {zs : List Int} {last b : Int} (k : Nat) (h : ris last b zs = true) : ris last b (zs.take k) = true := by
  rw [← List.take_append_drop k zs] at h
  exact ris_left h
theorem stp_len_take {zs : List Int} {last b : Int} (k : Nat) (h : ris last b zs = true) (hl : -1 ≤ last) (hb : b ≤ 1099511627776) : (stp last (zs.take k)).length ≤ 10 * zs.length := by
  have := stp_len _ _ _ (ris_take k h) hl hb
  rw [List.length_take] at this
  omega

set_option maxHeartbeats 3200000 in
set_option maxRecDepth 100000 in
theorem rblock_any (w : World) (v : Value) (l : List Post) (ahead : Int) (hv : SL w (Bw w) v l) (hr : ris ahead 65536 (l.map (·.1)) = true) (hp : ∀ p ∈ l, ris (-1) 1048576 p.2 = true) (ha : -1 ≤ ahead) (hw : wt l ≤ 700000) :
    Calls Try.prog 32 #[v, .int .i64 ahead] w fun e w' => ∃ u, e = .returned u ∧ Own w' w.heap.size u (psby ahead l) ∧ Ext w w' := by
  obtain ⟨A, c, rfl, hc, hm⟩ := hv.form
  have hm' : (l.length : Int) ≤ 9223372036854775807 := by unfold maxLen at hm; omega
  have Hv := Lib.hid hv
  have Hr := Lib.hid hr
  have Hp := Lib.hid hp
  have Ha := Lib.hid ha
  clear hv hm hr hp ha
  go_enter Try.func32, Try.ntmps32
  go_wp2_with fail
  go_loopw [1, 5, 6] (fun a b i wr => ∃ k : Nat, i = .int .i64 k ∧ k ≤ l.length ∧ a = .int .i64 (plast ahead (l.take k)) ∧ Own wr w.heap.size b (psby ahead (l.take k)) ∧ Ext w wr) (fun _ _ i _ => l.length - (intOf i).toNat)
  case atStart => exact ⟨0, rfl, Nat.zero_le _, rfl, Own.nil_ _ _, Below.refl _ _⟩
  case round =>
    obtain ⟨k, rfl, hk, rfl, ho, hx⟩ := hrel
    have Hx := Lib.hid hx
    have Ho := Lib.hid ho
    by_cases hlt : k < l.length
    · obtain ⟨ad, u, rfl, _, hc0, hc1, hu, h6⟩ := Hv.out.post_at hlt
      have hklt : (k : Int) < l.length := by omega
      have hd := ris_drop (l.map (·.1)) ahead 65536 k Hr.out
      rw [← List.map_take, ← List.map_drop, ← plast_eq, drop_at l hlt, List.map_cons] at hd
      obtain ⟨d1, d2, _⟩ := ris_cons.1 hd
      have hpk := Hp.out l[k] (List.getElem_mem hlt)
      have hge : ahead ≤ plast ahead (l.take k) := by
        have := (ilast_ge _ _ _ (ris_take k Hr.out)).1
        rw [← List.map_take, ← plast_eq] at this
        exact this
      have hge' : -1 ≤ plast ahead (l.take k) := by have := Ha.out; omega
      have hsn := psby_snoc (l.take k) ahead l[k]
      have hpn := plast_snoc (l.take k) ahead l[k]
      rw [← take_next l hlt] at hsn hpn
      have hwp : (psby ahead (l.take k)).length ≤ wt (l.take k) := by
        refine psby_len _ _ ?_ (fun p hp => Hp.out p (List.mem_of_mem_take hp)) Ha.out (by have := wt_le l k; omega)
        have := Hr.out
        rw [← List.take_append_drop k l, List.map_append] at this
        exact ris_left this
      have hwt := wt_le l (k + 1)
      rw [take_next l hlt, wt_append] at hwt
      have hw1 : wt [l[k]] = 20 + 10 * l[k].2.length := by simp [wt]
      have hwb : (psby ahead (l.take k)).length + 20 + 10 * l[k].2.length ≤ 800000 := by omega
      clear hd hge hwp hwt hw1 ho
      generalize hN : l[k] = N at hc0 hc1 hu h6 d1 d2 hpk hsn hpn hwb
      obtain ⟨d, ps⟩ := N
      obtain ⟨Au, cu, rfl, _, hmu⟩ := hu.form
      dsimp only at hc0 hc1 hu h6 d1 d2 hpk hsn hpn hwb
      generalize plast ahead (l.take k) = LA at d1 hge' hsn
      generalize psby ahead (l.take k) = PB at hsn hwb Ho
      have Hsn := Lib.hid hsn
      have Hpn := Lib.hid hpn
      have Hc0 := Lib.hid hc0
      have Hc1 := Lib.hid hc1
      have q0 := Ext.keeps Hx.out hc0
      have Hu := Lib.hid hu
      have Hpk := Lib.hid hpk
      clear hsn hpn hu hx hN hpk hmu
      go_wp2_with fail
      obtain ⟨D, hD⟩ : ∃ D : Nat, d - LA - 1 = (D : Int) := ⟨(d - LA - 1).toNat, by omega⟩
      rw [hD]
      refine (rput_any wr w.heap.size Hx.out.size _ PB D Ho.out (by omega) (by omega)).mono ?_
      rintro e w2 ⟨v2, rfl, ho2, hg2⟩
      have Ho2 := Lib.hid ho2
      have Hx2 := Lib.hid (hg2.ext Hx.out rfl (own_ge Ho.out))
      have e2 := enc_len10 (n := D) (U64.mk (by omega))
      have hDn : (d - LA - 1).toNat = D := by omega
      have HDn := Lib.hid hDn
      clear ho2 hg2 q0 hD hDn
      have q0 := Ext.keeps Hx2.out Hc0.out
      have q1 := Ext.keeps Hx2.out Hc1.out
      go_wp2_with fail
      have l2 : (PB ++ enc D).length ≤ 1000000 := by rw [List.length_append]; omega
      refine (rput_any w2 w.heap.size Hx2.out.size _ _ ps.length Ho2.out l2 (by omega)).mono ?_
      rintro e w3 ⟨v3, rfl, ho3, hg3⟩
      have Ho3 := Lib.hid ho3
      have Hx3 := Lib.hid (hg3.ext Hx2.out rfl (own_ge Ho2.out))
      have e3 := enc_len10 (n := ps.length) (U64.mk (by omega))
      clear ho3 hg3 q0 q1
      have l3 : (PB ++ enc D ++ enc ps.length).length + 10 * ps.length ≤ 900000 := by rw [List.length_append, List.length_append]; omega
      generalize hB3 : PB ++ enc D ++ enc ps.length = B3 at Ho3 l3
      have HB3 := Lib.hid hB3
      clear hB3
      go_wp2_with fail
      go_loopw [5, 7, 8] (fun b la i wq => ∃ q : Nat, i = .int .i64 q ∧ q ≤ ps.length ∧ la = .int .i64 (ilast (-1) (ps.take q)) ∧ Own wq w.heap.size b (B3 ++ stp (-1) (ps.take q)) ∧ Ext w wq) (fun _ _ i _ => ps.length - (intOf i).toNat)
      case atStart => exact ⟨0, rfl, Nat.zero_le _, rfl, by simpa [stp] using Ho3.out, Hx3.out⟩
      case round =>
        obtain ⟨q, rfl, hq, rfl, ho, hx⟩ := hrel
        have Hxq := Lib.hid hx
        have Hoq := Lib.hid ho
        have q1 := Ext.keeps hx Hc1.out
        by_cases hlq : q < ps.length
        · obtain ⟨adp, rfl, _, hcp, hp6⟩ := Hu.out.int_at hlq
          have qp := Ext.keeps hx hcp
          have HcP := Lib.hid hcp
          have hqlt : (q : Int) < ps.length := by omega
          have hd := ris_drop ps (-1) 1048576 q Hpk.out
          rw [drop_at ps hlq] at hd
          obtain ⟨f1, f2, _⟩ := ris_cons.1 hd
          have hge := (ilast_ge _ _ _ (ris_take q Hpk.out)).1
          have hs2 := stp_snoc (ps.take q) (-1) ps[q]
          have hi2 := ilast_snoc (ps.take q) (-1) ps[q]
          rw [← take_next ps hlq] at hs2 hi2
          have hsl := stp_len_take q Hpk.out (by decide) (by decide)
          generalize hPq : ps[q] = N at qp HcP hp6 f1 f2 hs2 hi2
          generalize ilast (-1) (ps.take q) = I at f1 hge hs2
          generalize stp (-1) (ps.take q) = ST at hs2 hsl Hoq
          have Hs2 := Lib.hid hs2
          have Hi2 := Lib.hid hi2
          clear hd hs2 hi2 hcp ho hx hPq
          go_wp2_with fail
          obtain ⟨E, hE⟩ : ∃ E : Nat, N - I - 1 = (E : Int) := ⟨(N - I - 1).toNat, by omega⟩
          rw [hE]
          have hEn : (N - I - 1).toNat = E := by omega
          rw [hEn] at Hs2
          refine (rput_any _ w.heap.size Hxq.out.size _ _ E Hoq.out (by rw [List.length_append]; omega) (by omega)).mono ?_
          rintro e w4 ⟨v4, rfl, ho4, hg4⟩
          rw [List.append_assoc, ← Hs2.out] at ho4
          have Ho4 := Lib.hid ho4
          have Hx4 := Lib.hid (hg4.ext Hxq.out rfl (own_ge Hoq.out))
          clear ho4 hg4 q1 qp hE hEn
          have q1 := Ext.keeps Hx4.out Hc1.out
          have qp := Ext.keeps Hx4.out HcP.out
          go_wp2_with fail
          go_roundw
          case rel => exact ⟨q + 1, rfl, by omega, by rw [Hi2.out], Ho4.out, Hx4.out⟩
          case measure => simp only [intOf]; omega
        · have hqlt : ¬(q : Int) < ps.length := by omega
          rw [List.take_of_length_le (by omega)] at Hoq
          have hfin : B3 ++ stp (-1) ps = psby ahead (l.take (k + 1)) := by
            rw [Hsn.out, ← HB3.out]
            simp only [pby, HDn.out, List.append_assoc]
          rw [hfin] at Hoq
          have Hfin := Lib.hid hfin
          clear ho hx hfin
          go_wp2_with fail
          go_roundw
          case rel => exact ⟨k + 1, rfl, by omega, by rw [Hpn.out], Hoq.out, Hxq.out⟩
          case measure => simp only [intOf]; omega
    · have hlt' : ¬(k : Int) < l.length := by omega
      rw [List.take_of_length_le (by omega)] at Ho
      clear hx ho
      go_wp2
      go_ret
      exact ⟨_, rfl, Ho.out, Hx.out⟩

end Go.Proofs.Ytccmhjlniljhcaa
