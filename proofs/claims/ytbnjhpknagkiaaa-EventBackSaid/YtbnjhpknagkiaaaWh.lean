/-
  Contracts of the reference's Encode, of the law's light, of both Encodes together.
  Conditions: light events.
-/
import Derived.Test.YtbnjhpknagkiaaaWg
import Derived.Test.YtbnjhpknagkiaaaGr
namespace Go.Proofs.Ytbnjhpknagkiaaa
open Go.RowKit Go.Op

set_option maxHeartbeats 4000000 in
set_option maxRecDepth 100000 in
theorem rbencode_ok (w : World) (s : Int) (v : Value) (l : List Ev) (hv : SL w (Bw w) v l) (hs : I6 s) (hok : batE (s, l) = 0) (hl : ∀ e ∈ l, EvOk e) :
    Calls Try.prog 14 #[.agg #[.int .i64 s, v]] w fun e w' => ∃ u, e = .returned (.tuple #[u, .int .i64 0]) ∧ Own w' w.heap.size u (benc (s, l)) ∧ Ext w w' := by
  obtain ⟨A, c, rfl, hc, hm⟩ := hv.form
  have hx0 : Ext w (w.alloc (.cells #[.int .i64 s, .slice A l.length c] 24)) := Ext.of_alloc _ _
  have Hx0 := Lib.hid hx0
  have hS : ∀ W, Ext (w.alloc (.cells #[.int .i64 s, .slice A l.length c] 24)) W → W.cell? ⟨w.heap.size, 0, none⟩ = some (.int .i64 s) ∧ W.cell? ⟨w.heap.size, 1, none⟩ = some (.slice A l.length c) := fun W h =>
    ⟨Ext.keeps h (cell_new w #[.int .i64 s, .slice A l.length c] 24 0 (v := .int .i64 s) rfl), Ext.keeps h (cell_new w #[.int .i64 s, .slice A l.length c] 24 1 (v := .slice A l.length c) rfl)⟩
  have HS := Lib.hid hS
  have Hv := Lib.hid (hv.up hx0)
  have Hl := Lib.hid hl
  obtain ⟨_, hl64, _, hs1, hs2⟩ := batE_spec hok
  dsimp only at hl64 hs1 hs2
  obtain ⟨q, rfl⟩ : ∃ q : Nat, s = (q : Int) := ⟨s.toNat, by omega⟩
  have hq64 : U64 q := U64.mk (by omega)
  have hU : U64 l.length := U64.mk (by omega)
  have e1 := enc_len10 hq64
  have e2 := enc_len10 hU
  have hl64i : (l.length : Int) ≤ 64 := by omega
  have hwq : IntKind.u64.wrap (q : Int) = (q : Int) := by rw [IntKind.wrap_u64]; omega
  have hwr : IntKind.u64.wrap (l.length : Int) = (l.length : Int) := by rw [IntKind.wrap_u64]; omega
  have s1 : (enc q).length + (enc l.length).length ≤ 100000000 := by omega
  have Hok := Lib.hid hok
  clear hx0 hS hl hv hok
  go_enter Try.func14, Try.ntmps14
  go_wp2_with fail
  refine (rcbatch_any _ _ _ l Hv.out hs).mono ?_
  rintro e w1 ⟨rfl, hx1⟩
  rw [Hok.out]
  have Hx1 := Lib.hid hx1
  have hz1 := hx1.size
  rw [World.size_alloc] at hz1
  clear hx1
  go_wp2_with fail
  go_region_held3 (fun W => W.cell? ⟨w.heap.size, 0, none⟩ = some (.int .i64 (q : Int)) ∧ W.cell? ⟨w.heap.size, 1, none⟩ = some (.slice A l.length c))
    (first
      | exact hc4
      | exact HS.out _ (Ext.trans Hx1.out x3)
      | exact HS.out _ (Ext.trans Hx1.out x2)
      | exact HS.out _ (Ext.trans Hx1.out (Ext.drew _))
      | fail)
    (first
      | (refine step_append_bytes _ (by rfl) (.tmp 15) (.tmp 20) (by rfl) w1.heap.size v2 _ (by rfl) (Own.ext ho2 hx3) _ v3 _ (by rfl) (Own.bs ho3) s1 x3.size ?_
         intro v4 w4 ho4 hg4 hat4
         have x4 := (GrowO.append hg4 hat4).ext x3 rfl (own_ge (Own.ext ho2 hx3))
         have hc4 := HS.out _ (Ext.trans Hx1.out x4))
      | (go_at_call 42
         refine (bytes_any l.length l.length w2 (Nat.le_refl _) hU).mono ?_
         rintro e w3 ⟨v3, rfl, ho3, hx3⟩
         have x3 := Ext.trans x2 hx3)
      | (go_at_call 42
         refine (bytes_any q q w1.drew (Nat.le_refl _) hq64).mono ?_
         rintro e w2 ⟨v2, rfl, ho2, hx2⟩
         have x2 := Ext.trans (Ext.drew w1) hx2)
      | fail)
  obtain ⟨b0, b1⟩ := hc4
  have Ho4 := Lib.hid (Own.base ho4 hz1)
  have Hx4 := Lib.hid (Ext.trans Hx1.out x4)
  have hP : (enc q ++ enc l.length).length ≤ 20 := by rw [List.length_append]; omega
  generalize hPP : enc q ++ enc l.length = PP at Ho4 hP
  have HPP := Lib.hid hPP
  clear ho2 hx2 x2 ho3 hx3 x3 ho4 hg4 hat4 x4 hPP s1
  go_wp2_with fail
  go_loopw [5, 6] (fun b i wr => ∃ k : Nat, i = .int .i64 k ∧ k ≤ l.length ∧ Own wr (w.heap.size + 1) b (PP ++ bby (l.take k)) ∧ Ext (w.alloc (.cells #[.int .i64 (q : Int), .slice A l.length c] 24)) wr) (fun _ i _ => l.length - (intOf i).toNat)
  case atStart => exact ⟨0, rfl, Nat.zero_le _, by simpa [bby] using Ho4.out, Hx4.out⟩
  case round =>
    obtain ⟨k, rfl, hk, ho, hx⟩ := hrel
    have Ho := Lib.hid ho
    have Hx := Lib.hid hx
    have hlen := bby_take Hl.out k
    clear b0 b1
    obtain ⟨b0, b1⟩ := HS.out _ hx
    by_cases hlt : k < l.length
    · have hklt : (k : Int) < l.length := by omega
      obtain ⟨ad, u, rfl, _, d0, d1, hu, h6⟩ := (Hv.out.up hx).ev_at hlt
      obtain ⟨hee, hei, hel⟩ := Hl.out l[k] (List.getElem_mem hlt)
      have hnx := bby_next hlt
      have hebl := evby_lgt hee hei hel
      generalize l[k] = N at d0 d1 hu h6 hee hei hnx hebl hel
      obtain ⟨a, fs⟩ := N
      dsimp only at d0 d1 hu h6 hei
      obtain ⟨Au, cu, rfl, _⟩ := hu.form
      have Hu := Lib.hid hu
      have hs2 : (PP ++ bby (l.take k)).length + (evby (a, fs)).length ≤ 100000000 := by rw [List.length_append]; omega
      generalize bby (l.take k) = FB at Ho hnx hs2
      have Hnx := Lib.hid hnx
      have Hee := Lib.hid hee
      have Hei := Lib.hid hei
      clear hu h6 hee hei hel hnx ho hx
      go_wp2_with fail
      refine (revby_any _ a _ fs Hu.out Hee.out Hei.out).mono ?_
      rintro e w5 ⟨v5, rfl, ho5, hx5⟩
      have Hx5 := Lib.hid (Ext.trans Hx.out hx5)
      have Ho5 := Lib.hid ho5
      have Hor := Lib.hid (Own.ext Ho.out hx5)
      have hsz5 := Hx5.out.size
      rw [World.size_alloc] at hsz5
      clear ho5 hx5 d0 d1 b0 b1
      go_wp2_with (at_builtin; refine wpList_append_bytes _ rfl (.tmp 29) (.tmp 35) rfl (w.heap.size + 1) _ _ rfl Hor.out _ v5 _ rfl (Own.bs Ho5.out) hs2 hsz5 ?_; intro v8 w8 ho8 hg8 hat8; have hx8 := (GrowO.append hg8 hat8).ext Hx5.out (by simp) (own_ge Hor.out); have Ho8 := Lib.hid ho8; have Hx8 := Lib.hid hx8; clear ho8 hg8 hat8 hx8)
      exact ⟨⟨k + 1, rfl, by omega, by rw [Hnx.out, ← List.append_assoc]; exact Ho8.out, Hx8.out⟩, by simp only [intOf]; omega⟩
    · have hklt : ¬(k : Int) < l.length := by omega
      rw [List.take_of_length_le (by omega)] at Ho
      clear hx ho
      go_wp2
      go_ret2
      refine ⟨_, rfl, ?_, Ext.trans Hx0.out Hx.out⟩
      have e : PP ++ bby l = benc ((q : Int), l) := by rw [← HPP.out]; simp only [benc, List.append_assoc, Int.toNat_natCast]
      rw [← e]
      exact Own.base Ho.out (by omega)

set_option maxHeartbeats 1600000 in
set_option maxRecDepth 100000 in
theorem blight_any (w : World) (s : Int) (v : Value) (l : List Ev) (hv : SL w (Bw w) v l) :
    Calls Try.prog 10 #[.agg #[.int .i64 s, v]] w fun e w' => ∃ R : Bool, e = .returned (.bool R) ∧ (R = true → ∀ i (h : i < l.length), i < 70 → Lgt l[i]) ∧ Ext w w' := by
  obtain ⟨A, c, rfl, hc, hm⟩ := hv.form
  unfold maxLen at hm
  have hx0 : Ext w (w.alloc (.cells #[.int .i64 s, .slice A l.length c] 24)) := Ext.of_alloc _ _
  have Hx0 := Lib.hid hx0
  have hS : ∀ W, Ext (w.alloc (.cells #[.int .i64 s, .slice A l.length c] 24)) W → W.cell? ⟨w.heap.size, 0, none⟩ = some (.int .i64 s) ∧ W.cell? ⟨w.heap.size, 1, none⟩ = some (.slice A l.length c) := fun W h =>
    ⟨Ext.keeps h (cell_new w #[.int .i64 s, .slice A l.length c] 24 0 (v := .int .i64 s) rfl), Ext.keeps h (cell_new w #[.int .i64 s, .slice A l.length c] 24 1 (v := .slice A l.length c) rfl)⟩
  have HS := Lib.hid hS
  have Hv := Lib.hid (hv.up hx0)
  clear hx0 hS hv
  go_enter Try.func10, Try.ntmps10
  go_wp2_with fail
  go_loopw [3] (fun i wr => ∃ k : Nat, i = .int .i64 k ∧ k ≤ l.length ∧ k ≤ 70 ∧ (∀ i (h : i < l.length), i < k → Lgt l[i]) ∧ Ext (w.alloc (.cells #[.int .i64 s, .slice A l.length c] 24)) wr) (fun i _ => 70 - (intOf i).toNat)
  case atStart => exact ⟨0, rfl, Nat.zero_le _, Nat.zero_le _, fun i _ h => absurd h (Nat.not_lt_zero _), Below.refl _ _⟩
  case round =>
    obtain ⟨k, rfl, hk, hk70, hlg, hx⟩ := hrel
    have Hx := Lib.hid hx
    have Hlg := Lib.hid hlg
    obtain ⟨b0, b1⟩ := HS.out _ hx
    clear hlg
    by_cases hlt : k < l.length
    · have hklt : decide ((k : Int) < l.length) = true := decide_eq_true (by omega)
      by_cases h70 : k < 70
      · have h70i : decide ((k : Int) < 70) = true := decide_eq_true (by omega)
        have hk1 : (k : Int) < l.length := by omega
        obtain ⟨ad, u, rfl, _, d0, d1, hu, h6⟩ := (Hv.out.up hx).ev_at hlt
        have hNs : ∀ N, l[k] = N → Lgt N → Lgt l[k] := fun N h h2 => by rw [h]; exact h2
        generalize hN : l[k] = N at d0 d1 hu h6
        have HN := Lib.hid (hNs N hN)
        clear hNs
        obtain ⟨a, fs⟩ := N
        dsimp only at d0 d1 hu h6
        obtain ⟨Au, cu, rfl, _⟩ := hu.form
        have Hu := Lib.hid hu
        clear hu h6 hN hx
        go_wp2_with fail
        refine (light_any _ a _ fs Hu.out).mono ?_
        rintro e w5 ⟨R, rfl, hR, hx5⟩
        have Hx5 := Lib.hid (Ext.trans Hx.out hx5)
        have HR := Lib.hid hR
        clear hx5 hR b0 b1 d0 d1
        cases R with
        | true =>
          go_wp2
          refine ⟨⟨k + 1, by go_num, by omega, by omega, fun i hi hik => ?_, Hx5.out⟩, by simp only [intOf]; omega⟩
          by_cases hik2 : i < k
          · exact Hlg.out i hi hik2
          · obtain rfl : i = k := by omega
            exact HN.out (HR.out trivial)
        | false =>
          go_wp2
          go_ret
          exact ⟨false, rfl, (fun h => by cases h), Ext.trans Hx0.out Hx5.out⟩
      · have h70i : decide ((k : Int) < 70) = false := decide_eq_false (by omega)
        clear hx
        go_wp2
        go_ret
        exact ⟨true, rfl, fun _ i hi h => Hlg.out i hi (by omega), Ext.trans Hx0.out Hx.out⟩
    · have hklt : decide ((k : Int) < l.length) = false := decide_eq_false (by omega)
      clear hx
      go_wp2
      go_ret
      exact ⟨true, rfl, fun _ i hi h => Hlg.out i hi (by omega), Ext.trans Hx0.out Hx.out⟩
end Go.Proofs.Ytbnjhpknagkiaaa
