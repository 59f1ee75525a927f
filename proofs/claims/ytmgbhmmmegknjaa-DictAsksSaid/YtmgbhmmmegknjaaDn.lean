/-
  Contract of the reference's Encode.
  Conditions: not more than 5000 entries.
-/
import Derived.Test.YtmgbhmmmegknjaaDe
import Derived.Test.YtmgbhmmmegknjaaDg
namespace Go.Proofs.Ytmgbhmmmegknjaa
open Go.RowKit Go.Op

set_option maxHeartbeats 800000 in
theorem rencode_bad (w : World) (v : Value) (l : List Ent) (hv : SL w (Bw w) v l) (hok : esOk l = false) :
    Calls Try.prog 10 #[v] w fun e w' => e = .returned (.tuple #[.slice none 0 0, .int .i64 110]) ∧ Ext w w' := by
  have Hok := Lib.hid hok
  clear hok
  go_enter Try.func10, Try.ntmps10
  go_wp2_with fail
  refine (are_any w v l hv).mono ?_
  rintro e w1 ⟨rfl, hx1⟩
  rw [Hok.out]
  go_wp2
  go_ret2
  exact ⟨rfl, hx1⟩

set_option maxHeartbeats 4000000 in
set_option maxRecDepth 100000 in
theorem rencode_ok (w : World) (v : Value) (l : List Ent) (hv : SL w (Bw w) v l) (hok : esOk l = true) (hl : l.length ≤ 5000) :
    Calls Try.prog 10 #[v] w fun e w' => ∃ u, e = .returned (.tuple #[u, .int .i64 0]) ∧ Own w' w.heap.size u (denc l) ∧ Ext w w' := by
  obtain ⟨hup, _⟩ := esOk_spec hok
  have hmem := upw_mem hup
  obtain ⟨A, c, rfl, hc, hm⟩ := hv.form
  have hcm : (c : Int) ≤ 9223372036854775807 := by unfold maxLen at hm; omega
  have Hv := Lib.hid hv
  have Hmem := Lib.hid hmem
  have Hok := Lib.hid hok
  clear hv hup hmem hok hm
  go_enter Try.func10, Try.ntmps10
  go_wp2_with fail
  refine (are_any w _ l Hv.out).mono ?_
  rintro e w1 ⟨rfl, hx1⟩
  rw [Hok.out]
  go_wp2_with fail
  refine (num_any w1 (l.length : Int) (by omega) (by omega)).mono ?_
  rintro e w2 ⟨v2, rfl, ho2, hx2⟩
  rw [Int.toNat_natCast] at ho2
  have Ho2 := Lib.hid (Own.base ho2 hx1.size)
  have Hx2 := Lib.hid (hx1.trans hx2)
  clear hx1 hx2 ho2
  go_wp2_with fail
  go_loopw [4, 5] (fun b i wr => ∃ k : Nat, i = .int .i64 (16 * k : Nat) ∧ 16 * k ≤ l.length + 16 ∧ Own wr w.heap.size b (enc l.length ++ dblk k l) ∧ Ext w wr) (fun _ i _ => l.length + 16 - (intOf i).toNat)
  case atStart => exact ⟨0, rfl, by omega, by simpa [dblk] using Ho2.out, Hx2.out⟩
  case round =>
    obtain ⟨k, rfl, hk, ho, hx⟩ := hrel
    have Hx := Lib.hid hx
    by_cases hlt : 16 * k < l.length
    · obtain ⟨ad, rfl⟩ : ∃ ad, A = some ad := by
        obtain ⟨ad, h, _⟩ := Hv.out.ent_at hlt
        exact ⟨ad, h⟩
      obtain ⟨m, hm, hml⟩ : ∃ m, m = min l.length (16 * k + 16) ∧ m ≤ l.length := ⟨_, rfl, by omega⟩
      obtain ⟨j, hj⟩ : ∃ j, m = 16 * k + (j + 1) := ⟨m - 16 * k - 1, by omega⟩
      have hP := (Hv.out.take_ hml)
      have hPt : (l.take m).length = m := by rw [List.length_take]; omega
      have hP2 := (show SL w (Bw w) (.slice (some ad) (l.take m).length c) (l.take m) by rw [hPt]; exact hP).cut_ (k := 16 * k) (by omega)
      have hPe : (l.take m).drop (16 * k) = (l.drop (16 * k)).take 16 := by
        rw [List.drop_take]
        by_cases h : l.length < 16 * k + 16
        · rw [List.take_of_length_le (by rw [List.length_drop]; omega), List.take_of_length_le (by rw [List.length_drop]; omega)]
        · congr 1
          omega
      rw [hPe, hPt, if_neg (by omega)] at hP2
      have hPl : ((l.drop (16 * k)).take 16).length = j + 1 := by rw [List.length_take, List.length_drop]; omega
      have hm2 : m - 16 * k = j + 1 := by omega
      rw [hm2] at hP2
      have hP3 : SL w (Bw w) (.slice (some (ad.add (16 * k * 4))) (j + 1) (c - 16 * k)) ((l.drop (16 * k)).take 16) := hP2
      have hbs := dblk_snoc k l hlt
      have hPm : ∀ e ∈ (l.drop (16 * k)).take 16, eOk e = true := fun e he => Hmem.out e (List.mem_of_mem_drop (List.mem_of_mem_take he))
      have hPn := esby_len ((l.drop (16 * k)).take 16) [] hPm
      have hHd : (enc l.length ++ dblk k l).length ≤ 700000 := by
        have e1 := enc_len10 (n := l.length) (U64.mk (by omega))
        have := dblk_len k l Hmem.out (by omega)
        rw [List.length_append]
        omega
      have hj16 : j + 1 ≤ 16 := by omega
      clear hP hP2 hPt hPe
      have hb1 : enc l.length ++ dblk (k + 1) l = (enc l.length ++ dblk k l) ++ enc (esby [] ((l.drop (16 * k)).take 16)).length ++ esby [] ((l.drop (16 * k)).take 16) := by rw [hbs]; simp only [List.append_assoc]
      generalize (l.drop (16 * k)).take 16 = P at hP3 hPl hPm hPn hb1
      generalize enc l.length ++ dblk k l = HD at ho hHd hb1
      have Ho := Lib.hid ho
      obtain ⟨Ah, ch, rfl⟩ := (Own.bs ho).form
      have HP := Lib.hid hP3
      have HPm := Lib.hid hPm
      have Hb1 := Lib.hid hb1
      have Hbs := Lib.hid hbs
      have Hm := Lib.hid hm
      have Hj := Lib.hid hj
      have HPl := Lib.hid hPl
      have hPL : P.length ≤ 1000 := by omega
      have hPn2 : (esby [] P).length ≤ 2000 := by omega
      have hmm : min (l.length : Int) ((16 * (k : Int)) + 16) = ((16 * k + (j + 1) : Nat) : Int) := by omega
      have hmc : 16 * k + (j + 1) ≤ c := by omega
      have hml2 : 16 * k + (j + 1) ≤ l.length := by omega
      have hcne : ¬c = 16 * k := by omega
      have hsub : 16 * k + (j + 1) - 16 * k = j + 1 := by omega
      clear ho hP3 hPm hb1 hbs hm hj hPl hx hPn
      go_wp2_with fail
      have hblk := rblock_any wr _ P (HP.out.up Hx.out) HPm.out hPL
      refine hblk.mono ?_
      rintro e w4 ⟨x, rfl, hox, hx4⟩
      generalize esby [] P = PB at hox hPn2 Hb1
      obtain ⟨Aq, cq, rfl⟩ := (Own.bs hox).form
      have Hox := Lib.hid hox
      have Hx4 := Lib.hid (Ext.trans Hx.out hx4)
      have Ho4 := Lib.hid (Own.ext Ho.out hx4)
      have hap : Apart (.slice Aq PB.length cq) (.slice Ah HD.length ch) := fun q h1 h2 => by
        have := (World.ownsRow.lt Ho.out q h2).2
        have := own_ge hox q h1
        omega
      have Hap := Lib.hid hap
      clear hox hx4 hblk hap
      go_wp2_with fail
      refine (num_any w4 (PB.length : Int) (by omega) (by omega)).mono ?_
      rintro e w5 ⟨v5, rfl, ho5, hx5⟩
      rw [Int.toNat_natCast] at ho5
      have e5 := enc_len10 (n := PB.length) (U64.mk (by omega))
      have Ho5 := Lib.hid ho5
      have Hx5 := Lib.hid (Ext.trans Hx4.out hx5)
      have Hh5 := Lib.hid (Own.ext Ho4.out hx5)
      have Hp5 := Lib.hid (Own.ext Hox.out hx5)
      have hl5 : HD.length + (enc PB.length).length ≤ 100000000 := by omega
      have hl6 : (HD ++ enc PB.length).length + PB.length ≤ 100000000 := by rw [List.length_append]; omega
      clear ho5 hx5
      go_wp2_with (at_builtin; first
        | (refine wpList_append_bytes _ rfl (.tmp 28) (.tmp 31) rfl w.heap.size (.slice Ah HD.length ch) HD rfl Hh5.out _ v5 _ rfl (Own.bs Ho5.out) hl5 Hx5.out.size ?_; intro v6 w6 hown6 hg6 hat6; have hgr := GrowO.append hg6 hat6; obtain ⟨hp6, _⟩ := hgr.own Hp5.out Hap.out; have hx6 := hgr.ext Hx5.out rfl (own_ge Hh5.out); clear hgr hg6 hat6)
        | (refine wpList_append_bytes _ rfl (.tmp 32) (.tmp 33) rfl w.heap.size _ _ rfl hown6 _ (.slice Aq PB.length cq) _ rfl (Own.bs hp6) hl6 hx6.size ?_; intro v7 w7 hown7 hg7 hat7; have hx7 := (GrowO.append hg7 hat7).ext hx6 rfl (own_ge hown6); clear hown6 hp6 hx6 hg7 hat7)
        | fail)
      rw [← Hb1.out] at hown7
      have Hall := Lib.hid (And.intro hown7 hx7)
      clear hown7 hx7
      go_wp2_with fail
      go_roundw
      case rel => exact ⟨k + 1, congrArg (Value.int .i64) (by omega), by omega, Hall.out.1, Hall.out.2⟩
      case measure => simp only [intOf]; omega
    · rw [dblk_fuel k l.length l (by omega) (by omega)] at ho
      have hlt' : ¬((16 * k : Nat) : Int) < l.length := by omega
      have Ho := Lib.hid ho
      clear ho hx
      go_wp2_with fail
      go_ret2
      exact ⟨_, rfl, Ho.out, Hx.out⟩

end Go.Proofs.Ytmgbhmmmegknjaa
