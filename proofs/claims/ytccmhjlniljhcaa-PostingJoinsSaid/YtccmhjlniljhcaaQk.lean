/-
  Contract of the reference's Encode.
  Conditions: rows of at most 700,000 bytes, by their weight.
-/
import Derived.Test.YtccmhjlniljhcaaQj
namespace Go.Proofs.Ytccmhjlniljhcaa
open Go.RowKit

theorem plast_last {P : List Post} {j : Nat} (h : P.length = j + 1) (last : Int) : plast last P = (P[j]'(by omega)).1 := by
  have := plast_snoc (P.take j) last (P[j]'(by omega))
  rw [← take_next P (by omega), List.take_of_length_le (by omega)] at this
  exact this
theorem apart_new {w : World} {base2 : Nat} {u v : Value} {xs : List UInt8} (hv : Own w base2 v xs) (h : ∀ k, u.ownBlock = some k → k < base2) : Apart u v := fun k h1 h2 => by
  have := h k h1
  have := own_ge hv k h2
  omega

set_option maxHeartbeats 800000 in
theorem rencode_bad (w : World) (v : Value) (l : List Post) (hv : SL w (Bw w) v l) (hok : psOk l = false) :
    Calls Try.prog 11 #[v] w fun e w' => e = .returned (.tuple #[.slice none 0 0, .int .i64 80]) ∧ Ext w w' := by
  have Hok := Lib.hid hok
  clear hok
  go_enter Try.func11, Try.ntmps11
  go_wp2_with fail
  refine (is_any w v l hv).mono ?_
  rintro e w1 ⟨rfl, hx1⟩
  rw [Hok.out]
  go_wp2
  go_ret2
  exact ⟨rfl, hx1⟩

set_option maxHeartbeats 4000000 in
set_option maxRecDepth 100000 in
theorem rencode_ok (w : World) (v : Value) (l : List Post) (hv : SL w (Bw w) v l) (hok : psOk l = true) (hw : wt l ≤ 700000) :
    Calls Try.prog 11 #[v] w fun e w' => ∃ u, e = .returned (.tuple #[u, .int .i64 0]) ∧ Own w' w.heap.size u (penc l) ∧ Ext w w' := by
  obtain ⟨hdoc, hpos⟩ := psOk_spec hok
  have hwl := wt_len l
  obtain ⟨A, c, rfl, hc, hm⟩ := hv.form
  have hcm : (c : Int) ≤ 9223372036854775807 := by unfold maxLen at hm; omega
  have Hv := Lib.hid hv
  have Hpos := Lib.hid hpos
  have Hdoc := Lib.hid hdoc
  have Hok := Lib.hid hok
  clear hv hpos hdoc hok hm
  go_enter Try.func11, Try.ntmps11
  go_wp2_with fail
  refine (is_any w _ l Hv.out).mono ?_
  rintro e w1 ⟨rfl, hx1⟩
  rw [Hok.out]
  go_wp2_with fail
  refine (rput_any w1 w.heap.size hx1.size _ [] l.length (Own.nil_ _ _) (by simp) (by omega)).mono ?_
  rintro e w2 ⟨v2, rfl, ho2, hg2⟩
  rw [List.nil_append] at ho2
  have Hx2 := Lib.hid (hg2.ext hx1 rfl (fun k h => by simp [Value.ownBlock] at h))
  have Ho2 := Lib.hid ho2
  clear hx1 hg2 ho2
  go_wp2_with fail
  go_loopw [4, 5, 6, 7] (fun h b a i wr => ∃ k : Nat, i = .int .i64 (32 * k : Nat) ∧ 32 * k ≤ l.length + 32 ∧ a = .int .i64 (plast (-1) (l.take (32 * k))) ∧ Own wr w.heap.size h (enc l.length ++ (blks k (-1) l).1) ∧ Own wr w.heap.size b (blks k (-1) l).2 ∧ Apart h b ∧ Ext w wr) (fun _ _ _ i _ => l.length + 32 - (intOf i).toNat)
  case atStart => exact ⟨0, rfl, by omega, rfl, by simpa [blks] using Ho2.out, Own.nil_ _ _, Apart.nil_ _, Hx2.out⟩
  case round =>
    obtain ⟨k, rfl, hk, rfl, hoh, hob, hap, hx⟩ := hrel
    have Hx := Lib.hid hx
    have Hap := Lib.hid hap
    by_cases hlt : 32 * k < l.length
    · obtain ⟨ad, rfl⟩ : ∃ ad, A = some ad := by
        obtain ⟨ad, _, h, _⟩ := Hv.out.post_at hlt
        exact ⟨ad, h⟩
      obtain ⟨m, hm, hml⟩ : ∃ m, m = min l.length (32 * k + 32) ∧ m ≤ l.length := ⟨_, rfl, by omega⟩
      obtain ⟨j, hj⟩ : ∃ j, m = 32 * k + (j + 1) := ⟨m - 32 * k - 1, by omega⟩
      have hP := (Hv.out.take_ hml)
      have hPt : (l.take m).length = m := by rw [List.length_take]; omega
      have hP2 := (show SL w (Bw w) (.slice (some ad) (l.take m).length c) (l.take m) by rw [hPt]; exact hP).cut_ (k := 32 * k) (by omega)
      have hPe : (l.take m).drop (32 * k) = (l.drop (32 * k)).take 32 := by
        rw [List.drop_take]
        by_cases h : l.length < 32 * k + 32
        · rw [List.take_of_length_le (by rw [List.length_drop]; omega), List.take_of_length_le (by rw [List.length_drop]; omega)]
        · congr 1
          omega
      rw [hPe, hPt, if_neg (by omega)] at hP2
      have hPl : ((l.drop (32 * k)).take 32).length = j + 1 := by rw [List.length_take, List.length_drop]; omega
      have hm2 : m - 32 * k = j + 1 := by omega
      rw [hm2] at hP2
      have hP3 : SL w (Bw w) (.slice (some (ad.add (32 * k * 2))) (j + 1) (c - 32 * k)) ((l.drop (32 * k)).take 32) := hP2
      have hbs := blks_snoc k (-1) l hlt
      have hdk := plast_bounds Hdoc.out (32 * k)
      have hPp : ∀ p ∈ (l.drop (32 * k)).take 32, ris (-1) 1048576 p.2 = true := fun p hp => (Hpos.out p (List.mem_of_mem_drop (List.mem_of_mem_take hp))).2
      have hPr : ris (plast (-1) (l.take (32 * k))) 65536 (((l.drop (32 * k)).take 32).map (·.1)) = true := by
        have h1 := ris_drop (l.map (·.1)) (-1) 65536 (32 * k) Hdoc.out
        rw [← List.map_take, ← List.map_drop, ← plast_eq] at h1
        rw [← List.take_append_drop 32 (l.drop (32 * k)), List.map_append] at h1
        exact ris_left h1
      have hPw : wt ((l.drop (32 * k)).take 32) ≤ 700000 := by
        have h1 := wt_le l (32 * k)
        have h2 := wt_le (l.drop (32 * k)) 32
        omega
      have hhd : (enc l.length ++ (blks k (-1) l).1).length ≤ 720000 ∧ (blks k (-1) l).2.length ≤ 700000 := by
        obtain ⟨i1, i2⟩ := blks_len k (-1) l Hdoc.out (fun p hp => (Hpos.out p hp).2) (by omega) (by omega)
        have e1 := enc_len10 (n := l.length) (U64.mk (by omega))
        rw [List.length_append]
        omega
      have hlast : plast (-1) (l.take (32 * k + 32)) = plast (plast (-1) (l.take (32 * k))) ((l.drop (32 * k)).take 32) := by
        rw [← plast_append, ← List.take_add]
      have hlast0 := (plast_bounds Hdoc.out (32 * k + 32)).2.2.1 (by omega) (by omega)
      have hlast1 := (plast_bounds Hdoc.out (32 * k + 32)).2.1
      rw [hlast] at hbs hlast0 hlast1
      have hb1 : enc l.length ++ (blks (k + 1) (-1) l).1 = (enc l.length ++ (blks k (-1) l).1) ++ (enc (plast (plast (-1) (l.take (32 * k))) ((l.drop (32 * k)).take 32)).toNat ++ enc (psby (plast (-1) (l.take (32 * k))) ((l.drop (32 * k)).take 32)).length) := by rw [hbs.1, List.append_assoc]
      have hb2 := hbs.2
      have hmul : 32 * (k + 1) = 32 * k + 32 := by omega
      have hlast2 : plast (-1) (l.take (32 * (k + 1))) = plast (plast (-1) (l.take (32 * k))) ((l.drop (32 * k)).take 32) := by rw [hmul]; exact hlast
      clear hbs hP hP2 hPt hPe hlast hmul
      generalize (l.drop (32 * k)).take 32 = P at hP3 hPl hPp hPr hPw hlast0 hlast1 hb1 hb2 hlast2
      generalize plast (-1) (l.take (32 * k)) = L0 at hdk hPr hlast0 hlast1 hb1 hb2 hlast2
      generalize enc l.length ++ (blks k (-1) l).1 = HD at hoh hhd hb1
      generalize (blks k (-1) l).2 = BD at hob hhd hb2
      have hlP := psby_len P L0 hPr hPp hdk.1 (by omega)
      have hpl := plast_last hPl L0
      obtain ⟨adP, uP, hadP, _, hcP, _, _, hP6⟩ := hP3.post_at (show j < P.length by omega)
      obtain rfl : ad.add (32 * k * 2) = adP := by injection hadP
      have Hoh := Lib.hid hoh
      have Hob := Lib.hid hob
      obtain ⟨Ah, ch, rfl⟩ := (Own.bs hoh).form
      obtain ⟨Ab, cb, rfl⟩ := (Own.bs hob).form
      have HP := Lib.hid hP3
      have HPr := Lib.hid hPr
      have HPp := Lib.hid hPp
      have Hb1 := Lib.hid hb1
      have Hb2 := Lib.hid hb2
      have Hpl := Lib.hid hpl
      have Hl2 := Lib.hid hlast2
      have HcP := Lib.hid hcP
      have Hm := Lib.hid hm
      have Hj := Lib.hid hj
      have hdk1 := hdk.1
      have hmm : min (l.length : Int) ((32 * (k : Int)) + 32) = ((32 * k + (j + 1) : Nat) : Int) := by omega
      have hmc : 32 * k + (j + 1) ≤ c := by omega
      have hml2 : 32 * k + (j + 1) ≤ l.length := by omega
      have hcne : ¬c = 32 * k := by omega
      have hsub : 32 * k + (j + 1) - 32 * k = j + 1 := by omega
      clear hoh hob hP3 hPr hPp hb1 hb2 hpl hlast2 hcP hadP hdk hx hap hm hj
      go_wp2_with fail
      have hblk := rblock_any wr _ P L0 (HP.out.up Hx.out) HPr.out HPp.out hdk1 hPw
      refine hblk.mono ?_
      rintro e w4 ⟨x, rfl, hox, hx4⟩
      obtain ⟨Aq, cq, rfl⟩ := (Own.bs hox).form
      have Hox := Lib.hid hox
      have Hx4 := Lib.hid hx4
      have q0 := Ext.keeps (Ext.trans Hx.out hx4) HcP.out
      have hoh4 : Own w4 w.heap.size (.slice Ah HD.length ch) HD := Own.ext Hoh.out hx4
      have hob4 : Own w4 w.heap.size (.slice Ab BD.length cb) BD := Own.ext Hob.out hx4
      have hxh : Apart (.slice Aq (psby L0 P).length cq) (.slice Ah HD.length ch) := (apart_new hox fun k hk => (World.ownsRow.lt Hoh.out k hk).2).symm
      have hxb : Apart (.slice Aq (psby L0 P).length cq) (.slice Ab BD.length cb) := (apart_new hox fun k hk => (World.ownsRow.lt Hob.out k hk).2).symm
      rw [← Hpl.out] at q0
      obtain ⟨LN, hLN⟩ : ∃ n : Nat, plast L0 P = (n : Int) := ⟨(plast L0 P).toNat, by omega⟩
      rw [hLN] at hlast0 hlast1 Hb1 Hl2 q0
      rw [Int.toNat_natCast] at Hb1
      generalize psby L0 P = PB at Hox hlP Hb1 Hb2 hxh hxb
      have Hoh4 := Lib.hid hoh4
      have Hob4 := Lib.hid hob4
      have Hxh := Lib.hid hxh
      have Hxb := Lib.hid hxb
      have hx04 := Ext.trans Hx.out hx4
      have Hx04 := Lib.hid hx04
      clear hox hx4 hoh4 hob4 hxh hxb hLN hx04 hblk
      go_wp2_with fail
      refine (rput_any w4 w.heap.size Hx04.out.size _ HD LN Hoh4.out (by omega) (by omega)).mono ?_
      rintro e w5 ⟨v5, rfl, ho5, hg5⟩
      have e5 := enc_len10 (n := LN) (U64.mk (by omega))
      obtain ⟨hob5, hap5⟩ := hg5.own Hob4.out Hap.out.symm
      obtain ⟨hox5, hxh5⟩ := hg5.own Hox.out Hxh.out
      have Hx5 := Lib.hid (hg5.ext Hx04.out rfl (own_ge Hoh4.out))
      have Ho5 := Lib.hid ho5
      have Hob5 := Lib.hid hob5
      have Hap5 := Lib.hid hap5
      have Hox5 := Lib.hid hox5
      have Hxh5 := Lib.hid hxh5
      clear ho5 hg5 hob5 hap5 hox5 hxh5 q0
      go_wp2_with fail
      have l5 : (HD ++ enc LN).length ≤ 1000000 := by rw [List.length_append]; omega
      refine (rput_any w5 w.heap.size Hx5.out.size _ _ PB.length Ho5.out l5 (by omega)).mono ?_
      rintro e w6 ⟨v6, rfl, ho6, hg6⟩
      rw [List.append_assoc, ← Hb1.out] at ho6
      obtain ⟨hob6, hap6⟩ := hg6.own Hob5.out Hap5.out
      obtain ⟨hox6, _⟩ := hg6.own Hox5.out Hxh5.out
      have Hx6 := Lib.hid (hg6.ext Hx5.out rfl (own_ge Ho5.out))
      have Ho6 := Lib.hid ho6
      have Hob6 := Lib.hid hob6
      have Hap6 := Lib.hid hap6
      have Hox6 := Lib.hid hox6
      clear ho6 hg6 hob6 hap6 hox6
      have hlen6 : BD.length + PB.length ≤ 100000000 := by omega
      go_wp2_with (at_builtin; refine wpList_append_bytes _ rfl (.tmp 46) (.tmp 47) rfl w.heap.size (.slice Ab BD.length cb) BD rfl Hob6.out _ (.slice Aq PB.length cq) PB rfl (Own.bs Hox6.out) hlen6 Hx6.out.size ?_; intro v9 w9 hown9 hg9 hat9)
      have hgr := GrowO.append hg9 hat9
      obtain ⟨hoh9, hap9⟩ := hgr.own Ho6.out Hap6.out.symm
      have hx9 := hgr.ext Hx6.out rfl (own_ge Hob6.out)
      rw [← Hb2.out] at hown9
      have Hall := Lib.hid (And.intro hoh9 (And.intro hown9 (And.intro hap9 hx9)))
      clear hgr hoh9 hap9 hx9 hown9 hg9 hat9
      go_wp2_with fail
      go_roundw
      case rel => exact ⟨k + 1, congrArg (Value.int .i64) (by omega), by omega, by rw [Hl2.out], Hall.out.1, Hall.out.2.1, Hall.out.2.2.1, Hall.out.2.2.2⟩
      case measure => simp only [intOf]; omega
    · rw [blks_fuel k l.length (-1) l (by omega) (by omega)] at hoh hob
      have hlt' : ¬((32 * k : Nat) : Int) < l.length := by omega
      have hl1 := blks_len l.length (-1) l Hdoc.out (fun p hp => (Hpos.out p hp).2) (by omega) (by omega)
      have e1 := enc_len10 (n := l.length) (U64.mk (by omega))
      have hfin : enc l.length ++ (blks l.length (-1) l).1 ++ (blks l.length (-1) l).2 = penc l := rfl
      have hlen : (enc l.length ++ (blks l.length (-1) l).1).length + (blks l.length (-1) l).2.length ≤ 100000000 := by rw [List.length_append]; omega
      generalize enc l.length ++ (blks l.length (-1) l).1 = HD at hoh hfin hlen
      generalize (blks l.length (-1) l).2 = BD at hob hfin hlen
      have Hfin := Lib.hid hfin
      have Hoh := Lib.hid hoh
      have Hob := Lib.hid hob
      obtain ⟨Ah, ch, rfl⟩ := (Own.bs hoh).form
      obtain ⟨Ab, cb, rfl⟩ := (Own.bs hob).form
      clear hoh hob hfin hl1 hx hap
      go_wp2_with (at_builtin; refine wpList_append_bytes _ rfl (.tmp 49) (.tmp 50) rfl w.heap.size (.slice Ah HD.length ch) HD rfl Hoh.out _ (.slice Ab BD.length cb) BD rfl (Own.bs Hob.out) hlen Hx.out.size ?_; intro v9 w9 hown9 hg9 hat9)
      go_ret2
      exact ⟨_, rfl, by rw [← Hfin.out]; exact hown9, Hx.out.grown hg9 Hx.out.size (own_ge Hoh.out)⟩

end Go.Proofs.Ytccmhjlniljhcaa
