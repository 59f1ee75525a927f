/-
  Contracts of the reference's put and Encode.
  Conditions: not more than 70,000 docs, their bytes at most 700,000.
-/
import Derived.Test.YtnajmpkdeenkbaaEk
import Derived.Test.YtnajmpkdeenkbaaGr
import Derived.Deep.RegionHeld3
import Derived.Deep.DrawnRows
namespace Go.Proofs.Ytnajmpkdeenkbaa
open Go.RowKit Go.Op

theorem apart_new {w : World} {base2 : Nat} {u v : Value} {xs : List UInt8} (hv : Own w base2 v xs) (h : ∀ k, u.ownBlock = some k → k < base2) : Apart u v := fun k h1 h2 => by
  have := h k h1
  have := own_ge hv k h2
  omega
set_option maxHeartbeats 400000 in
theorem rput_any (w : World) (base : Nat) (hbase : base ≤ w.heap.size) (vb : Value) (bs : List UInt8) (n : Nat) (hb : Own w base vb bs) (hl : bs.length ≤ 1000000) (hn : n < 9223372036854775808) :
    Calls Try.prog 31 #[vb, .int .i64 n] w fun e w' => ∃ v', e = .returned v' ∧ Own w' base v' (bs ++ enc n) ∧ GrowO w w' vb v' := by
  have Hb := Lib.hid hb
  obtain ⟨A, c, rfl⟩ := (Own.bs hb).form
  have hu : U64 n := U64.mk (by omega)
  have he := enc_len10 hu
  have hn' : (n : Int) ≤ 9223372036854775807 := by omega
  clear hb
  go_enter Try.func31, Try.ntmps31
  go_wp2_with fail
  refine (bytes_any n n w (Nat.le_refl _) hu).mono ?_
  rintro e w1 ⟨v1, rfl, ho1, hx1⟩
  have Ho1 := Lib.hid ho1
  have Hx1 := Lib.hid hx1
  have hb1 : base ≤ w1.heap.size := Nat.le_trans hbase hx1.size
  clear ho1 hx1
  go_wp2_with (at_builtin; refine wpList_append_bytes _ rfl (.tmp 5) (.tmp 8) rfl base (.slice A bs.length c) bs rfl (Own.ext Hb.out Hx1.out) _ v1 (enc n) rfl (Own.bs Ho1.out) (by omega) hb1 ?_; intro v2 w2 hown2 hg2 hat2)
  go_ret
  exact ⟨_, rfl, hown2, GrowO.pre Hx1.out (GrowO.append hg2 hat2)⟩

set_option maxHeartbeats 800000 in
theorem srencode_bad (w : World) (v : Value) (l : List Doc) (hv : SL w (Bw w) v l) (hok : sOk l = false) :
    Calls Try.prog 12 #[v] w fun e w' => e = .returned (.tuple #[.slice none 0 0, .int .i64 120]) ∧ Ext w w' := by
  have Hok := Lib.hid hok
  clear hok
  go_enter Try.func12, Try.ntmps12
  go_wp2_with fail
  refine (ris_any w v l hv).mono ?_
  rintro e w1 ⟨rfl, hx1⟩
  rw [Hok.out]
  go_wp2
  go_ret2
  exact ⟨rfl, hx1⟩

set_option maxHeartbeats 4000000 in
set_option maxRecDepth 100000 in
theorem srencode_ok (w : World) (v : Value) (l : List Doc) (hv : SL w (Bw w) v l) (hr : Row l) (hsz : (dby 0 l).length ≤ 700000) (hl : l.length ≤ 70000) :
    Calls Try.prog 12 #[v] w fun e w' => ∃ u, e = .returned (.tuple #[u, .int .i64 0]) ∧ Own w' w.heap.size u (senc l) ∧ Ext w w' := by
  obtain ⟨A, c, rfl, hc, hm⟩ := hv.form
  have hcm : (c : Int) ≤ 9223372036854775807 := by unfold maxLen at hm; omega
  have Hv := Lib.hid hv
  have Hr := Lib.hid hr.from_.1
  have Hok := Lib.hid hr.ok
  have hHdL : ∀ k, 16 * k < l.length + 16 → (enc l.length ++ encs (hns l k)).length ≤ 90000 := by
    intro k hk
    have e1 := enc_len10 (n := l.length) (U64.mk (by omega))
    have e2 := encs_len (hns l k) (hns_small Hr.out (by omega) k)
    rw [hns_len] at e2
    rw [List.length_append]
    omega
  have HHd := Lib.hid hHdL
  clear hv hr hm hHdL
  go_enter Try.func12, Try.ntmps12
  go_wp2_with fail
  refine (ris_any w _ l Hv.out).mono ?_
  rintro e w1 ⟨rfl, hx1⟩
  rw [Hok.out]
  have Hx1 := Lib.hid hx1
  clear hx1
  go_wp2_with fail
  refine (rput_any w1 w.heap.size Hx1.out.size _ [] l.length (Own.nil_ _ _) (by simp) (by omega)).mono ?_
  rintro e w2 ⟨v2, rfl, ho2, hg2⟩
  rw [List.nil_append] at ho2
  have Hx2 := Lib.hid (hg2.ext Hx1.out rfl (fun k h => by simp [Value.ownBlock] at h))
  have Ho2 := Lib.hid ho2
  clear hg2 ho2
  go_wp2_with fail
  go_loopw [4, 5, 6, 7] (fun h b a i wr => ∃ k b0 : Nat, i = .int .i64 b0 ∧ b0 = 16 * k ∧ 16 * k < l.length + 16 ∧ a = .int .i64 (lastD 0 (l.take (16 * k))) ∧ Own wr w.heap.size h (enc l.length ++ encs (hns l k)) ∧ Own wr w.heap.size b (dby 0 (l.take (16 * k))) ∧ Apart h b ∧ Ext w wr) (fun _ _ _ i _ => l.length + 16 - (intOf i).toNat)
  case atStart => exact ⟨0, 0, rfl, rfl, by omega, rfl, by simpa [hns, encs] using Ho2.out, Own.nil_ _ _, Apart.nil_ _, Hx2.out⟩
  case round =>
    obtain ⟨k, b0, rfl, hb0, hk, rfl, hoh, hob, hap, hx⟩ := hrel
    have Hb0 := Lib.hid hb0
    have Hx := Lib.hid hx
    have Hap := Lib.hid hap
    by_cases hlt : 16 * k < l.length
    · obtain ⟨ad, rfl⟩ : ∃ ad, A = some ad := by
        obtain ⟨ad, _, h, _⟩ := Hv.out.doc_at hlt
        exact ⟨ad, h⟩
      have hHd := HHd.out k hk
      have hLk := bkL_le Hr.out (k + 1)
      have hnx := hns_next l k
      have hdb := dby_block l k
      have hbl := dby_take_le l 0 (16 * k)
      have hbk := bkB_le l k
      have hdbl : (dby 0 (l.take (16 * (k + 1)))).length ≤ 700000 := Nat.le_trans (dby_take_le l 0 _) hsz
      have hN2 : enc l.length ++ encs (hns l (k + 1)) = (enc l.length ++ encs (hns l k)) ++ enc (bkL l (k + 1)).toNat ++ enc (bkB l k).length := by rw [hnx]; simp only [List.append_assoc]
      have HN2 := Lib.hid hN2
      have Hdb := Lib.hid hdb
      generalize enc l.length ++ encs (hns l k) = HD at *
      generalize hBD : dby 0 (l.take (16 * k)) = BD at *
      have HBD := Lib.hid hBD
      obtain ⟨Ah, ch, rfl⟩ := (Own.bs hoh).form
      obtain ⟨Ab, cb, rfl⟩ := (Own.bs hob).form
      have Hoh := Lib.hid hoh
      have Hob := Lib.hid hob
      have hlti : (b0 : Int) < l.length := by omega
      have hb0l : b0 ≤ 70000 := by omega
      clear hoh hob hap hx hN2 hdb hnx hBD hb0
      go_wp2_with fail
      go_loopw [6, 8, 9] (fun a x i wi => ∃ q j : Nat, i = .int .i64 q ∧ q = 16 * k + j ∧ j ≤ 16 ∧ q ≤ l.length ∧ a = .int .i64 (lastD 0 (l.take q)) ∧ Own wi wr.heap.size x (dby (bkL l k) ((l.drop (16 * k)).take j)) ∧ Ext wr wi) (fun _ _ i _ => l.length - (intOf i).toNat)
      case atStart => exact ⟨b0, 0, rfl, by have := Hb0.out; omega, by omega, by omega, by rw [Hb0.out], Own.nil_ _ _, Below.refl _ _⟩
      case round =>
        rename World => wi
        obtain ⟨q, j, rfl, hq, hj16, hjl, rfl, hox, hxi⟩ := hrel
        have Hox := Lib.hid hox
        have Hxi := Lib.hid hxi
        obtain ⟨Ax, cx, rfl⟩ := (Own.bs hox).form
        have Hq := Lib.hid hq
        by_cases h1 : q < l.length
        · have h1i : (q : Int) < l.length := by omega
          by_cases h2 : j < 16
          · have h2i : (q : Int) < (b0 : Int) + 16 := by have := Hb0.out; omega
            obtain ⟨ad1, u, had1, _, hc0, hc1, hc2, hu, h6, h7⟩ := Hv.out.doc_at h1
            obtain rfl : ad = ad1 := by injection had1
            have hrj := Hr.out.drop q
            rw [List.drop_eq_getElem_cons h1] at hrj
            obtain ⟨r1, r2, r3, r4, _⟩ := hrj.cons
            have hL1 := (Hr.out.take q).last (by decide)
            have htn : (l.drop (16 * k)).take (j + 1) = (l.drop (16 * k)).take j ++ [l[q]] := by
              rw [take_nextE _ (by rw [List.length_drop]; omega), List.getElem_drop]
              subst hq
              rfl
            have hta : l.take (q + 1) = l.take q ++ [l[q]] := take_nextE l h1
            have hlL : lastD (bkL l k) ((l.drop (16 * k)).take j) = lastD 0 (l.take q) := by
              unfold bkL
              rw [← lastD_append, ← List.take_add, ← hq]
            have hsn := dby_snoc ((l.drop (16 * k)).take j) l[q] (bkL l k)
            have hls := lastD_snoc (l.take q) l[q] 0
            rw [← htn, hlL] at hsn
            rw [← hta] at hls
            have hlen : (dby (bkL l k) ((l.drop (16 * k)).take j)).length ≤ 700000 := by
              have h1 := dby_take_le l 0 (16 * k + j)
              rw [List.take_add, dby_append, List.length_append] at h1
              have h2 : lastD 0 (l.take (16 * k)) = bkL l k := rfl
              rw [h2] at h1
              omega
            clear hrj htn hta hlL
            generalize l[q]'h1 = N at hc0 hc1 hc2 hu h6 h7 r1 r2 r3 r4 hsn hls
            obtain ⟨s, at_, fs⟩ := N
            dsimp only at hc0 hc1 hc2 hu h6 h7 r1 r2 r3 r4 hsn hls
            obtain ⟨Au, cu, rfl, _⟩ := hu.form
            generalize lastD 0 (l.take q) = LA at *
            generalize dby (bkL l k) ((l.drop (16 * k)).take j) = XB at *
            obtain ⟨D, hD⟩ : ∃ D : Nat, s - LA - 1 = D := ⟨(s - LA - 1).toNat, by omega⟩
            rw [hD, Int.toNat_natCast] at hsn
            have eD := enc_len10 (n := D) (U64.mk (by omega))
            have hev := evby_len r3 r4
            have hD1 : s - LA = (D : Int) + 1 := by omega
            have hw22 : IntKind.i64.wrap (s - LA) = (D : Int) + 1 := by rw [IntKind.wrap_i64]; omega
            have hw23 : IntKind.i64.wrap ((D : Int) + 1 - 1) = D := by rw [IntKind.wrap_i64]; omega
            have hw25 : IntKind.i64.wrap ((D : Int) + 1) = (D : Int) + 1 := by rw [IntKind.wrap_i64]; omega
            have hw24 : IntKind.i64.wrap (D : Int) = D := by rw [IntKind.wrap_i64]; omega
            have Hu := Lib.hid hu
            have C0 := Lib.hid hc0
            have C1 := Lib.hid hc1
            have C2 := Lib.hid hc2
            have Hsn := Lib.hid hsn
            have Hls := Lib.hid hls
            have X0 := Lib.hid (Ext.trans (Ext.trans Hx.out Hxi.out) (Ext.drew wi))
            have Y0 := Lib.hid (Ext.trans Hxi.out (Ext.drew wi))
            have Hr3 := Lib.hid r3
            have s0 : wr.heap.size ≤ wi.drew.heap.size := Y0.out.size
            have s1 : XB.length ≤ 1000000 := by omega
            have s2 : D < 9223372036854775808 := by omega
            have s3 : (XB ++ enc D).length + (evby (at_, fs)).length ≤ 100000000 := by rw [List.length_append]; omega
            clear hu hc0 hc1 hc2 hsn hls hox hxi had1 hev r3 hq
            go_wp2_with fail
            go_region_held3 (fun W => W.cell? (ad.add (q * 3)) = some (.int .i64 s) ∧ W.cell? ⟨(ad.add (q * 3)).block, (ad.add (q * 3)).off + 1, none⟩ = some (.int .i64 at_) ∧ W.cell? ⟨(ad.add (q * 3)).block, (ad.add (q * 3)).off + 2, none⟩ = some (.slice Au fs.length cu))
              (first
                | exact ⟨Ext.keeps X0.out C0.out, Ext.keeps X0.out C1.out, Ext.keeps X0.out C2.out⟩
                | exact ⟨Ext.keeps (Ext.trans Hx.out x4) C0.out, Ext.keeps (Ext.trans Hx.out x4) C1.out, Ext.keeps (Ext.trans Hx.out x4) C2.out⟩
                | exact ⟨Ext.keeps (Ext.trans Hx.out x3) C0.out, Ext.keeps (Ext.trans Hx.out x3) C1.out, Ext.keeps (Ext.trans Hx.out x3) C2.out⟩
                | exact ⟨Ext.keeps (Ext.trans Hx.out x2) C0.out, Ext.keeps (Ext.trans Hx.out x2) C1.out, Ext.keeps (Ext.trans Hx.out x2) C2.out⟩
                | fail)
              (first
                | (refine step_append_bytes _ (by rfl) (.tmp 44) (.tmp 50) (by rfl) wr.heap.size v2 _ (by rfl) (Own.ext ho2 hx3) _ v3 _ (by rfl) (Own.bs ho3) s3 x3.size ?_
                   intro v4 w4 ho4 hg4 hat4
                   have x4 := (GrowO.append hg4 hat4).ext x3 rfl (own_ge (Own.ext ho2 hx3)))
                | (go_at_call 32
                   refine (revby_any w2 at_ _ fs (Hu.out.up (Ext.trans Hx.out x2)) Hr3.out r4).mono ?_
                   rintro e w3 ⟨v3, rfl, ho3, hx3⟩
                   have x3 := Ext.trans x2 hx3)
                | (go_at_call 31
                   refine (rput_any wi.drew wr.heap.size s0 _ XB D (Own.ext Hox.out (Ext.drew wi)) s1 s2).mono ?_
                   rintro e w2 ⟨v2, rfl, ho2, hg2⟩
                   have x2 := hg2.ext Y0.out rfl (own_ge Hox.out))
                | fail)
            rw [← Hsn.out] at ho4
            have X4 := Lib.hid x4
            have Ho4 := Lib.hid ho4
            obtain ⟨A4, c4, rfl⟩ := (Own.bs ho4).form
            have q0 := Ext.keeps (Ext.trans Hx.out x4) C0.out
            clear ho2 hg2 x2 ho3 hx3 x3 ho4 hg4 hat4 x4
            go_wp2_with fail
            go_roundw
            case rel => exact ⟨q + 1, j + 1, rfl, by have := Hq.out; omega, by omega, by omega, by rw [Hls.out], Ho4.out, X4.out⟩
            case measure => simp only [intOf]; omega
          · obtain rfl : j = 16 := by omega
            have h2i : ¬(q : Int) < (b0 : Int) + 16 := by have := Hb0.out; omega
            have hfin : dby (bkL l k) ((l.drop (16 * k)).take 16) = bkB l k := rfl
            have hlst : lastD 0 (l.take q) = bkL l (k + 1) := by rw [hq]; rfl
            rw [hfin] at Hox
            rw [hlst]
            have hxh : Apart (.slice Ax _ cx) (.slice Ah HD.length ch) := (apart_new Hox.out fun r hr => (World.ownsRow.lt Hoh.out r hr).2).symm
            have hxb : Apart (.slice Ax _ cx) (.slice Ab BD.length cb) := (apart_new Hox.out fun r hr => (World.ownsRow.lt Hob.out r hr).2).symm
            rw [hfin]
            obtain ⟨LN, hLN⟩ : ∃ n : Nat, bkL l (k + 1) = (n : Int) := ⟨(bkL l (k + 1)).toNat, by omega⟩
            have HLL : Hid (lastD 0 (l.take (16 * (k + 1))) = (LN : Int)) := Lib.hid hLN
            rw [hLN] at HN2 hLk ⊢
            rw [Int.toNat_natCast] at HN2
            generalize bkB l k = BB at *
            have Hxh := Lib.hid hxh
            have Hxb := Lib.hid hxb
            have Hoh4 := Lib.hid (Own.ext Hoh.out Hxi.out)
            have Hob4 := Lib.hid (Own.ext Hob.out Hxi.out)
            have X4 := Lib.hid (Ext.trans Hx.out Hxi.out)
            clear hxh hxb hox hxi hlst hfin hLN hq
            go_wp2_with fail
            refine (rput_any wi w.heap.size X4.out.size _ HD LN Hoh4.out (by omega) (by omega)).mono ?_
            rintro e w5 ⟨v5, rfl, ho5, hg5⟩
            have e5 := enc_len10 (n := LN) (U64.mk (by omega))
            obtain ⟨hob5, hap5⟩ := hg5.own Hob4.out Hap.out.symm
            obtain ⟨hox5, hxh5⟩ := hg5.own Hox.out Hxh.out
            have Hx5 := Lib.hid (hg5.ext X4.out rfl (own_ge Hoh4.out))
            have Ho5 := Lib.hid ho5
            have Hob5 := Lib.hid hob5
            have Hap5 := Lib.hid hap5
            have Hox5 := Lib.hid hox5
            have Hxh5 := Lib.hid hxh5
            clear ho5 hg5 hob5 hap5 hox5 hxh5
            go_wp2_with fail
            have l5 : (HD ++ enc LN).length ≤ 1000000 := by rw [List.length_append]; omega
            refine (rput_any w5 w.heap.size Hx5.out.size _ _ BB.length Ho5.out l5 (by omega)).mono ?_
            rintro e w6 ⟨v6, rfl, ho6, hg6⟩
            rw [← HN2.out] at ho6
            obtain ⟨hob6, hap6⟩ := hg6.own Hob5.out Hap5.out
            obtain ⟨hox6, _⟩ := hg6.own Hox5.out Hxh5.out
            have Hx6 := Lib.hid (hg6.ext Hx5.out rfl (own_ge Ho5.out))
            have Ho6 := Lib.hid ho6
            have Hob6 := Lib.hid hob6
            have Hap6 := Lib.hid hap6
            have Hox6 := Lib.hid hox6
            clear ho6 hg6 hob6 hap6 hox6
            have hlen6 : BD.length + BB.length ≤ 100000000 := by omega
            go_wp2_with (at_builtin; refine wpList_append_bytes _ rfl (.tmp 63) (.tmp 64) rfl w.heap.size (.slice Ab BD.length cb) BD rfl Hob6.out _ (.slice Ax BB.length cx) BB rfl (Own.bs Hox6.out) hlen6 Hx6.out.size ?_; intro v9 w9 hown9 hg9 hat9)
            have hgr := GrowO.append hg9 hat9
            obtain ⟨hoh9, hap9⟩ := hgr.own Ho6.out Hap6.out.symm
            have hx9 := hgr.ext Hx6.out rfl (own_ge Hob6.out)
            rw [← Hdb.out] at hown9
            have Hall := Lib.hid (And.intro hoh9 (And.intro hown9 (And.intro hap9 hx9)))
            clear hgr hoh9 hap9 hx9 hown9 hg9 hat9
            go_wp2_with fail
            go_roundw
            case rel => exact ⟨k + 1, b0 + 16, congrArg (Value.int .i64) (by omega), by have := Hb0.out; omega, by omega, by rw [HLL.out], Hall.out.1, Hall.out.2.1, Hall.out.2.2.1, Hall.out.2.2.2⟩
            case measure => simp only [intOf]; omega
        · have h1i : ¬(q : Int) < l.length := by omega
          have hfin : dby (bkL l k) ((l.drop (16 * k)).take j) = bkB l k := by
            unfold bkB bkD
            rw [List.take_of_length_le (by rw [List.length_drop]; omega), List.take_of_length_le (by rw [List.length_drop]; omega)]
          have hlst : lastD 0 (l.take q) = bkL l (k + 1) := by
            unfold bkL
            rw [List.take_of_length_le (by omega), List.take_of_length_le (by omega)]
          rw [hfin] at Hox
          rw [hlst]
          have hxh : Apart (.slice Ax _ cx) (.slice Ah HD.length ch) := (apart_new Hox.out fun r hr => (World.ownsRow.lt Hoh.out r hr).2).symm
          have hxb : Apart (.slice Ax _ cx) (.slice Ab BD.length cb) := (apart_new Hox.out fun r hr => (World.ownsRow.lt Hob.out r hr).2).symm
          rw [hfin]
          obtain ⟨LN, hLN⟩ : ∃ n : Nat, bkL l (k + 1) = (n : Int) := ⟨(bkL l (k + 1)).toNat, by omega⟩
          have HLL : Hid (lastD 0 (l.take (16 * (k + 1))) = (LN : Int)) := Lib.hid hLN
          rw [hLN] at HN2 hLk ⊢
          rw [Int.toNat_natCast] at HN2
          generalize bkB l k = BB at *
          have Hxh := Lib.hid hxh
          have Hxb := Lib.hid hxb
          have Hoh4 := Lib.hid (Own.ext Hoh.out Hxi.out)
          have Hob4 := Lib.hid (Own.ext Hob.out Hxi.out)
          have X4 := Lib.hid (Ext.trans Hx.out Hxi.out)
          clear hxh hxb hox hxi hlst hfin hLN hq
          go_wp2_with fail
          refine (rput_any wi w.heap.size X4.out.size _ HD LN Hoh4.out (by omega) (by omega)).mono ?_
          rintro e w5 ⟨v5, rfl, ho5, hg5⟩
          have e5 := enc_len10 (n := LN) (U64.mk (by omega))
          obtain ⟨hob5, hap5⟩ := hg5.own Hob4.out Hap.out.symm
          obtain ⟨hox5, hxh5⟩ := hg5.own Hox.out Hxh.out
          have Hx5 := Lib.hid (hg5.ext X4.out rfl (own_ge Hoh4.out))
          have Ho5 := Lib.hid ho5
          have Hob5 := Lib.hid hob5
          have Hap5 := Lib.hid hap5
          have Hox5 := Lib.hid hox5
          have Hxh5 := Lib.hid hxh5
          clear ho5 hg5 hob5 hap5 hox5 hxh5
          go_wp2_with fail
          have l5 : (HD ++ enc LN).length ≤ 1000000 := by rw [List.length_append]; omega
          refine (rput_any w5 w.heap.size Hx5.out.size _ _ BB.length Ho5.out l5 (by omega)).mono ?_
          rintro e w6 ⟨v6, rfl, ho6, hg6⟩
          rw [← HN2.out] at ho6
          obtain ⟨hob6, hap6⟩ := hg6.own Hob5.out Hap5.out
          obtain ⟨hox6, _⟩ := hg6.own Hox5.out Hxh5.out
          have Hx6 := Lib.hid (hg6.ext Hx5.out rfl (own_ge Ho5.out))
          have Ho6 := Lib.hid ho6
          have Hob6 := Lib.hid hob6
          have Hap6 := Lib.hid hap6
          have Hox6 := Lib.hid hox6
          clear ho6 hg6 hob6 hap6 hox6
          have hlen6 : BD.length + BB.length ≤ 100000000 := by omega
          go_wp2_with (at_builtin; refine wpList_append_bytes _ rfl (.tmp 63) (.tmp 64) rfl w.heap.size (.slice Ab BD.length cb) BD rfl Hob6.out _ (.slice Ax BB.length cx) BB rfl (Own.bs Hox6.out) hlen6 Hx6.out.size ?_; intro v9 w9 hown9 hg9 hat9)
          have hgr := GrowO.append hg9 hat9
          obtain ⟨hoh9, hap9⟩ := hgr.own Ho6.out Hap6.out.symm
          have hx9 := hgr.ext Hx6.out rfl (own_ge Hob6.out)
          rw [← Hdb.out] at hown9
          have Hall := Lib.hid (And.intro hoh9 (And.intro hown9 (And.intro hap9 hx9)))
          clear hgr hoh9 hap9 hx9 hown9 hg9 hat9
          go_wp2_with fail
          go_roundw
          case rel => exact ⟨k + 1, b0 + 16, congrArg (Value.int .i64) (by omega), by have := Hb0.out; omega, by omega, by rw [HLL.out], Hall.out.1, Hall.out.2.1, Hall.out.2.2.1, Hall.out.2.2.2⟩
          case measure => simp only [intOf]; omega
    · obtain rfl : k = nbk l.length := by unfold nbk; omega
      rw [List.take_of_length_le (by omega)] at hob
      have hlt' : ¬(b0 : Int) < l.length := by omega
      have hHd := HHd.out _ hk
      have HSe : Hid (senc l = (enc l.length ++ encs (hns l (nbk l.length))) ++ dby 0 l) := Lib.hid rfl
      generalize enc l.length ++ encs (hns l (nbk l.length)) = HD at *
      generalize dby 0 l = BD at *
      have Hoh := Lib.hid hoh
      have Hob := Lib.hid hob
      obtain ⟨Ah, ch, rfl⟩ := (Own.bs hoh).form
      obtain ⟨Ab, cb, rfl⟩ := (Own.bs hob).form
      have l9 : HD.length + BD.length ≤ 100000000 := by omega
      have s9 := Hx.out.size
      clear hoh hob hx hap hb0
      go_wp2_with (at_builtin; refine wpList_append_bytes _ rfl (.tmp 66) (.tmp 67) rfl w.heap.size (.slice Ah HD.length ch) HD rfl Hoh.out _ (.slice Ab BD.length cb) BD rfl (Own.bs Hob.out) l9 s9 ?_; intro v9 w9 hown9 hg9 hat9)
      have hx9 := (GrowO.append hg9 hat9).ext Hx.out rfl (own_ge Hoh.out)
      go_ret2
      exact ⟨_, rfl, by rw [HSe.out]; exact hown9, hx9⟩

end Go.Proofs.Ytnajmpkdeenkbaa
