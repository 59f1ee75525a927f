/-
  Contract of posting.Encode.
  Conditions: rows of at most 700,000 bytes, by their weight.
-/
import Derived.Test.YtccmhjlniljhcaaQe
namespace Go.Proofs.Ytccmhjlniljhcaa
open Go.RowKit
attribute [local go_sem] Oper.semAt_some

set_option maxHeartbeats 800000 in
set_option maxRecDepth 100000 in
theorem encode_bad (w : World) (v : Value) (l : List Post) (hv : SL w (Bw w) v l) (hok : psOk l = false) :
    Calls Try.prog 10 #[v] w fun e w' => e = .returned (.tuple #[.slice none 0 0, .int .i64 80]) ∧ Ext w w' := by
  have Hv := Lib.hid hv
  clear hv
  go_enter Try.func10, Try.ntmps10
  go_wp2_with fail
  refine (check_any w _ l Hv.out).mono ?_
  rintro e w1 ⟨rfl, hx1⟩
  rw [hok, if_neg (by decide)]
  go_wp2
  go_ret2
  exact ⟨rfl, hx1⟩

set_option maxHeartbeats 4000000 in
set_option maxRecDepth 100000 in
theorem encode_ok (w : World) (v : Value) (l : List Post) (hv : SL w (Bw w) v l) (hok : psOk l = true) (hw : wt l ≤ 700000) :
    Calls Try.prog 10 #[v] w fun e w' => ∃ u, e = .returned (.tuple #[u, .int .i64 0]) ∧ Own w' w.heap.size u (penc l) ∧ Ext w w' := by
  obtain ⟨hdoc, hpos⟩ := psOk_spec hok
  have hwl := wt_len l
  obtain ⟨A, c, rfl, hc, hm⟩ := hv.form
  have Hv := Lib.hid hv
  have Hpos := Lib.hid hpos
  clear hv hpos
  refine (callsIn_wide (n := 3)).1 ?_
  refine callsIn_of_wp_marks Try.func10 rfl trivial ?_ rfl
  simp only [Try.ntmps10, List.size_toArray, List.length_cons, List.length_nil, Nat.reduceAdd, Nat.reduceSub, Array.replicate_succ, Array.replicate_zero, List.push_toArray, List.append_toArray, List.nil_append, List.cons_append]
  gi_wp2_with fail
  refine ⟨trivial, callsIn_wide.2 ((check_any w _ l Hv.out).mono ?_)⟩
  rintro e w1 ⟨rfl, hx1⟩
  rw [if_pos hok]
  gi_wp2_with fail
  refine ⟨trivial, callsIn_wide.2 ((put_any w1 w1.heap.size _ [] l.length (BS.nil_ _ _) (Nat.le_refl _) (by simp) (U64.mk (by omega))).mono ?_)⟩
  rintro e w2 ⟨v2, rfl, hv2, hx2⟩
  rw [List.nil_append] at hv2
  obtain ⟨A2, c2, rfl⟩ := (Own.bs hv2).form
  gi_wp2_with fail
  refine ⟨trivial, callsIn_wide.2 ((chunk_any _ A _ c).mono ?_)⟩
  rintro e w' ⟨rfl, rfl⟩
  have hB : w.heap.size ≤ w2.heap.size := Nat.le_trans hx1.size hx2.size
  have Hx2 := Lib.hid (hx1.trans hx2)
  have Hv2 := Lib.hid (Own.base hv2 hx1.size)
  clear hx1 hx2 hv2
  generalize hBB : w2.heap.size = B at hB
  gi_wp2_with fail
  refine wpIn_rangeFunc_raw rfl (by omega) (gf := 50) (lb := #[.pointer (some ⟨B + 3, 0, none⟩), .pointer (some ⟨B + 3 + 1, 0, none⟩)]) rfl trivial (enters_of Try.func50 (by kernel_rfl) rfl)
    (α := Nat) (encs := fun k => #[piece A l.length 2 k]) (Kp := fun _ _ => True) (fun _ _ => trivial) (fun _ _ _ _ _ _ _ _ => trivial) (fun _ => rfl)
    (fun _ k W => 32 * k < l.length ∧ ∃ vh vb, EncSt w B (.slice A l.length c) W vh vb (enc l.length ++ (blks k (-1) l).1) (blks k (-1) l).2 (plast (-1) (l.take (32 * k))))
    (fun pre W => ∃ k, pre.getLast? = some k ∧ ∃ vh vb, EncSt w B (.slice A l.length c) W vh vb (enc l.length ++ (blks (k + 1) (-1) l).1) (blks (k + 1) (-1) l).2 (plast (-1) (l.take (32 * (k + 1)))))
    (fun W => ∃ k, l.length ≤ 32 * k ∧ ∃ vh vb, EncSt w B (.slice A l.length c) W vh vb (enc l.length ++ (blks k (-1) l).1) (blks k (-1) l).2 (plast (-1) (l.take (32 * k))))
    ?tI ?tI' ?tId
    (fun k a' _ => a' = { tmps := #[.slice A l.length c, undef, .slice none 0 0, .int .i64 0, .int .i64 0, .pointer (some ⟨B, 0, none⟩), .pointer (some ⟨B + 1, 0, none⟩), .pointer (some ⟨B + 1 + 1, 0, none⟩), piece A l.length 2 k, undef, undef, undef, .slice A l.length c, .int .i64 0, .int .i64 0, .bool false, undef, .slice A l.length c, .int .i64 l.length, .int .u64 l.length, .slice A2 (enc l.length).length c2, .slice A l.length c, .func (.func 50) #[] #[.pointer (some ⟨B + 1 + 1 + 1, 0, none⟩), .pointer (some ⟨B + 1 + 1 + 1 + 1, 0, none⟩)], piece A l.length 2 k, undef, undef, undef, undef, undef, undef, undef, undef, undef, undef, undef, undef, undef, undef, undef, undef, undef, undef, undef, undef, undef, undef, undef, undef, undef, undef, undef, undef, undef, undef, undef, undef, undef, undef, undef, undef, undef, undef, undef], defers := [] }) (fun _ _ _ _ _ h _ _ => h) ?assign ?body ?iter ?done
  case tI =>
    rintro pre k W o o' ⟨hk, vh, vb, h⟩ ho hc
    simp only [World.size_alloc, hBB] at ho ⊢
    exact ⟨hk, vh, vb, h.turn o' (by omega) ho hc⟩
  case tI' =>
    rintro pre W o o' ⟨k, hk, vh, vb, h⟩ ho hc
    simp only [World.size_alloc, hBB] at ho ⊢
    exact ⟨k, hk, vh, vb, h.turn o' (by omega) ho hc⟩
  case tId =>
    rintro W o o' ⟨k, hk, vh, vb, h⟩ ho hc
    simp only [World.size_alloc, hBB] at ho ⊢
    exact ⟨k, hk, vh, vb, h.turn o' (by omega) ho hc⟩
  case assign =>
    intro l pre k W K hI hK
    gi_wp2
    exact hK _ _ (KeepsFrom.refl _ _) trivial hI rfl
  case body =>
    rintro lp pre k a' W hlw ⟨hk, vh, vb, hst⟩ rfl
    obtain ⟨ad, rfl⟩ : ∃ ad, A = some ad := by
      obtain ⟨ad, _, h, _⟩ := Hv.out.post_at (show 0 < l.length by omega)
      exact ⟨ad, h⟩
    obtain ⟨m, hm, hm0⟩ : ∃ m, m = min 32 (l.length - 32 * k) ∧ 0 < m := ⟨_, rfl, by omega⟩
    have hP : SL w (Bw w) (.slice (some (ad.add (32 * k * 2))) m m) ((l.drop (32 * k)).take m) := Hv.out.mid_ (i := 32 * k) (n := m) (by omega) hm0 (by unfold maxLen; omega)
    have hPe : (l.drop (32 * k)).take m = (l.drop (32 * k)).take 32 := by
      rw [hm]
      by_cases h : l.length - 32 * k < 32
      · rw [Nat.min_eq_right (by omega), List.take_of_length_le (by rw [List.length_drop]; omega), List.take_of_length_le (by rw [List.length_drop]; omega)]
      · rw [Nat.min_eq_left (by omega)]
    have hPl : ((l.drop (32 * k)).take m).length = m := by rw [List.length_take, List.length_drop]; omega
    have hpc : piece (some ad) l.length 2 k = .slice (some (ad.add (32 * k * 2))) m m := by unfold piece; rw [← hm]; rfl
    rw [hpc]
    have hbs := blks_snoc k (-1) l hk
    have hdk := plast_bounds hdoc (32 * k)
    have hPd : ∀ j (hj : j < ((l.drop (32 * k)).take m).length), -1 ≤ plast (plast (-1) (l.take (32 * k))) (((l.drop (32 * k)).take m).take j) ∧ plast (plast (-1) (l.take (32 * k))) (((l.drop (32 * k)).take m).take j) < ((l.drop (32 * k)).take m)[j].1 ∧ ((l.drop (32 * k)).take m)[j].1 < 65536 := fun j hj => by
      have h1 := plast_bounds hdoc (32 * k + j)
      have e : ((l.drop (32 * k)).take m).take j = (l.drop (32 * k)).take j := by rw [List.take_take]; congr 1; omega
      have e2 : ((l.drop (32 * k)).take m)[j] = l[32 * k + j] := by simp
      rw [e, e2, ← plast_append, ← List.take_add]
      obtain ⟨g1, _, _, g4⟩ := h1
      exact ⟨g1, (g4 (by omega)).1, (g4 (by omega)).2⟩
    have hPp : ∀ p ∈ (l.drop (32 * k)).take m, 0 < p.2.length ∧ ris (-1) 1048576 p.2 = true := fun p hp => Hpos.out p (List.mem_of_mem_drop (List.mem_of_mem_take hp))
    have hPr : ris (plast (-1) (l.take (32 * k))) 65536 (((l.drop (32 * k)).take m).map (·.1)) = true := by
      have h1 := ris_drop (l.map (·.1)) (-1) 65536 (32 * k) hdoc
      rw [← List.map_take, ← List.map_drop, ← plast_eq] at h1
      rw [← List.take_append_drop m (l.drop (32 * k)), List.map_append] at h1
      exact ris_left h1
    have hPw : wt ((l.drop (32 * k)).take m) ≤ 700000 := by
      have h1 := wt_le l (32 * k)
      have h2 := wt_le (l.drop (32 * k)) m
      omega
    have hhd : (enc l.length ++ (blks k (-1) l).1).length ≤ 720000 ∧ (blks k (-1) l).2.length ≤ 700000 := by
      obtain ⟨i1, i2⟩ := blks_len k (-1) l hdoc (fun p hp => (Hpos.out p hp).2) (by omega) (by omega)
      have e1 := enc_len10 (n := l.length) (U64.mk (by omega))
      rw [List.length_append]
      omega
    rw [← hPe] at hbs
    have hlast : plast (-1) (l.take (32 * k + 32)) = plast (plast (-1) (l.take (32 * k))) ((l.drop (32 * k)).take m) := by
      rw [hPe, ← plast_append, ← List.take_add]
    have hlast0 := (plast_bounds hdoc (32 * k + 32)).2.2.1 (by omega) (by omega)
    have hlast1 := (plast_bounds hdoc (32 * k + 32)).2.1
    rw [hlast] at hbs hlast0 hlast1
    have hm32 : m ≤ 32 := by omega
    have hb1 : enc l.length ++ (blks (k + 1) (-1) l).1 = (enc l.length ++ (blks k (-1) l).1) ++ (enc (plast (plast (-1) (l.take (32 * k))) ((l.drop (32 * k)).take m)).toNat ++ enc (psby (plast (-1) (l.take (32 * k))) ((l.drop (32 * k)).take m)).length) := by rw [hbs.1, List.append_assoc]
    have hb2 := hbs.2
    clear hbs
    have hmul : 32 * (k + 1) = 32 * k + 32 := by omega
    generalize hPP : (l.drop (32 * k)).take m = P at hP hPl hb1 hb2 hPd hPp hPr hPw hlast hlast0 hlast1
    generalize hL0 : plast (-1) (l.take (32 * k)) = L0 at hst hb1 hb2 hdk hPd hPr hlast hlast0 hlast1
    generalize enc l.length ++ (blks k (-1) l).1 = HD at hst hhd hb1
    generalize (blks k (-1) l).2 = BD at hst hhd hb2
    have hlL : -1 ≤ L0 := hdk.1
    clear hdk hPP hL0 hpc hPe hm
    generalize ad.add (32 * k * 2) = a1 at hP ⊢
    have HP := Lib.hid hP
    have Hst := Lib.hid hst
    have HPd := Lib.hid hPd
    have HPp := Lib.hid hPp
    have HPr := Lib.hid hPr
    have Hb1 := Lib.hid hb1
    have Hb2 := Lib.hid hb2
    have Hlast := Lib.hid hlast
    have Hhd := Lib.hid hhd
    clear hP hst hPd hPp hPr hb1 hb2 hlast hhd hdoc
    gi_wp2_with fail
    gi_loopw [9, 26] (fun b i wr => ∃ j : Nat, i = .int .i64 j ∧ j ≤ m ∧ EncSt w B (.slice (some ad) l.length c) wr vh vb HD BD (plast L0 (P.take j)) ∧ Own wr (B + 5) b (psby L0 (P.take j)) ∧ KeepsOthers W wr) (fun _ i _ => m - (intOf i).toNat)
    case atStart => exact ⟨0, rfl, Nat.zero_le _, by simpa [plast] using Hst.out, Own.nil_ _ _, KeepsOthers.refl _⟩
    case round =>
      obtain ⟨j, rfl, hj, hst, hown, hko⟩ := hrel
      have Hs := Lib.hid hst
      have Ho := Lib.hid hown
      have Hko := Lib.hid hko
      clear hst hown hko
      by_cases hlt : j < m
      · obtain ⟨ad1, u, had1, _, hc0, hc1, hu, h6⟩ := (HP.out.below Hs.out.bel).post_at (show j < P.length by omega)
        obtain rfl : a1 = ad1 := by injection had1
        have hd1 := HPd.out j (by omega)
        have hp1 := HPp.out P[j] (List.getElem_mem (by omega))
        have hsn := psby_snoc (P.take j) L0 P[j]
        have hpn := plast_snoc (P.take j) L0 P[j]
        rw [← take_next P (by omega)] at hsn hpn
        have hwt := wt_le P (j + 1)
        rw [take_next P (show j < P.length by omega), wt_append] at hwt
        have hw1 : wt [P[j]] = 20 + 10 * P[j].2.length := by simp [wt]
        have hwp : (psby L0 (P.take j)).length ≤ wt (P.take j) := by
          refine psby_len _ _ ?_ (fun p hp => (HPp.out p (List.mem_of_mem_take hp)).2) hlL (by omega)
          have := HPr.out
          rw [← List.take_append_drop j P, List.map_append] at this
          exact ris_left this
        have hwb : (psby L0 (P.take j)).length + 20 + 10 * P[j].2.length ≤ 800000 := by omega
        clear hwt hw1 hwp
        have hjm : (j : Int) < m := by omega
        generalize hN : P[j] = N at hc0 hc1 hu h6 hd1 hp1 hsn hpn hwb
        obtain ⟨N, ps⟩ := N
        obtain ⟨Au, cu, rfl, _, _⟩ := hu.form
        dsimp only at hc0 hc1 hu h6 hd1 hp1 hsn hpn hwb
        generalize plast L0 (P.take j) = LA at hd1 hsn Hs
        generalize psby L0 (P.take j) = PB at hsn hwb Ho
        have Hsn := Lib.hid hsn
        have Hpn := Lib.hid hpn
        have Hu := Lib.hid hu
        have hbl : (wr.alloc (.cells #[.int .i64 N, .slice Au ps.length cu] 43)).cell? ⟨B + 2, 0, none⟩ = some (.int .i64 LA) := (Hs.out.bl.alloc _).cell
        have Hp1 := Lib.hid hp1
        clear hsn hpn hu had1 hN hp1
        have hq0 := cell_new wr #[.int .i64 N, .slice Au ps.length cu] 43 0 (v := .int .i64 N) rfl
        have hq1 := cell_new wr #[.int .i64 N, .slice Au ps.length cu] 43 1 (v := .slice Au ps.length cu) rfl
        have hl1 := SL.new1 (wr.alloc (.cells #[.int .i64 N, .slice Au ps.length cu] 43)) #[.int .i64 N] 3 (a := N) (S := fun _ => False) ⟨rfl, h6⟩ (fun _ h => h.elim)
        rw [World.size_alloc] at hl1
        have Hl1 := Lib.hid hl1
        have x2 : Ext wr ((wr.alloc (.cells #[.int .i64 N, .slice Au ps.length cu] 43)).alloc (.cells #[.int .i64 N] 3)) := (Ext.of_alloc wr _).trans (Ext.of_alloc _ _)
        have X2 := Lib.hid x2
        have Hq0 := Lib.hid ((Ext.of_alloc _ (.cells #[.int .i64 N] 3)).keeps hq0)
        have Hq1 := Lib.hid ((Ext.of_alloc _ (.cells #[.int .i64 N] 3)).keeps hq1)
        have hwrB := Hs.out.size
        clear hl1 x2 hq0 hq1
        gi_wp2_with fail
        have hNL : ris LA 65536 [N] = true := ris_cons.2 ⟨hd1.2.1, hd1.2.2, rfl⟩
        refine ⟨trivial, CallsIn.inRound lp (callsIn_wide.2 ((steps_any _ (B + 5) (by simp; omega) u9 _ PB [N] LA 65536 (Own.ext Ho.out X2.out) Hl1.out hNL hd1.1 (by decide) (by simp; omega)).mono ?_))⟩
        rintro e w3 ⟨v3, rfl, hv3, hx3⟩
        have X3 := Lib.hid (X2.out.trans hx3)
        have Hv3 := Lib.hid hv3
        have hq1 := Ext.keeps hx3 Hq1.out
        have hq0 := Ext.keeps hx3 Hq0.out
        have hs3 := hx3.size
        clear hv3 hx3
        gi_wp2_with fail
        have h3l : (PB ++ stp LA [N]).length ≤ PB.length + 10 := by
          have := enc_len10 (toNat_64 (x := N - LA - 1) (by omega))
          simp only [stp, List.length_append, List.length_nil]
          omega
        refine ⟨trivial, CallsIn.inRound lp (callsIn_wide.2 ((put_any w3 w3.heap.size v3 _ ps.length (Own.bs Hv3.out) (Nat.le_refl _) (by omega) (U64.mk (by omega))).mono ?_))⟩
        rintro e w4 ⟨v4, rfl, hv4, hx4⟩
        have X4 := Lib.hid (X3.out.trans hx4)
        have hs4 := hx4.size
        have Hv4 := Lib.hid (Own.base hv4 (show B + 5 ≤ w3.heap.size by simp at hs3; omega))
        have hq14 := Ext.keeps hx4 hq1
        have hq04 := Ext.keeps hx4 hq0
        have hu4 : SL w4 (Bw w4) (.slice Au ps.length cu) ps := (Hu.out.keep (Sm.of_ext X4.out fun k hk => Nat.lt_of_lt_of_le hk Hs.out.bel.size)).more fun k hk => Nat.lt_of_lt_of_le hk (Nat.le_trans Hs.out.bel.size X4.out.size)
        have Hu4 := Lib.hid hu4
        clear hv4 hx4 hq1 hq0 hu4
        gi_wp2_with fail
        have h4l : (PB ++ stp LA [N] ++ enc ps.length).length ≤ PB.length + 20 := by
          have := enc_len10 (n := ps.length) (U64.mk (by omega))
          rw [List.length_append]
          omega
        refine ⟨trivial, CallsIn.inRound lp (callsIn_wide.2 ((steps_any w4 (B + 5) (by simp at hs3; omega) v4 _ _ ps (-1) 1048576 Hv4.out Hu4.out Hp1.out.2 (by decide) (by decide) (by omega)).mono ?_))⟩
        rintro e w5 ⟨v5, rfl, hv5, hx5⟩
        have X5 := Lib.hid (X4.out.trans hx5)
        have Hv5 := Lib.hid hv5
        have hs5 := hx5.size
        have hq0 := Ext.keeps hx5 hq04
        have hs5' := Hs.out.ext X5.out
        have hbl5 := hs5'.bl.cell
        have hfl5 := hs5'.bl.frozen
        have Hs5 := Lib.hid (hs5'.setLast N)
        clear hv5 hx5 hq14 hq04 hs5'
        gi_wp2_with fail
        go_roundw
        case rel =>
          refine ⟨j + 1, rfl, by omega, ?_, ?_, ?_⟩
          · rw [Hpn.out]
            exact Hs5.out
          · rw [Hsn.out]
            have e : PB ++ stp LA [N] ++ enc ps.length ++ stp (-1) ps = PB ++ pby LA (N, ps) := by simp [pby, stp, List.append_assoc]
            rw [← e]
            exact own_set Hv5.out (by omega)
          · exact (Hko.out.trans X5.out.others).trans (KeepsOthers.setCell _ _ _)
        case measure => simp only [intOf]; omega
      · obtain rfl : j = m := by omega
        have hjm : ¬((j : Int) < j) := by omega
        rw [List.take_of_length_le (by omega)] at Hs Ho
        have hPw1 : (psby L0 P).length ≤ 700000 := Nat.le_trans (psby_len P L0 HPr.out (fun p hp => (HPp.out p hp).2) hlL (by omega)) hPw
        have HL := Lib.hid Hlast.out
        generalize plast L0 P = LB at hlast0 hlast1 Hs HL Hb1
        generalize hPB : psby L0 P = PB at Ho hPw1 Hb1 Hb2
        have hbl := Hs.out.bl.cell
        have hbh := Hs.out.bh.cell
        have hfh := Hs.out.bh.frozen
        obtain ⟨LN, rfl⟩ : ∃ n : Nat, LB = (n : Int) := ⟨LB.toNat, by omega⟩
        rw [Int.toNat_natCast] at Hb1
        have hLN : LN < 65536 := by omega
        obtain ⟨Ap, cp, rfl⟩ := (Own.bs Ho.out).form
        obtain ⟨Ab, cb, rfl⟩ := (Own.bs Hs.out.ob).form
        clear hPB
        gi_wp2_with fail
        refine ⟨trivial, CallsIn.inRound lp (callsIn_wide.2 ((put_any wr wr.heap.size vh HD LN (Own.bs Hs.out.oh) (Nat.le_refl _) (by have := Hhd.out.1; omega) (U64.mk (by omega))).mono ?_))⟩
        rintro e w6 ⟨v6, rfl, hv6, hx6⟩
        have Hv6 := Lib.hid hv6
        have X6 := Lib.hid hx6
        have hs6 := hx6.size
        clear hv6 hx6
        gi_wp2_with fail
        have h6l : (HD ++ enc LN).length ≤ 740000 := by
          have := enc_len10 (n := LN) (U64.mk (by omega))
          have := Hhd.out.1
          rw [List.length_append]
          omega
        refine ⟨trivial, CallsIn.inRound lp (callsIn_wide.2 ((put_any w6 w6.heap.size v6 _ PB.length (Own.bs Hv6.out) (Nat.le_refl _) (by omega) (U64.mk (by omega))).mono ?_))⟩
        rintro e w7 ⟨v7, rfl, hv7, hx7⟩
        have X7 := Lib.hid (Ext.trans X6.out hx7)
        have hs7 := hx7.size
        rw [List.append_assoc, ← Hb1.out] at hv7
        generalize hHD1 : enc l.length ++ (blks (k + 1) (-1) l).1 = HD1 at hv7
        have HHD1 := Lib.hid hHD1
        clear hHD1
        obtain ⟨A7, c7, h7f⟩ := (Own.bs hv7).form
        have hst7 := Hs.out.ext X7.out
        have hbh := hst7.bh.cell
        have hfh := hst7.bh.frozen
        have hst8 := hst7.setHead hv7 (Nat.le_trans Hs.out.bel.size X6.out.size) (fun k hk => Nat.lt_of_lt_of_le (World.ownsRow.lt Hs.out.ob k hk).2 X6.out.size)
        subst h7f
        have hbb8 := hst8.bb.cell
        have hfb8 := hst8.bb.frozen
        have Hst8 := Lib.hid hst8
        have Hpb8 : Hid (Own (w7.setCell ⟨B, 0, none⟩ (.slice A7 HD1.length c7)) (B + 5) (.slice Ap PB.length cp) PB) := Lib.hid (own_set (Own.ext Ho.out X7.out) (by omega))
        clear hv7 hx7 hst7 hst8
        have hbase8 : w.heap.size ≤ (w7.setCell ⟨B, 0, none⟩ (.slice A7 HD1.length c7)).heap.size := Hst8.out.bel.size
        have hlen8 : BD.length + PB.length ≤ 100000000 := by have := Hhd.out.2; omega
        gi_wp2_with (gi_at_builtin; refine wpListIn_append_bytes _ rfl (.tmp 57) (.tmp 58) rfl w.heap.size (.slice Ab BD.length cb) BD rfl Hst8.out.ob _ (.slice Ap PB.length cp) PB rfl (Own.bs Hpb8.out) hlen8 hbase8 ?_; intro v9 w9 hown9 hg9 hat9; obtain ⟨A9, c9, h9f⟩ := (Own.bs hown9).form; obtain ⟨hbx9, hst9, hko9⟩ := Hst8.out.setBody hown9 hg9 hat9; subst h9f; have hb9 := hbx9.cell; have hf9 := hbx9.frozen; rw [List.length_append] at hst9 hko9)
        rw [← Hb2.out] at hst9
        refine ⟨((Hko.out.trans X7.out.others).trans (KeepsOthers.setCell _ _ _)).trans hko9 |>.from _, trivial, k, by simp, _, _, by rw [hmul, HL.out, HHD1.out]; exact hst9⟩
  case iter =>
    intro lp Rd W hlw hK hg hsz hR hY
    simp only [World.size_alloc, hBB] at hsz hK
    have hb : ∀ k t x, Boxed (((((w2.alloc (.cells #[.slice A2 (enc l.length).length c2] 23)).alloc (.cells #[.slice none 0 0] 23)).alloc (.cells #[.int .i64 (-1)] 3)).alloc (.cells #[.slice A l.length c] 22)).alloc (.cells #[.int .i64 32] 3)) k t x → Boxed W k t x :=
      fun k t x h => (hg.block k h.lt (fun e => by cases e)).trans h
    have x5 : Ext w2 (((((w2.alloc (.cells #[.slice A2 (enc l.length).length c2] 23)).alloc (.cells #[.slice none 0 0] 23)).alloc (.cells #[.int .i64 (-1)] 3)).alloc (.cells #[.slice A l.length c] 22)).alloc (.cells #[.int .i64 32] 3)) :=
      Ext.al (Ext.al (Ext.al (Ext.al (Ext.al (Below.refl _ _) _) _) _) _) _
    have x6 : Ext w2 W := Below.grown (row := none) x5 hg x5.size (fun k e => by cases e)
    have h0 : EncSt w B (.slice A l.length c) W (.slice A2 (enc l.length).length c2) (.slice none 0 0) (enc l.length ++ (blks 0 (-1) l).1) (blks 0 (-1) l).2 (plast (-1) (l.take (32 * 0))) := by
      have e1 : enc l.length ++ (blks 0 (-1) l).1 = enc l.length := by simp [blks]
      rw [e1]
      refine ⟨hb _ _ _ ?_, hb _ _ _ ?_, hb _ _ _ ?_, hb _ _ _ ?_, hb _ _ _ ?_, Own.ext Hv2.out x6, Own.nil_ _ _, fun k _ h => by simp [Value.ownBlock] at h, Ext.trans Hx2.out x6, by omega, hB⟩
      · have := (((((Boxed.new w2 23 (.slice A2 (enc l.length).length c2)).alloc (.cells #[.slice none 0 0] 23)).alloc (.cells #[.int .i64 (-1)] 3)).alloc (.cells #[.slice A l.length c] 22)).alloc (.cells #[.int .i64 32] 3))
        rw [hBB] at this
        exact this
      · have := ((((Boxed.new (w2.alloc (.cells #[.slice A2 (enc l.length).length c2] 23)) 23 (.slice none 0 0)).alloc (.cells #[.int .i64 (-1)] 3)).alloc (.cells #[.slice A l.length c] 22)).alloc (.cells #[.int .i64 32] 3))
        simp only [World.size_alloc, hBB] at this
        exact this
      · have := (((Boxed.new ((w2.alloc (.cells #[.slice A2 (enc l.length).length c2] 23)).alloc (.cells #[.slice none 0 0] 23)) 3 (.int .i64 (-1))).alloc (.cells #[.slice A l.length c] 22)).alloc (.cells #[.int .i64 32] 3))
        simp only [World.size_alloc, hBB] at this
        exact this
      · have := ((Boxed.new (((w2.alloc (.cells #[.slice A2 (enc l.length).length c2] 23)).alloc (.cells #[.slice none 0 0] 23)).alloc (.cells #[.int .i64 (-1)] 3)) 22 (.slice A l.length c)).alloc (.cells #[.int .i64 32] 3))
        simp only [World.size_alloc, hBB] at this
        exact this
      · have := Boxed.new ((((w2.alloc (.cells #[.slice A2 (enc l.length).length c2] 23)).alloc (.cells #[.slice none 0 0] 23)).alloc (.cells #[.int .i64 (-1)] 3)).alloc (.cells #[.slice A l.length c] 22)) 3 (.int .i64 32)
        simp only [World.size_alloc, hBB] at this
        exact this
    refine (chunk1_in (fun k W => (∃ vh vb, EncSt w B (.slice A l.length c) W vh vb (enc l.length ++ (blks k (-1) l).1) (blks k (-1) l).2 (plast (-1) (l.take (32 * k)))) ∧ Rd W) lp (B + 3) A l.length c ?_ hc (by omega) hm ?_ ?_ ?_ W ⟨⟨_, _, h0⟩, hR⟩).mono ?_
    · intro h
      obtain ⟨ad, _, h, _⟩ := Hv.out.post_at h
      exact ⟨ad, h⟩
    · rintro k W ⟨⟨vh, vb, h⟩, _⟩
      exact ⟨h.bs, h.bn⟩
    · rintro k W ⟨⟨vh, vb, h⟩, hr⟩
      exact ⟨⟨vh, vb, h.ext (Ext.drew W)⟩, hK.others _ _ hr ((Ext.drew W).others.from _)⟩
    · rintro k W1 hk ⟨⟨vh, vb, h⟩, hr⟩
      refine (hY [] k W1 ⟨hk, vh, vb, h⟩ hr).mono ?_
      rintro e W' ⟨he, ⟨k', hk', vh', vb', h'⟩, hr', _⟩
      obtain rfl : k = k' := by simpa using hk'
      exact ⟨he, ⟨vh', vb', h'⟩, hr'⟩
    · rintro e W' ⟨he, k, ⟨⟨vh, vb, h⟩, hr⟩, hk⟩
      exact ⟨he, ⟨k, hk, vh, vb, h⟩, hr⟩
  case done =>
    rintro D W hD ⟨k, hk, vh, vb, hst⟩ hKD
    rw [blks_fuel k l.length (-1) l hk (by omega)] at hst
    have hl1 := blks_len l.length (-1) l hdoc (fun p hp => (Hpos.out p hp).2) (by omega) (by omega)
    have e1 := enc_len10 (n := l.length) (U64.mk (by omega))
    have hfin : enc l.length ++ (blks l.length (-1) l).1 ++ (blks l.length (-1) l).2 = penc l := rfl
    have hlen1 : (enc l.length ++ (blks l.length (-1) l).1).length + (blks l.length (-1) l).2.length ≤ 100000000 := by
      rw [List.length_append]
      omega
    generalize enc l.length ++ (blks l.length (-1) l).1 = HD at hst hlen1 hfin
    generalize (blks l.length (-1) l).2 = BD at hst hlen1 hfin
    have Hfin := Lib.hid hfin
    have hbh := hst.bh.cell
    have hbb := hst.bb.cell
    have Hst := Lib.hid hst
    have hDw : w.heap.size ≤ D := by
      rw [hD]
      simp only [World.size_alloc, hBB]
      omega
    obtain ⟨Ah, ch, rfl⟩ := (Own.bs hst.oh).form
    obtain ⟨Ab, cb, rfl⟩ := (Own.bs hst.ob).form
    clear hst hD hl1 hfin
    gi_wp2_with (gi_at_builtin; refine wpListIn_append_bytes _ rfl (.tmp 60) (.tmp 61) rfl w.heap.size (.slice Ah HD.length ch) HD rfl Hst.out.oh _ (.slice Ab BD.length cb) BD rfl (Own.bs Hst.out.ob) hlen1 Hst.out.bel.size ?_; intro v9 w9 hown9 hg9 hat9)
    have hko : KeepsOthers W w9 := KeepsOthers.of_grownBy hg9 fun j o ej hj => by
      rcases (show World.ownsRow _ _ _ _ _ _ _ from Hst.out.oh).2 with ⟨h, _⟩ | ⟨g, cap, cur, h, _, hgb, _⟩
      · rw [h] at ej
        simp [Value.ownBlock] at ej
      · rw [h] at ej
        obtain rfl : g = j := by simpa [Value.ownBlock] using ej
        rw [hgb] at hj
        cases hj
        rfl
    have hK9 := hko.same D _ hKD rfl
    have hx9 : Below w.heap.size w w9 := Hst.out.bel.grown hg9 Hst.out.bel.size (fun k e => own_ge Hst.out.oh k e)
    refine ⟨by simp, .inl ⟨_, _, rfl, run_takeDeferred hK9, ?_⟩⟩
    refine ⟨_, results_tmp2 rfl _ _ _, v9, rfl, by rw [← Hfin.out]; exact ownsRow_putObj hown9 _ hK9 rfl, ?_⟩
    exact hx9.grown (grownBy_putObj' w9 D (.deferred none)) hx9.size (fun k e => by injection e with e; omega)

end Go.Proofs.Ytccmhjlniljhcaa
