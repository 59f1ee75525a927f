/-
  The law DictAsks returns true.
  Conditions: none.
-/
import Derived.Test.YtmgbhmmmegknjaaDy
import Derived.BigQuiet
import Derived.Deep.DeepCutAuto
namespace Go.Proofs.Ytmgbhmmmegknjaa
open Go.RowKit Go.Op

theorem SL.tx_at {w : World} {S : Nat → Prop} {A : Option Addr} {c n : Nat} {l : List Tx} (h : SL w S (.slice A n c) l) {i : Nat} (hi : i < l.length) : ∃ ad, A = some ad ∧ S ad.block ∧ w.cell? (ad.add i) = some (.string ⟨(l[i]).b.toArray⟩) ∧ (l[i]).b.length ≤ maxLen := by
  obtain ⟨ad, cs, rfl, hS, ⟨rfl, h1⟩, hc⟩ := h.at_ hi
  have q0 := hc 0 _ rfl
  simp only [Rep.n, Nat.mul_one, Nat.add_zero] at q0
  exact ⟨ad, rfl, hS, q0, h1⟩
theorem SL.past {α : Type} [Rep α] {w0 w3 W : World} {g : Nat} {v : Value} {l : List α} (h : SL w0 (Bw w0) v l) (hx : Ext w0 w3) (hk : Kept (fun j => j = g) w3 W) (hg : w0.heap.size ≤ g) : SL W (Bw W) v l := by
  have hk2 : Kept (fun j => j = g) w0 W := (hx.kept _).trans hk
  exact (h.keep (Sm.of_kept hk2 fun k hk' => ⟨hk', fun e => by have : k < w0.heap.size := hk'; omega⟩)).more fun k hk' => Nat.lt_of_lt_of_le hk' hk2.size
/-- a row of bytes that may be written -/
def RowW (W : World) (g n : Nat) : Prop := ∃ cur : Array Value, W.heap[g]? = some (.cells cur 5 (0, 0)) ∧ n ≤ cur.size
theorem RowW.at_ {W : World} {g n k : Nat} (h : RowW W g n) (hk : k < n) : (∃ x, W.cell? ⟨g, k, none⟩ = some x) ∧ W.frozen? ⟨g, k, none⟩ = false := by
  obtain ⟨cur, h1, h2⟩ := h
  refine ⟨⟨cur[k]'(by omega), ?_⟩, frozen_of_row W g k cur _ h1⟩
  rw [cell_of_row W g k cur _ _ h1]
  simp [show k < cur.size by omega]
theorem RowW.set {W : World} {g n k : Nat} (v : Value) (h : RowW W g n) : RowW (W.setCell ⟨g, k, none⟩ v) g n := by
  obtain ⟨cur, h1, h2⟩ := h
  obtain ⟨hlt, hk⟩ := Array.getElem?_eq_some_iff.1 h1
  refine ⟨cur.setIfInBounds k v, ?_, by simpa using h2⟩
  show (W.heap.modify g _)[g]? = _
  rw [Array.getElem?_eq_getElem (by rw [Array.size_modify]; exact hlt), Array.getElem_modify_self, hk]
  rfl
theorem own_row {W : World} {base : Nat} {v : Value} {bs : List UInt8} (h : Own W base v bs) (hb : 0 < bs.length) : ∃ g c, v = .slice (some ⟨g, 0, none⟩) bs.length c ∧ base ≤ g ∧ g < W.heap.size ∧ RowW W g bs.length := by
  rcases h.2 with ⟨_, h0⟩ | ⟨g, cap, cur, hv, hg, hh, hn, _, hs, _⟩
  · omega
  · exact ⟨g, cap, hv, hg, (Array.getElem?_eq_some_iff.1 hh).1, cur, hh, by omega⟩

set_option maxHeartbeats 8000000 in
set_option maxRecDepth 100000 in
theorem dasks_any (w : World) (u v : Value) (l : List Ent) (asks : List Tx) (i : Int) (hu : SL w (Bw w) u l) (hv : SL w (Bw w) v asks) (hi : I6 i) :
    Calls Try.prog 5 #[u, v, .int .i64 i] w fun e w' => e = .returned (.bool true) ∧ Ext w w' := by
  obtain ⟨Ak, ck, rfl, hck, hmk⟩ := hv.form
  have hmk' : (asks.length : Int) ≤ 9223372036854775807 := by unfold maxLen at hmk; omega
  have Hu := Lib.hid hu
  have Hv := Lib.hid hv
  have hi2 := hi.le
  clear hu hv hmk
  go_enter Try.func5, Try.ntmps5
  go_wp2_with fail
  refine (few_any w u l Hu.out).mono ?_
  rintro e w1 ⟨u1, rfl, hu1, hx⟩
  obtain ⟨Au, cu, rfl, hcu, hmu⟩ := hu1.form
  have Hu1 := Lib.hid hu1
  have Hx1 := Lib.hid hx
  have hl80 : (l.take 80).length ≤ 80 := by rw [List.length_take]; omega
  generalize l.take 80 = L at Hu1 hl80 hcu
  clear hu1 hx hmu
  go_wp2_with fail
  refine (rencode_any w1 _ L Hu1.out (by omega)).mono ?_
  rintro e w2 ⟨y, rfl, ho, hx⟩
  cases hok : esOk L with
  | false =>
    have hr : errE L = 110 := by unfold errE; rw [hok]; rfl
    rw [hr]
    have Hx2 := Lib.hid (Ext.trans Hx1.out hx)
    clear hr hok ho hx
    go_wp2_with fail
    refine (awake_any w2).mono ?_
    rintro e w3 ⟨rfl, hx⟩
    have Hx3 := Lib.hid (Ext.trans Hx2.out hx)
    clear hx
    go_wp2
    go_ret
    exact ⟨rfl, Hx3.out⟩
  | true =>
    have hr : errE L = 0 := by unfold errE; rw [if_pos hok]
    have hen : encE L = denc L := by unfold encE; rw [if_pos hok]
    rw [hen] at ho
    rw [hr]
    have hpos : 0 < (denc L).length := by
      unfold denc
      rw [List.length_append]
      have := enc_pos L.length
      omega
    have hll : (denc L).length ≤ 20000 := by
      have h := esOk_spec hok
      have e1 := enc_len10 (n := L.length) (U64.mk (by omega))
      have := dblk_len L.length L (upw_mem h.1) (by omega)
      unfold denc
      rw [List.length_append]
      omega
    have hterm : ∀ e ∈ L, e.1.b.length ≤ 1000000 := fun e he => by
      have := (eOk_spec (upw_mem (esOk_spec hok).1 e he)).1
      omega
    obtain ⟨g, cy, rfl, hg1, hg2, hrow⟩ := own_row ho hpos
    have Hb2 := Lib.hid (Own.bs ho)
    have Hx2 := Lib.hid hx
    have Hrow := Lib.hid hrow
    have Hok := Lib.hid hok
    have Hterm := Lib.hid hterm
    clear hr hen ho hx hrow hok hpos hterm
    go_wp2_with fail
    refine (open_any w2 _ (denc L) Hb2.out hll).mono ?_
    rintro e w3 ⟨d, E, rfl, hop, hx⟩
    obtain ⟨rfl, _, ⟨D, rfl⟩, hdn⟩ := hop.of Hok.out rfl
    have Hdn := Lib.hid hdn
    have hs3 := hx.size
    have Hx3 := Lib.hid hx
    have hrow3 : RowW w3 g (denc L).length := by
      obtain ⟨cur, h1, h2⟩ := Hrow.out
      exact ⟨cur, (hx.block g hg2).trans h1, h2⟩
    have Hrow3 := Lib.hid hrow3
    generalize (denc L).length = NB at Hrow3 hll
    have hnb : (NB : Int) ≤ 20000 := by omega
    clear hop hdn hx hrow3 Hrow Hb2
    go_wp2_with fail
    go_loopw [11] (fun i wr => ∃ k : Nat, i = .int .i64 k ∧ k ≤ NB ∧ RowW wr g NB ∧ Kept (fun j => j = g) w3 wr) (fun i _ => NB - (intOf i).toNat)
    case atStart => exact ⟨0, rfl, Nat.zero_le _, Hrow3.out, Kept.refl _ _⟩
    case round =>
      obtain ⟨k, rfl, hk, hrw, hkp⟩ := hrel
      have Hrw := Lib.hid hrw
      have Hkp := Lib.hid hkp
      by_cases hlt : k < NB
      · have hklt : (k : Int) < NB := by omega
        obtain ⟨⟨x0, hc⟩, hf⟩ := hrw.at_ hlt
        clear hrw hkp
        go_wp2
        exact ⟨⟨k + 1, rfl, by omega, Hrw.out.set _, Hkp.out.trans (Kept.setCell _ _ _ _ rfl)⟩, by simp only [intOf]; omega⟩
      · have hklt : ¬(k : Int) < NB := by omega
        have hd : DAny wr (.pointer (some ⟨D, 0, none⟩)) L true := .inl ⟨rfl, Hok.out, by omega, (Hdn.out.kept hkp (fun j hj => by omega)).at_⟩
        have hxw : Ext w wr := (((Ext.trans (Ext.trans Hx1.out Hx2.out) Hx3.out).kept (fun j => j = g)).trans hkp).ext fun j hj e => by have := Hx1.out.size; omega
        have Hd := Lib.hid hd
        have Hxw := Lib.hid hxw
        have HL := Lib.hid (SL.past Hu1.out (Ext.trans Hx2.out Hx3.out) hkp hg1)
        have HV := Lib.hid (SL.past Hv.out (Ext.trans (Ext.trans Hx1.out Hx2.out) Hx3.out) hkp (by have := Hx1.out.size; omega))
        rename World => w4
        clear hrw hkp hd hxw Hrw Hkp
        have hLl : (L.length : Int) ≤ 80 := by omega
        go_wp2_with fail
        go_loopw [12] (fun i wr => ∃ k : Nat, i = .int .i64 k ∧ k ≤ asks.length ∧ Ext w4 wr) (fun i _ => asks.length - (intOf i).toNat)
        case atStart => exact ⟨0, rfl, Nat.zero_le _, Below.refl _ _⟩
        case round =>
          rename World => wr
          obtain ⟨q, rfl, hq, hx⟩ := hrel
          have Hx := Lib.hid hx
          clear hx
          by_cases hstop : q < asks.length ∧ q < 30
          · obtain ⟨hql, hq30⟩ := hstop
            have hqi : (q : Int) < asks.length := by omega
            have hqi3 : (q : Int) < 30 := by omega
            obtain ⟨ak, rfl, _, hcq, hlq⟩ := (HV.out.up Hx.out).tx_at hql
            generalize asks[q].b = T at hcq hlq
            obtain ⟨M, hM, hMT⟩ : ∃ M : Nat, min (T.length : Int) 100 = (M : Int) ∧ M ≤ T.length := ⟨min T.length 100, by omega, by omega⟩
            have hM1 : M ≤ 100 := by omega
            have hTm : (T.length : Int) ≤ 9223372036854775807 := by unfold maxLen at hlq; omega
            have hex : (ByteArray.mk T.toArray).extract 0 M = ⟨(T.take M).toArray⟩ := by rw [ByteArray.extract_mk, List.drop_zero, Nat.sub_zero]
            have hMi : (M : Int) ≤ T.length := by omega
            have hSl : (T.take M).length ≤ 1000000 := by rw [List.length_take]; omega
            have Hex := Lib.hid hex
            clear hlq hex
            go_wp2_with fail
            go_quiet (fail)
            rw [Hex.out]
            generalize T.take M = s at hSl
            clear Hex hcq
            go_wp2_with fail
            refine (dget_any _ _ L true s (Hd.out.ext (Hx.out.drN _))).mono ?_
            rintro e w5 ⟨rfl, hx⟩
            generalize hG : getE L s = G
            obtain ⟨⟨⟨t⟩, x, y, z⟩, gb⟩ := G
            have HG := Lib.hid hG
            have Hx5 := Lib.hid (Ext.trans (Hx.out.drN _) hx)
            have hB5 := heap_alloc_new w5 (.cells #[.string ⟨t.toArray⟩, .int .i64 x, .int .i64 y, .int .i64 z] 42)
            have Hx5a := Lib.hid (Ext.of_alloc w5 (.cells #[.string ⟨t.toArray⟩, .int .i64 x, .int .i64 y, .int .i64 z] 42))
            have HB5 := Lib.hid (show EBox (w5.alloc (.cells #[.string ⟨t.toArray⟩, .int .i64 x, .int .i64 y, .int .i64 z] 42)) w5.heap.size (⟨t⟩, x, y, z) from hB5)
            simp only [entV]
            clear hx hG hB5
            go_wp2_with fail
            refine (rgete_any _ _ L s (HL.out.up (Ext.trans Hx5.out Hx5a.out))).mono ?_
            rintro e w6 ⟨rfl, hx⟩
            rw [HG.out]
            simp only [entV]
            have Hx6 := Lib.hid (Ext.trans (Ext.trans Hx5.out Hx5a.out) (Ext.trans hx (Ext.of_alloc w6 (.cells #[.string ⟨t.toArray⟩, .int .i64 x, .int .i64 y, .int .i64 z] 42))))
            have hB6 : EBox (w6.alloc (.cells #[.string ⟨t.toArray⟩, .int .i64 x, .int .i64 y, .int .i64 z] 42)) w5.heap.size (⟨t⟩, x, y, z) := HB5.out.keep ((Ext.trans hx (Ext.of_alloc w6 (.cells #[.string ⟨t.toArray⟩, .int .i64 x, .int .i64 y, .int .i64 z] 42))).kept (fun _ => False)) (fun h => h)
            obtain ⟨a0, a1, a2, a3, _⟩ := hB6.cell
            dsimp only at a0 a1 a2 a3
            have hq : ∀ W, (binOp .neq 42 (.agg #[.string ⟨t.toArray⟩, .int .i64 x, .int .i64 y, .int .i64 z]) (.agg #[.string ⟨t.toArray⟩, .int .i64 x, .int .i64 y, .int .i64 z])).run Try.prog W = .ok (.bool false) W := fun W => by
              rw [neq_ent, decide_eq_true rfl]
              rfl
            have hgd := guard_ent
            clear hx hB6
            go_wp2_with fail
            refine (prefix_any _ _ L true s (Hd.out.ext Hx6.out) (fun _ => hSl)).mono ?_
            rintro e w7 ⟨v7, rfl, hv7, hx⟩
            have Hv7 := Lib.hid hv7
            have Hx7 := Lib.hid (Ext.trans Hx6.out hx)
            clear hv7 hx a0 a1 a2 a3 hq hgd
            go_wp2_with fail
            refine (rprefix_any w7 _ L s (HL.out.up Hx7.out) (by omega) Hterm.out hSl).mono ?_
            rintro e w8 ⟨v8, rfl, hv8, hx⟩
            have Hv8 := Lib.hid hv8
            have Hv78 := Lib.hid (Hv7.out.up hx)
            have Hx8 := Lib.hid (Ext.trans Hx7.out hx)
            clear hv8 hx
            go_wp2_with fail
            refine (rsame_any w8 _ _ (pfxE L s) (pfxE L s) Hv78.out Hv8.out).mono ?_
            rintro e w9 ⟨rfl, hx⟩
            rw [decide_eq_true rfl]
            have Hx9 := Lib.hid (Ext.trans Hx8.out hx)
            clear hx
            go_wp2_with fail
            refine (floor_any w9 _ L true s (Hd.out.ext Hx9.out)).mono ?_
            rintro e w10 ⟨kf, rfl, hkf, hx⟩
            have Hkf := Lib.hid hkf.flr
            have Hx10 := Lib.hid (Ext.trans Hx9.out hx)
            clear hkf hx
            go_wp2_with fail
            refine (rfloor_any w10 _ L s (HL.out.up Hx10.out)).mono ?_
            rintro e w11 ⟨rfl, hx⟩
            rw [Hkf.out]
            have Hx11 := Lib.hid (Ext.trans Hx10.out hx)
            clear hx
            go_wp2_with fail
            go_roundw
            case rel => exact ⟨q + 1, rfl, by omega, Hx11.out⟩
            case measure => simp only [intOf]; omega
          · have HxW := Lib.hid (Ext.trans Hxw.out Hx.out)
            have Hdr := Lib.hid (Hd.out.ext Hx.out)
            have HLr := Lib.hid (HL.out.up Hx.out)
            have hsplit : (q : Int) < asks.length ∧ ¬(q : Int) < 30 ∨ ¬(q : Int) < asks.length := by omega
            have Hat := fun (h : ¬(0 ≤ i ∧ i < L.length)) => atE_no h
            have Hat := Lib.hid Hat
            clear hstop
            by_cases hin : 0 ≤ i ∧ i < L.length
            · obtain ⟨kk, rfl⟩ : ∃ kk : Nat, i = kk := ⟨i.toNat, by omega⟩
              have hkk : kk < L.length := by omega
              have hkki : (kk : Int) < L.length := by omega
              have hkk0 : (0 : Int) ≤ kk := by omega
              have Hae := Lib.hid (atE_yes hkk)
              obtain ⟨au, rfl, _⟩ := HLr.out.ent_at hkk
              rcases hsplit with ⟨hs1, hs2⟩ | hs1
              all_goals
                go_wp2_with fail
                refine (at_any wr _ L true kk Hdr.out hi).mono ?_
                rintro e w5 ⟨rfl, hx⟩
                rw [Hae.out]
                obtain ⟨au2, hau, _, b0, b1, b2, b3, _⟩ := (HLr.out.up hx).ent_at hkk
                obtain rfl : au = au2 := by injection hau
                generalize L[kk] = N at b0 b1 b2 b3
                obtain ⟨⟨t⟩, x, y, z⟩ := N
                dsimp only at b0 b1 b2 b3
                simp only [entV]
                have HW5 := Lib.hid (Ext.trans HxW.out (Ext.trans hx (Ext.of_alloc w5 (.cells #[.string ⟨t.toArray⟩, .int .i64 x, .int .i64 y, .int .i64 z] 42))))
                have Hd5 := Lib.hid (Hdr.out.ext (Ext.trans hx (Ext.of_alloc w5 (.cells #[.string ⟨t.toArray⟩, .int .i64 x, .int .i64 y, .int .i64 z] 42))))
                have hbx : EBox (w5.alloc (.cells #[.string ⟨t.toArray⟩, .int .i64 x, .int .i64 y, .int .i64 z] 42)) w5.heap.size (⟨t⟩, x, y, z) := heap_alloc_new w5 _
                have hS : ∀ W, Ext (w5.alloc (.cells #[.string ⟨t.toArray⟩, .int .i64 x, .int .i64 y, .int .i64 z] 42)) W → W.cell? ⟨w5.heap.size, 0, none⟩ = some (.string ⟨t.toArray⟩) ∧ W.cell? ⟨w5.heap.size, 1, none⟩ = some (.int .i64 x) ∧ W.cell? ⟨w5.heap.size, 2, none⟩ = some (.int .i64 y) ∧ W.cell? ⟨w5.heap.size, 3, none⟩ = some (.int .i64 z) ∧
                    W.cell? (au.add (kk * 4)) = some (.string ⟨t.toArray⟩) ∧ W.cell? ⟨(au.add (kk * 4)).block, (au.add (kk * 4)).off + 1, none⟩ = some (.int .i64 x) ∧ W.cell? ⟨(au.add (kk * 4)).block, (au.add (kk * 4)).off + 2, none⟩ = some (.int .i64 y) ∧ W.cell? ⟨(au.add (kk * 4)).block, (au.add (kk * 4)).off + 3, none⟩ = some (.int .i64 z) := fun W h => by
                  obtain ⟨c0, c1, c2, c3⟩ := (hbx.keep (h.kept (fun _ => False)) (fun h => h)).c4
                  have X := Ext.trans (Ext.of_alloc w5 (.cells #[.string ⟨t.toArray⟩, .int .i64 x, .int .i64 y, .int .i64 z] 42)) h
                  exact ⟨c0, c1, c2, c3, Ext.keeps X b0, Ext.keeps X b1, Ext.keeps X b2, Ext.keeps X b3⟩
                have HS := Lib.hid hS
                have hq : ∀ W, (binOp .eql 42 (.agg #[.string ⟨t.toArray⟩, .int .i64 x, .int .i64 y, .int .i64 z]) (.agg #[.string ⟨t.toArray⟩, .int .i64 x, .int .i64 y, .int .i64 z])).run Try.prog W = .ok (.bool true) W := fun W => by
                  rw [eql_ent, decide_eq_true rfl]
                have hgd := guard_ent
                clear hx hS hbx b0 b1 b2 b3 hau
                go_wp2_with fail
                go_region_held3 (fun W => W.cell? ⟨w5.heap.size, 0, none⟩ = some (.string ⟨t.toArray⟩) ∧ W.cell? ⟨w5.heap.size, 1, none⟩ = some (.int .i64 x) ∧ W.cell? ⟨w5.heap.size, 2, none⟩ = some (.int .i64 y) ∧ W.cell? ⟨w5.heap.size, 3, none⟩ = some (.int .i64 z) ∧
                    W.cell? (au.add (kk * 4)) = some (.string ⟨t.toArray⟩) ∧ W.cell? ⟨(au.add (kk * 4)).block, (au.add (kk * 4)).off + 1, none⟩ = some (.int .i64 x) ∧ W.cell? ⟨(au.add (kk * 4)).block, (au.add (kk * 4)).off + 2, none⟩ = some (.int .i64 y) ∧ W.cell? ⟨(au.add (kk * 4)).block, (au.add (kk * 4)).off + 3, none⟩ = some (.int .i64 z))
                  (first
                    | exact HS.out _ x8
                    | exact HS.out _ x7
                    | exact HS.out _ (Ext.drew _)
                    | fail)
                  (first
                    | (go_at_call 23
                       refine (len_any _ _ L true (Hd5.out.ext (Ext.drew _))).mono ?_
                       rintro e w7 ⟨rfl, hx7⟩
                       have x7 := Ext.trans (Ext.drew _) hx7)
                    | (go_at_call 15
                       refine (awake_any w7).mono ?_
                       rintro e w8 ⟨rfl, hx8⟩
                       have x8 := Ext.trans x7 hx8)
                    | fail)
                go_wp2
                go_ret
                exact ⟨rfl, Ext.trans HW5.out x8⟩
            · have ha := Hat.out hin
              have Ha := Lib.hid ha
              have hneg : ¬(0 : Int) ≤ i ∨ (0 : Int) ≤ i ∧ ¬i < L.length := by omega
              clear ha hin
              have hq : ∀ W, (binOp .eql 42 (.agg #[.string ⟨#[]⟩, .int .i64 0, .int .i64 0, .int .i64 0]) (.agg #[.string ⟨#[]⟩, .int .i64 0, .int .i64 0, .int .i64 0])).run Try.prog W = .ok (.bool true) W := fun W => eql_ent W [] [] 0 0 0 0 0 0
              have hgd := guard_ent
              rcases hsplit with ⟨hs1, hs2⟩ | hs1
              all_goals
                rcases hneg with hn1 | ⟨hn1, hn2⟩
              all_goals
                go_wp2_with fail
                refine (at_any wr _ L true i Hdr.out hi).mono ?_
                rintro e w5 ⟨rfl, hx⟩
                rw [Ha.out]
                simp only [entV, zeroE]
                have HW5 := Lib.hid (Ext.trans HxW.out (Ext.trans hx (Ext.of_alloc w5 (.cells #[.string ⟨#[]⟩, .int .i64 0, .int .i64 0, .int .i64 0] 42))))
                have Hd5 := Lib.hid (Hdr.out.ext (Ext.trans hx (Ext.of_alloc w5 (.cells #[.string ⟨#[]⟩, .int .i64 0, .int .i64 0, .int .i64 0] 42))))
                clear hx
                go_wp2_with fail
                refine (len_any _ _ L true Hd5.out).mono ?_
                rintro e w6 ⟨rfl, hx⟩
                have HW6 := Lib.hid (Ext.trans HW5.out hx)
                clear hx
                go_wp2_with fail
                refine (awake_any w6).mono ?_
                rintro e w7 ⟨rfl, hx⟩
                have HW7 := Lib.hid (Ext.trans HW6.out hx)
                clear hx
                go_wp2
                go_ret
                exact ⟨rfl, HW7.out⟩
theorem i6_wf_asks {a : Int} (h : (Lit.int .i64 a).wf = true) : I6 a := by
  simp only [Lit.wf, Bool.and_eq_true, decide_eq_true_eq] at h
  exact I6.mk ⟨h.1, h.2⟩

end Go.Proofs.Ytmgbhmmmegknjaa
