/-
  Contract of the reference's Decode.
  Conditions: at most 100,000 bytes.
-/
import Derived.Test.YtbnjhpknagkiaaaWi
namespace Go.Proofs.Ytbnjhpknagkiaaa
open Go.RowKit Go.Op

set_option maxHeartbeats 8000000 in
set_option maxRecDepth 100000 in
theorem rbdecode_any (n0 : Nat) (W : World) (v : Value) (bs : List UInt8) (hv : BS W n0 v bs) (hn : n0 ≤ W.heap.size) (hL : bs.length ≤ 100000) :
    Calls Try.prog 16 #[v] W fun e W' => BatIs W.heap.size W' e (batG bs) ∧ Ext W W' := by
  have Hv := Lib.hid hv
  have hx0 : Ext W (W.alloc (.cells #[.int .i64 0, .slice none 0 0] 24)) := Ext.of_alloc _ _
  have HR0 : Hid (BBox (W.alloc (.cells #[.int .i64 0, .slice none 0 0] 24)) W.heap.size 0 (.slice none 0 0)) := Lib.hid (heap_alloc_new W _)
  have Hx0 := Lib.hid hx0
  clear hv hx0
  go_enter Try.func16, Try.ntmps16
  go_wp2_with fail
  refine (rget_any _ n0 v bs (Hv.out.ext hn Hx0.out) (Nat.le_trans hn Hx0.out.size) (by omega)).mono ?_
  rintro e w1 ⟨r1, rfl, hr1, hx1⟩
  have HX1 := Lib.hid (Ext.trans Hx0.out hx1)
  have HR1 := Lib.hid (HR0.out.ext hx1)
  have Hr1 := Lib.hid hr1
  have hrl := vgRest_len bs
  clear hx1 hr1
  obtain ⟨hE, hle, hnum⟩ | ⟨hE, hlt, hnum⟩ | ⟨hE, hnum⟩ := num_is 1099511627776 bs
  · have hdf := batG_at hnum
    rw [hE]
    generalize vgN bs = s at hdf hle
    generalize vgRest bs = q1 at hdf Hr1 hrl
    have Hdf := Lib.hid hdf
    have hsi : ¬(1099511627776 : Int) < (s : Int) := by omega
    have hsd : decide ((1099511627776 : Int) < (s : Int)) = false := decide_eq_false hsi
    have hws : IntKind.i64.wrap (s : Int) = (s : Int) := by rw [IntKind.wrap_i64]; omega
    have hs6 : I6 (s : Int) := I6.mk (by omega)
    have Hs6 := Lib.hid hs6
    clear hdf hnum hE hs6
    go_wp2_with fail
    refine (rget_any w1 n0 r1 q1 Hr1.out (Nat.le_trans hn HX1.out.size) (by omega)).mono ?_
    rintro e w2 ⟨r2, rfl, hr2, hx2⟩
    have HX2 := Lib.hid (Ext.trans HX1.out hx2)
    have HR2 := Lib.hid (HR1.out.ext hx2)
    have hrl2 := vgRest_len q1
    clear hx2
    obtain ⟨hE2, hle2, hnum⟩ | ⟨hE2, hlt, hnum⟩ | ⟨hE2, hnum⟩ := num_is 64 q1
    · have hdf := Hdf.out
      rw [hnum] at hdf
      simp only at hdf
      rw [hE2]
      generalize vgN q1 = n at hle2 hdf
      generalize vgRest q1 = q2 at hr2 hdf hrl2
      obtain ⟨A2, c2, rfl⟩ := hr2.form
      have Hr2 := Lib.hid hr2
      have Hdf2 := Lib.hid hdf
      have hni : ¬(64 : Int) < (n : Int) := by omega
      have hnd : decide ((64 : Int) < (n : Int)) = false := decide_eq_false hni
      have hwn : IntKind.i64.wrap (n : Int) = (n : Int) := by rw [IntKind.wrap_i64]; omega
      have hx3 := Ext.of_alloc w2 (.cells #[.int .i64 (s : Int), .slice none 0 0] 24)
      have HB3 : Hid (BBox (w2.alloc (.cells #[.int .i64 (s : Int), .slice none 0 0] 24)) w2.heap.size s (.slice none 0 0)) := Lib.hid (heap_alloc_new w2 _)
      have HX3 := Lib.hid (Ext.trans HX2.out hx3)
      have HR3 := Lib.hid (HR2.out.ext hx3)
      have Hr3 := Lib.hid (Hr2.out.ext (Nat.le_trans hn HX2.out.size) hx3)
      have hwz := (Ext.trans Hx0.out (Ext.of_alloc _ (.cells #[] 24))).size
      have hw2 : W.heap.size < w2.heap.size := HR2.out.lt
      have hsum : q2.length ≤ 100000 := by omega
      clear hdf hnum hE2 hr2 hx3 hwz
      go_wp2_with fail
      go_loopw [8, 11] (fun vr i wr => ∃ (k : Nat) (L : List Ev) (r : List UInt8) (vf : Value), i = .int .i64 k ∧ k ≤ n ∧ BS wr n0 vr r ∧ r.length ≤ 100000 ∧ BBox wr w2.heap.size s vf ∧ BBox wr W.heap.size 0 (.slice none 0 0) ∧ OwnL wr (w2.heap.size + 1) 40 (fun k => w2.heap.size + 1 ≤ k) vf L ∧ L.length = k ∧ evsR n [] q2 = evsR (n - k) L r ∧ Ext W wr ∧ w2.heap.size + 1 ≤ wr.heap.size) (fun _ i _ => n - (intOf i).toNat)
      case atStart => exact ⟨0, [], q2, _, rfl, Nat.zero_le _, Hr3.out, hsum, HB3.out, HR3.out, OwnL.nil_ _ _ _ _, rfl, rfl, HX3.out, by simp⟩
      case round =>
        obtain ⟨k, L, r, vf, rfl, hk, hr, hrle, hB, hR, hol, hLl, hfr, hx, hwr⟩ := hrel
        obtain ⟨Aq, cq, rfl⟩ := hr.form
        obtain ⟨Al, cl, rfl, hcl, hml⟩ := hol.form
        have Hr := Lib.hid hr
        have HB := Lib.hid hB
        have HR := Lib.hid hR
        have Hol := Lib.hid hol
        have HLl := Lib.hid hLl
        have Hx := Lib.hid hx
        have hszr := hx.size
        by_cases hlt : k < n
        · have hklt : (k : Int) < n := by omega
          have hsucc := evsR_succ (n - k - 1) L r
          rw [show n - k - 1 + 1 = n - k from by omega, ← hfr] at hsucc
          have Hfr := Lib.hid hsucc
          clear hr hB hR hol hLl hx hfr hsucc
          go_wp2_with fail
          refine (rget_ev n0 _ _ r Hr.out (Nat.le_trans hn hszr) hrle).mono ?_
          rintro e w4 ⟨h4, hx4⟩
          cases hev : evG r with
          | none =>
            rw [hev] at h4
            obtain rfl := h4
            have hfr := Hfr.out
            rw [hev] at hfr
            simp only at hfr
            have hdf := Hdf2.out
            rw [hfr] at hdf
            simp only at hdf
            have Hno := Lib.hid hdf
            have hxa := Ext.of_alloc w4 (.cells #[.int .i64 0, .slice none 0 0] 40)
            have HRe := Lib.hid (HR.out.ext (Ext.trans hx4 hxa))
            have HXe := Lib.hid (Ext.trans Hx.out (Ext.trans hx4 hxa))
            clear hev hfr hdf hx4 hxa
            obtain ⟨c0, c1, f0, f1⟩ := HRe.out.cell
            go_wp2
            have hf := HRe.out.set2 (a' := 0) (v' := .slice none 0 0)
            obtain ⟨e0, e1, _⟩ := hf.cell
            refine bodyPost_ret (v := .tuple #[.agg #[.int .i64 0, .slice none 0 0], .int .i64 100]) (by simp [results, Try.f16, go_sem, e0, e1]) rfl ⟨by first | rfl | (rw [Hno.out]; rfl), ?_⟩
            exact Ext.put HXe.out (kept2b _ _ _ _) (Nat.le_refl _)
          | some x =>
            obtain ⟨⟨a, fs⟩, q⟩ := x
            rw [hev] at h4
            obtain ⟨u, uf, rfl, hu, huf⟩ := h4
            obtain ⟨Au, cu, rfl⟩ := hu.form
            obtain ⟨Af, cf, rfl, _⟩ := huf.form
            have hfr := Hfr.out
            rw [hev] at hfr
            simp only at hfr
            have Hfr2 := Lib.hid hfr
            have hevl := evG_len hev
            dsimp only at hu huf hfr hevl
            obtain ⟨hql, hee, hei⟩ := hevl
            have hxa := Ext.of_alloc w4 (.cells #[.int .i64 a, .slice Af fs.length cf] 40)
            have hxb := Ext.trans hx4 hxa
            have hB5 := HB.out.ext hxb
            have hR5 := HR.out.ext hxb
            obtain ⟨b0, b1, p0, p1⟩ := hB5.cell
            have q0 := cell_new w4 #[.int .i64 a, .slice Af fs.length cf] 40 0 (v := .int .i64 a) rfl
            have q1 := cell_new w4 #[.int .i64 a, .slice Af fs.length cf] 40 1 (v := .slice Af fs.length cf) rfl
            have hsz4 := hx4.size
            have hx6 : Ext wr ((w4.alloc (.cells #[.int .i64 a, .slice Af fs.length cf] 40)).alloc (.cells #[.int .i64 a, .slice Af fs.length cf] 40)) := Ext.al hxb _
            have hx46 : Ext w4 ((w4.alloc (.cells #[.int .i64 a, .slice Af fs.length cf] 40)).alloc (.cells #[.int .i64 a, .slice Af fs.length cf] 40)) := Ext.al hxa _
            have hol6 := Hol.out.ext hx6
            have hsv := SV.one_ (w4.alloc (.cells #[.int .i64 a, .slice Af fs.length cf] 40)) #[.int .i64 a, .slice Af fs.length cf] 40 2 rfl
            rw [World.size_alloc] at hsv
            have hlto : ∀ j, (Value.slice Al L.length cl).ownBlock = some j → w2.heap.size + 1 ≤ j ∧ j < wr.heap.size := by
              intro j hj
              obtain ⟨xs, h1, _⟩ := Hol.out
              exact ⟨Hol.out.ge j hj, (World.ownsRow.lt h1 j hj).2⟩
            have huf2 := (huf.keep (Sm.of_ext hx46 fun j hj => hj.2)).more fun j (hj : wr.heap.size ≤ j ∧ j < w4.heap.size) => (show w2.heap.size + 1 ≤ j ∧ j < ((w4.alloc (.cells #[.int .i64 a, .slice Af fs.length cf] 40)).alloc (.cells #[.int .i64 a, .slice Af fs.length cf] 40)).heap.size ∧ some j ≠ (Value.slice Al L.length cl).ownBlock from ⟨by omega, by simp; omega, fun e => by have := hlto j e.symm; omega⟩)
            have hreps : Reps (α := Ev) ((w4.alloc (.cells #[.int .i64 a, .slice Af fs.length cf] 40)).alloc (.cells #[.int .i64 a, .slice Af fs.length cf] 40)) (fun j => w2.heap.size + 1 ≤ j ∧ j < ((w4.alloc (.cells #[.int .i64 a, .slice Af fs.length cf] 40)).alloc (.cells #[.int .i64 a, .slice Af fs.length cf] 40)).heap.size ∧ some j ≠ (Value.slice Al L.length cl).ownBlock) [.int .i64 a, .slice Af fs.length cf] [(a, fs)] :=
              Reps.single (rep_ev (I6.mk hei) huf2)
            have Hu6 := Lib.hid (hu.ext (by omega) hx46)
            have Hsv := Lib.hid hsv
            have Hol6 := Lib.hid hol6
            have Hreps := Lib.hid hreps
            have Hlto := Lib.hid hlto
            have Hx6 := Lib.hid hx6
            have HB6 := Lib.hid (hB5.ext (Ext.of_alloc _ (.cells #[.int .i64 a, .slice Af fs.length cf] 40)))
            have HR6 := Lib.hid (hR5.ext (Ext.of_alloc _ (.cells #[.int .i64 a, .slice Af fs.length cf] 40)))
            have hL1 : L.length + 1 ≤ 1000000000 := by have := HLl.out; omega
            have hqb : w2.heap.size + 1 ≤ ((w4.alloc (.cells #[.int .i64 a, .slice Af fs.length cf] 40)).alloc (.cells #[.int .i64 a, .slice Af fs.length cf] 40)).heap.size := by simp; omega
            clear hsv hol6 hreps hlto hx6 hx46 hx4 hxa hxb hB5 hR5 huf2 hu huf hev hfr hee hei
            go_wp2_with (at_builtin; go_loud (refine wpList_append_l _ rfl (.tmp 60) (.tmp 62) 22 rfl (w2.heap.size + 1) 40 (fun j => w2.heap.size + 1 ≤ j) (.agg #[.int .i64 0, .slice none 0 0]) 32 Try.underlying22 info_ev rfl (by decide) (.slice Al L.length cl) L rfl Hol6.out (w4.heap.size + 1 + 1) (.slice (some ⟨w4.heap.size + 1, 0, none⟩) 1 1) [(a, fs)] [.int .i64 a, .slice Af fs.length cf] rfl Hsv.out Hreps.out hL1 (by omega) hqb ?_; intro v6 w6 hown6 hg6 hat6; generalize hps : L ++ [((a, fs) : Ev)] = PS at hown6; obtain ⟨A6, c6, rfl, _, _⟩ := hown6.form; have hk6 : Kept (fun j => (Value.slice Al L.length cl).ownBlock = some j) ((w4.alloc (.cells #[.int .i64 a, .slice Af fs.length cf] 40)).alloc (.cells #[.int .i64 a, .slice Af fs.length cf] 40)) w6 := (grown_kept hg6 fun r hr _ => hr); have hB7 : BBox w6 w2.heap.size s (.slice Al L.length cl) := (hk6.block _ HB6.out.lt (fun e => by have := Hlto.out _ e; omega)).trans HB6.out; have hR7 : BBox w6 W.heap.size 0 (.slice none 0 0) := (hk6.block _ HR6.out.lt (fun e => by have := Hlto.out _ e; omega)).trans HR6.out; obtain ⟨z0, z1, y0, y1⟩ := hB7.cell; have Hps := Lib.hid hps; have Hk6 := Lib.hid hk6; have Hown6 := Lib.hid hown6; have HB7 := Lib.hid hB7; have HR7 := Lib.hid hR7; clear hps hk6 hown6 hg6 hat6 hB7 hR7 b0 b1 p0 p1 q0 q1))
            go_roundw
            case rel =>
              have hk11 := Kept.setCell (fun j => j = w2.heap.size) w6 ⟨w2.heap.size, 1, none⟩ (.slice A6 PS.length c6) rfl
              have hs6 := Hk6.out.size
              have hs6b := Hx6.out.size
              have hx7 : Ext W w6 := Below.trans Hx.out (Below.trans (Hx6.out.mono hszr) (Hk6.out.below (by omega) fun j hj => by have := Hlto.out j hj; omega))
              refine ⟨k + 1, PS, q, _, by go_num, by omega, ?_, by omega, HB7.out.set1 _, ?_, Hown6.out.kpt hk11 (fun j hj => .inl (by omega)) (fun j hj => hj), by rw [← Hps.out, List.length_append, HLl.out]; rfl, ?_, Ext.put hx7 hk11 (by omega), by simp; omega⟩
              · exact (Hu6.out.kept (by omega) Hk6.out (fun j hj h => by have := Hlto.out j h; omega)).kept (by omega) hk11 (fun j hj h => by omega)
              · exact (hk11.block _ HR7.out.lt (by omega)).trans HR7.out
              · rw [Hfr2.out, show n - k - 1 = n - (k + 1) from by omega, Hps.out]
            case measure => simp only [intOf]; omega
        · have hklt : ¬(k : Int) < n := by omega
          obtain rfl : k = n := by omega
          rw [Nat.sub_self] at hfr
          have hdf := Hdf2.out
          rw [hfr] at hdf
          simp only [evsR] at hdf
          have Hdf3 := Lib.hid hdf
          have Hsl := Lib.hid hol.sl
          have Hso := Lib.hid hol.sl_from
          obtain ⟨b0, b1, _, _⟩ := hB.cell
          rcases r with _ | ⟨rb, r'⟩
          · clear hr hB hR hol hx hfr hdf hLl
            simp only [List.length_nil]
            go_wp2_with fail
            refine (rcbatch_any wr s _ L Hsl.out Hs6.out).mono ?_
            rintro e w5 ⟨rfl, hx5⟩
            have HX5 := Lib.hid (Ext.trans Hx.out hx5)
            have HR5 := Lib.hid (HR.out.ext hx5)
            have HB5 := Lib.hid (HB.out.ext hx5)
            have Hso5 := Lib.hid ((Hso.out.keep (Sm.of_ext hx5 fun j hj => hj.2)).more fun j hj => (show w2.heap.size + 1 ≤ j ∧ j < w5.heap.size from ⟨hj.1, Nat.lt_of_lt_of_le hj.2 hx5.size⟩))
            clear hx5 b0 b1
            by_cases hev : batE ((s : Int), L) = 0
            · have hdf := Hdf3.out
              rw [if_pos ⟨rfl, hev⟩] at hdf
              have Hdf4 := Lib.hid hdf
              rw [hev]
              obtain ⟨c0, c1, f0, f1⟩ := HR5.out.cell
              obtain ⟨b0, b1, _, _⟩ := HB5.out.cell
              clear hdf hev
              go_wp2
              have hf := HR5.out.set2 (a' := s) (v' := .slice Al L.length cl)
              obtain ⟨e0, e1, _⟩ := hf.cell
              have hk := kept2b w5 W.heap.size (.int .i64 s) (.slice Al L.length cl)
              refine bodyPost_ret (v := .tuple #[.agg #[.int .i64 s, .slice Al L.length cl], .int .i64 0]) (by simp [results, Try.f16, go_sem, e0, e1]) rfl ⟨by rw [Hdf4.out]; exact ⟨_, rfl, (Hso5.out.keep (Sm.of_kept hk fun j hj => ⟨hj.2, fun e => by have := hj.1; omega⟩)).more fun j hj => ⟨by omega, Nat.lt_of_lt_of_le hj.2 hk.size⟩⟩, Ext.put HX5.out hk (Nat.le_refl _)⟩
            · have hdf := Hdf3.out
              rw [if_neg fun h => hev h.2] at hdf
              have Hdf4 := Lib.hid hdf
              have hE' : ((batE ((s : Int), L) : Int) != 0) = true := by rw [bne_iff_ne]; omega
              generalize batE ((s : Int), L) = E at hE'
              clear hdf hev
              obtain ⟨c0, c1, f0, f1⟩ := HR5.out.cell
              go_wp2
              have hf := HR5.out.set2 (a' := 0) (v' := .slice none 0 0)
              obtain ⟨e0, e1, _⟩ := hf.cell
              refine bodyPost_ret (v := .tuple #[.agg #[.int .i64 0, .slice none 0 0], .int .i64 100]) (by simp [results, Try.f16, go_sem, e0, e1]) rfl ⟨by first | rfl | (rw [Hdf4.out]; rfl), ?_⟩
              exact Ext.put HX5.out (kept2b _ _ _ _) (Nat.le_refl _)
          · have hdf := Hdf3.out
            rw [if_neg fun h => by cases h.1] at hdf
            have Hdf4 := Lib.hid hdf
            have hM : (r'.length + 1) = (rb :: r').length := rfl
            clear hr hB hR hol hx hfr hdf hLl
            rw [← hM]
            obtain ⟨M, hM2⟩ : ∃ M, M = r'.length + 1 := ⟨_, rfl⟩
            have hMi : (0 : Int) < (M : Int) := by omega
            have hMd : decide ((0 : Int) < (M : Int)) = true := decide_eq_true hMi
            rw [← hM2]
            clear hM hM2
            obtain ⟨c0, c1, f0, f1⟩ := HR.out.cell
            go_wp2
            have hf := HR.out.set2 (a' := 0) (v' := .slice none 0 0)
            obtain ⟨e0, e1, _⟩ := hf.cell
            refine bodyPost_ret (v := .tuple #[.agg #[.int .i64 0, .slice none 0 0], .int .i64 100]) (by simp [results, Try.f16, go_sem, e0, e1]) rfl ⟨by first | rfl | (rw [Hdf4.out]; rfl), ?_⟩
            exact Ext.put Hx.out (kept2b _ _ _ _) (Nat.le_refl _)
    · have hdf := Hdf.out
      rw [hnum] at hdf
      have Hdf2 := Lib.hid hdf
      have hni : (64 : Int) < (vgN q1 : Int) := by omega
      have hnd : decide ((64 : Int) < (vgN q1 : Int)) = true := decide_eq_true hni
      rw [hE2]
      generalize vgN q1 = n at hni hnd
      clear hdf hnum hE2 hr2 hlt
      obtain ⟨c0, c1, f0, f1⟩ := HR2.out.cell
      go_wp2
      have hf := HR2.out.set2 (a' := 0) (v' := .slice none 0 0)
      obtain ⟨e0, e1, _⟩ := hf.cell
      refine bodyPost_ret (v := .tuple #[.agg #[.int .i64 0, .slice none 0 0], .int .i64 100]) (by simp [results, Try.f16, go_sem, e0, e1]) rfl ⟨by first | rfl | (rw [Hdf2.out]; rfl), ?_⟩
      exact Ext.put HX2.out (kept2b _ _ _ _) (Nat.le_refl _)
    · have hdf := Hdf.out
      rw [hnum] at hdf
      have Hdf2 := Lib.hid hdf
      have hE' : ((vgE q1 : Int) != 0) = true := by rw [bne_iff_ne]; omega
      generalize vgE q1 = E at hE'
      clear hdf hnum hE2 hr2
      obtain ⟨c0, c1, f0, f1⟩ := HR2.out.cell
      go_wp2
      have hf := HR2.out.set2 (a' := 0) (v' := .slice none 0 0)
      obtain ⟨e0, e1, _⟩ := hf.cell
      refine bodyPost_ret (v := .tuple #[.agg #[.int .i64 0, .slice none 0 0], .int .i64 100]) (by simp [results, Try.f16, go_sem, e0, e1]) rfl ⟨by first | rfl | (rw [Hdf2.out]; rfl), ?_⟩
      exact Ext.put HX2.out (kept2b _ _ _ _) (Nat.le_refl _)
  · have Hdf := Lib.hid (batG_seq hnum)
    have hni : (1099511627776 : Int) < (vgN bs : Int) := by omega
    have hnd : decide ((1099511627776 : Int) < (vgN bs : Int)) = true := decide_eq_true hni
    rw [hE]
    generalize vgN bs = n at hni hnd
    clear hnum hE hlt
    obtain ⟨c0, c1, f0, f1⟩ := HR1.out.cell
    go_wp2
    have hf := HR1.out.set2 (a' := 0) (v' := .slice none 0 0)
    obtain ⟨e0, e1, _⟩ := hf.cell
    refine bodyPost_ret (v := .tuple #[.agg #[.int .i64 0, .slice none 0 0], .int .i64 100]) (by simp [results, Try.f16, go_sem, e0, e1]) rfl ⟨by first | rfl | (rw [Hdf.out]; rfl), ?_⟩
    exact Ext.put HX1.out (kept2b _ _ _ _) (Nat.le_refl _)
  · have Hdf := Lib.hid (batG_seq hnum)
    have hE' : ((vgE bs : Int) != 0) = true := by rw [bne_iff_ne]; omega
    generalize vgE bs = E at hE'
    clear hnum hE
    obtain ⟨c0, c1, f0, f1⟩ := HR1.out.cell
    go_wp2
    have hf := HR1.out.set2 (a' := 0) (v' := .slice none 0 0)
    obtain ⟨e0, e1, _⟩ := hf.cell
    refine bodyPost_ret (v := .tuple #[.agg #[.int .i64 0, .slice none 0 0], .int .i64 100]) (by simp [results, Try.f16, go_sem, e0, e1]) rfl ⟨by first | rfl | (rw [Hdf.out]; rfl), ?_⟩
    exact Ext.put HX1.out (kept2b _ _ _ _) (Nat.le_refl _)
end Go.Proofs.Ytbnjhpknagkiaaa
