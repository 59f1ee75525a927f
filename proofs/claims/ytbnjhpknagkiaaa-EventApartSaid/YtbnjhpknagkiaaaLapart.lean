/-
  The law EventApart: for whatever event it returns true.
  Conditions: none.
-/
import Derived.Test.YtbnjhpknagkiaaaNo
import Derived.Test.YtbnjhpknagkiaaaLgt
import Derived.Test.YtbnjhpknagkiaaaUo
import Derived.Test.YtbnjhpknagkiaaaEvarg
namespace Go.Proofs.Ytbnjhpknagkiaaa
open Go.RowKit Go.Op

/-- the places of terms, one row behind the other -/
def flt (L : List TG) : List Int := (L.map (·.2)).flatten
theorem flt_next {L : List TG} {i : Nat} (h : i < L.length) : flt (L.take (i + 1)) = flt (L.take i) ++ (L[i]).2 := by
  unfold flt
  rw [List.take_succ_eq_append_getElem h, List.map_append, List.flatten_append]
  simp
theorem flt_le (L : List TG) (i : Nat) : (flt (L.take i)).length ≤ (flt L).length := by
  have e : flt L = flt (L.take i) ++ flt (L.drop i) := by
    unfold flt
    rw [← List.flatten_append, ← List.map_append, List.take_append_drop]
  rw [e, List.length_append]
  omega
theorem count_next {T : List Int} {j : Nat} (h : j < T.length) (x : Int) : (T.take (j + 1)).count x = (T.take j).count x + if T[j] = x then 1 else 0 := by
  rw [List.take_succ_eq_append_getElem h, List.count_append, List.count_singleton]
  congr 1
  by_cases e : T[j] = x
  · simp [e]
  · simp [e]

set_option maxHeartbeats 16000000 in
set_option maxRecDepth 100000 in
theorem evapart_any (w : World) (a : Int) (v : Value) (l : List Fld) (hv : SL w (Bw w) v l) :
    Calls Try.prog 6 #[.agg #[.int .i64 a, v]] w fun e w' => e = .returned (.bool true) ∧ Ext w w' := by
  obtain ⟨A, c, rfl, hc, hm⟩ := hv.form
  have Hx0 : Hid (Ext w (w.alloc (.cells #[.int .i64 a, .slice A l.length c] 40))) := Lib.hid (Ext.of_alloc _ _)
  have hS : ∀ W, Ext (w.alloc (.cells #[.int .i64 a, .slice A l.length c] 40)) W → W.cell? ⟨w.heap.size, 0, none⟩ = some (.int .i64 a) ∧ W.cell? ⟨w.heap.size, 1, none⟩ = some (.slice A l.length c) := fun W h =>
    ⟨Ext.keeps h (cell_new w #[.int .i64 a, .slice A l.length c] 40 0 (v := .int .i64 a) rfl), Ext.keeps h (cell_new w #[.int .i64 a, .slice A l.length c] 40 1 (v := .slice A l.length c) rfl)⟩
  have HS := Lib.hid hS
  have Hv := Lib.hid (hv.up Hx0.out)
  clear hv hS hc hm
  go_enter Try.func6, Try.ntmps6
  go_wp2_with fail
  refine (light_any _ a _ l Hv.out).mono ?_
  rintro e w1 ⟨R, rfl, _, hx⟩
  have Hx1 := Lib.hid hx
  obtain ⟨b0, b1⟩ := HS.out _ hx
  clear hx
  cases R with
  | false =>
    go_wp2_with fail
    refine (awake_any w1).mono ?_
    rintro e w2 ⟨rfl, hx⟩
    have Hx2 := Lib.hid (Ext.trans Hx0.out (Ext.trans Hx1.out hx))
    clear hx
    go_wp2
    go_ret
    exact ⟨rfl, Hx2.out⟩
  | true =>
    by_cases hE : evE (a, l) = 0
    · have HE := Lib.hid hE
      clear hE
      go_wp2_with fail
      refine (rcheck_any w1 a _ l (Hv.out.up Hx1.out)).mono ?_
      rintro e w2 ⟨rfl, hx⟩
      rw [HE.out]
      have Hx2 := Lib.hid (Ext.trans Hx1.out hx)
      clear hx b0 b1
      obtain ⟨b0, b1⟩ := HS.out _ Hx2.out
      go_wp2_with fail
      refine (terms_ok w2 a _ l (Hv.out.up Hx2.out) HE.out).mono ?_
      rintro e w3 ⟨u, rfl, hu, hx⟩
      have hu : SL w3 (Bw w3) u ((termsL l).map tgT) := hu
      have Hx3 := Lib.hid (Ext.trans Hx2.out hx)
      clear hx b0 b1
      obtain ⟨b0, b1⟩ := HS.out _ Hx3.out
      obtain ⟨hf16, hfE⟩ := evE_spec HE.out
      have Hnt : Hid (∀ f ∈ l, f.2.b.length ≤ 4096) := Lib.hid fun f hf => (fldE_spec (fldsE_spec hfE f hf)).2.2
      have hraw : (rawA 0 l).length ≤ 100000 := by
        have h1 := rawA_len l 0
        have h2 := basN_le l 4096 Hnt.out
        have h3 : l.length * (4096 + 65) ≤ 16 * 4161 := Nat.mul_le_mul hf16 (by omega)
        omega
      have hflat := terms_wd l
      have hwd := rawA_wd l 0
      have Honce : Hid (∀ i (hi : i < l.length) k, k < nTok (l[i]).2.b → (flt (termsL l)).count ((basN (l.take i) + k : Nat) : Int) = 1) := Lib.hid fun i hi k hk => terms_once hi hk
      have hfl : (flt (termsL l)).length = wdN l := hflat
      generalize hTL : termsL l = L at hu Honce hfl
      have hlen := tgT_len L
      obtain ⟨Au, cu, rfl, hcu, hmu⟩ := hu.form
      rw [hlen] at hu ⊢
      have hF6 : (flt L).length ≤ 100000 := by omega
      have HU := Lib.hid hu
      have Hlen := Lib.hid hlen
      have Hfl := Lib.hid hfl
      have hL6 : L.length ≤ 1000000 := by
        rw [hlen] at hcu
        have h4 := addA_bd (rawA 0 l) (rawA_text l 0 fun f hf => (fldE_spec (fldsE_spec hfE f hf)).2.1)
        rw [show addA (rawA 0 l) = termsL l from (termsL_add l).symm, hTL] at h4
        have := h4.1
        omega
      clear hu hlen hcu hmu hfE hflat hwd hTL hfl hraw
      go_wp2_with fail
      go_loopw [4, 5] (fun av iv wr => ∃ i : Nat, iv = .int .i64 i ∧ i ≤ L.length ∧ OwnL wr w3.heap.size 3 (fun _ => False) av (flt (L.take i)) ∧ Ext w3 wr) (fun _ iv _ => L.length - (intOf iv).toNat)
      case atStart => exact ⟨0, rfl, Nat.zero_le _, OwnL.nil_ _ _ _ _, Below.refl _ _⟩
      case round =>
        obtain ⟨i, rfl, hi, hol, hx⟩ := hrel
        have hfi := flt_le L i
        obtain ⟨Aa, ca, rfl, _⟩ := hol.form
        have Hx := Lib.hid hx
        have Hol := Lib.hid hol
        have hsz := hx.size
        by_cases hil : i < L.length
        · have hii : (i : Int) < L.length := by omega
          obtain ⟨ad, q, rfl, d0, d1, hq⟩ := (HU.out.up hx).trm_at (i := i) (by rw [Hlen.out]; exact hil)
          rw [List.getElem_map] at d0 hq
          have hfn := flt_next hil
          have hfi2 := flt_le L (i + 1)
          generalize L[i] = T at d0 hq hfn
          obtain ⟨t, ps⟩ := T
          simp only [tgT] at d0 hq
          dsimp only at hfn
          have hps : (flt (L.take i)).length + ps.length ≤ 100000 := by rw [hfn, List.length_append] at hfi2; omega
          generalize flt (L.take i) = F at Hol hps hfn
          obtain ⟨Aq, cq, rfl, _⟩ := hq.form
          obtain ⟨nps, hsvp, hrp⟩ := SL.svS hq (fun k hk => hk)
          have Hsvp := Lib.hid hsvp
          have Hrp := Lib.hid hrp
          have Hfn := Lib.hid hfn
          clear hq hsvp hrp hfn hfi hfi2 hol hx
          go_wp2_with (at_builtin; go_loud (refine wpList_append_l _ rfl (.tmp 30) (.tmp 35) 50 rfl w3.heap.size 3 (fun _ => False) (.int .i64 0) 8 Try.underlying50 info_int rfl (by decide) (.slice Aa F.length ca) F rfl Hol.out _ (.slice Aq ps.length cq) ps nps rfl Hsvp.out (reps_ints0 Hrp.out) (by omega) (by omega) (by omega) ?_; intro v7 w7 hown7 hg7 hat7; have hx7 : Ext w3 w7 := Below.grown Hx.out hg7 (by omega) (fun j hj => Hol.out.ge j hj); have Hown7 := Lib.hid hown7; have Hx7 := Lib.hid hx7; clear hown7 hg7 hat7 hx7))
          exact ⟨⟨i + 1, by go_num, by omega, by rw [Hfn.out]; exact Hown7.out, Hx7.out⟩, by simp only [intOf]; omega⟩
        · have hii : ¬(i : Int) < L.length := by omega
          have hfull : flt (L.take i) = flt L := by rw [List.take_of_length_le (by omega)]
          rw [hfull] at Hol ⊢
          generalize flt L = T at Hol Honce hF6 Hfl
          have Hat := Lib.hid Hol.out.sl
          have b1 := Ext.keeps hx b1
          clear hfull hfi hol hx
          go_wp2_with fail
          go_loopw [6, 7, 8] (fun nv ev iv wq => ∃ f : Nat, iv = .int .i64 f ∧ f ≤ l.length ∧ nv = .int .i64 (wdN (l.take f) : Nat) ∧ ev = .int .i64 (basN (l.take f) : Nat) ∧ Ext wr wq) (fun _ _ iv _ => l.length - (intOf iv).toNat)
          case atStart => exact ⟨0, rfl, Nat.zero_le _, rfl, rfl, Below.refl _ _⟩
          case round =>
            rename World => wq
            obtain ⟨f, rfl, hf, rfl, rfl, hxq⟩ := hrel
            have Hxq := Lib.hid hxq
            have c1 := Ext.keeps hxq b1
            have hble := basN_le (l.take f) 4096 fun f hf => Hnt.out f (List.mem_of_mem_take hf)
            rw [List.length_take] at hble
            have hble2 : basN (l.take f) ≤ 100000 := by
              have : min f l.length * (4096 + 65) ≤ 16 * 4161 := Nat.mul_le_mul (by omega) (by omega)
              omega
            have hwle : wdN (l.take f) ≤ basN (l.take f) := by
              rw [← rawA_wd (l.take f) 0]
              exact rawA_len _ _
            by_cases hfl : f < l.length
            · have hfi : (f : Int) < l.length := by omega
              obtain ⟨ad, rfl, _, d0, d1, g0, g1⟩ := (Hv.out.up (Ext.trans Hx3.out (Ext.trans Hx.out hxq))).fld_at hfl
              have hon := Honce.out f hfl
              have h4 := Hnt.out _ (List.getElem_mem hfl)
              have hb2 : basN (l.take (f + 1)) = basN (l.take f) + (nTok (l[f]).2.b + 64) := by
                rw [List.take_succ_eq_append_getElem hfl, basN_append]
                simp [basN]
                omega
              have hw2 : wdN (l.take (f + 1)) = wdN (l.take f) + nTok (l[f]).2.b := by
                rw [List.take_succ_eq_append_getElem hfl, wdN_append]
                simp [wdN]
              generalize l[f] = FF at d0 d1 g0 g1 hon h4 hb2 hw2
              obtain ⟨⟨nm⟩, ⟨tx⟩⟩ := FF
              dsimp only at d0 d1 g0 g1 hon h4 hb2 hw2
              have hnt := nTok_le tx
              obtain ⟨m, hm⟩ : ∃ m, m = nTok tx := ⟨_, rfl⟩
              rw [← hm] at hon hb2 hw2 hnt
              generalize basN (l.take f) = b at hble2 hwle hon hb2 ⊢
              generalize wdN (l.take f) = n at hwle hw2 ⊢
              have Hon := Lib.hid hon
              have Hb2 := Lib.hid hb2
              have Hw2 := Lib.hid hw2
              have Hm := Lib.hid hm
              obtain ⟨n2, hn2⟩ : ∃ n2, n2 = n + m := ⟨_, rfl⟩
              have hn2i : (n : Int) + m = (n2 : Int) := by omega
              have hn26 : n2 ≤ 300000 := by omega
              obtain ⟨b2, hb2'⟩ : ∃ b2, b2 = b + (m + 64) := ⟨_, rfl⟩
              have hb2i : (b : Int) + m + 64 = (b2 : Int) := by omega
              have hb26 : b2 ≤ 300000 := by omega
              have Hn2 := Lib.hid hn2
              have Hb2' := Lib.hid hb2'
              have htk : (tokI (toksR (rns tx))).length = nTok tx := tokI_len _
              have Htk := Lib.hid htk
              clear hon hb2 hw2 hm hn2 hb2' d0 g0 g1 hble hxq htk
              go_wp2_with fail
              refine (rtokens_any wq tx (by omega)).mono ?_
              rintro e w5 ⟨vt, rfl, hot, hx5⟩
              obtain ⟨At, ct, rfl, _⟩ := hot.form
              rw [Htk.out, ← Hm.out]
              have Hx5 := Lib.hid (Ext.trans Hxq.out hx5)
              have Hat5 := Lib.hid (Hat.out.up Hx5.out)
              clear hot hx5
              go_wp2_with fail
              go_loopw [10] (fun kv wz => ∃ k : Nat, kv = .int .i64 k ∧ k ≤ m ∧ Ext w5 wz) (fun kv _ => m - (intOf kv).toNat)
              case atStart => exact ⟨0, rfl, Nat.zero_le _, Below.refl _ _⟩
              case round =>
                rename World => wz
                obtain ⟨k, rfl, hk, hxz⟩ := hrel
                have Hxz := Lib.hid hxz
                by_cases hkm : k < m
                · have hki : (k : Int) < m := by omega
                  have hone := Hon.out k hkm
                  obtain ⟨bk, hbk⟩ : ∃ bk, bk = b + k := ⟨_, rfl⟩
                  have hbki : (b : Int) + k = (bk : Int) := by omega
                  have hbk6 : bk ≤ 300000 := by omega
                  rw [← hbk] at hone
                  have Hone := Lib.hid hone
                  clear hone hbk
                  go_wp2_with fail
                  go_loopw [11, 12] (fun fv jv wy => ∃ j c : Nat, jv = .int .i64 j ∧ j ≤ T.length ∧ fv = .int .i64 c ∧ c = (T.take j).count (bk : Int) ∧ Ext wz wy) (fun _ jv _ => T.length - (intOf jv).toNat)
                  case atStart => exact ⟨0, 0, rfl, Nat.zero_le _, rfl, by simp, Below.refl _ _⟩
                  case round =>
                    rename World => wy
                    obtain ⟨j, cc, rfl, hj, rfl, hcc, hxy⟩ := hrel
                    have Hxy := Lib.hid hxy
                    have Hcc := Lib.hid hcc
                    have hcle : cc ≤ 100000 := by rw [hcc]; exact Nat.le_trans List.count_le_length (by rw [List.length_take]; omega)
                    clear hcc
                    by_cases hjT : j < T.length
                    · have hji : (j : Int) < T.length := by omega
                      obtain ⟨adt, rfl, _, e0, _⟩ := ((Hat5.out.up hxz).up hxy).int_at' hjT
                      have hcn := count_next hjT (bk : Int)
                      generalize T[j] = tj at e0 hcn
                      clear hxy
                      by_cases he : tj = (bk : Int)
                      · subst he
                        rw [if_pos rfl] at hcn
                        have Hcn := Lib.hid hcn
                        clear hcn
                        go_wp2
                        refine ⟨⟨j + 1, cc + 1, by go_num, by omega, by go_num, by rw [Hcn.out, ← Hcc.out], Hxy.out⟩, by simp only [intOf]; omega⟩
                      · have hne : (tj == (bk : Int)) = false := by rw [beq_eq_false_iff_ne]; exact he
                        rw [if_neg he] at hcn
                        have Hcn := Lib.hid hcn
                        clear hcn he
                        go_wp2
                        refine ⟨⟨j + 1, cc, by go_num, by omega, rfl, by rw [Hcn.out, ← Hcc.out, Nat.add_zero], Hxy.out⟩, by simp only [intOf]; omega⟩
                    · have hji : ¬(j : Int) < T.length := by omega
                      have hc1 : cc = 1 := by rw [Hcc.out, List.take_of_length_le (by omega)]; exact Hone.out
                      subst hc1
                      clear hxy
                      go_wp2
                      refine ⟨⟨k + 1, by go_num, by omega, Ext.trans Hxz.out Hxy.out⟩, by simp only [intOf]; omega⟩
                · have hki : ¬(k : Int) < m := by omega
                  clear hxz
                  go_wp2
                  refine ⟨⟨f + 1, by go_num, by omega, congrArg (Value.int .i64) (by rw [Hw2.out, ← Hn2.out]), congrArg (Value.int .i64) (by rw [Hb2.out, ← Hb2'.out]), Ext.trans Hx5.out Hxz.out⟩, by simp only [intOf]; omega⟩
            · have hfi : ¬(f : Int) < l.length := by omega
              have hfin : wdN (l.take f) = T.length := by rw [List.take_of_length_le (by omega)]; exact Hfl.out.symm
              rw [hfin]
              clear hfin hble hble2 hwle hxq
              go_wp2_with fail
              refine (awake_any wq).mono ?_
              rintro e w6 ⟨rfl, hx6⟩
              go_wp2
              go_ret
              exact ⟨rfl, Ext.trans Hx0.out (Ext.trans Hx3.out (Ext.trans Hx.out (Ext.trans Hxq.out hx6)))⟩
    · have hne : ((evE (a, l) : Int) != 0) = true := by rw [bne_iff_ne]; omega
      generalize hz : evE (a, l) = z at hne
      have Hz := Lib.hid hz
      clear hz hE
      go_wp2_with fail
      refine (rcheck_any w1 a _ l (Hv.out.up Hx1.out)).mono ?_
      rintro e w2 ⟨rfl, hx⟩
      rw [Hz.out]
      have Hx2 := Lib.hid (Ext.trans Hx1.out hx)
      clear hx
      go_wp2_with fail
      refine (awake_any w2).mono ?_
      rintro e w3 ⟨rfl, hx⟩
      have Hx3 := Lib.hid (Ext.trans Hx0.out (Ext.trans Hx2.out hx))
      clear hx
      go_wp2
      go_ret
      exact ⟨rfl, Hx3.out⟩
theorem evapart_row (w : World) (v : Value) (x : Ev) {n : Nat} (o : ∃ cs, v = .agg cs ∧ cs.size = n) (h : Rep.r w (Bw w) v.cells.toList x) :
    Calls Try.prog 6 #[v] w fun e w' => e = .returned (.bool true) ∧ Ext w w' := by
  obtain ⟨u, rfl, _, hu⟩ := ev_arg o h
  exact evapart_any w _ u x.2 hu
end Go.Proofs.Ytbnjhpknagkiaaa
