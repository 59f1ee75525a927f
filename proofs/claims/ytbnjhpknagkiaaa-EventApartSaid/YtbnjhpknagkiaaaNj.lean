/-
  Contracts of the reference's cut and Tokens (chapter 07).
  Conditions: at most 100,000 bytes.
-/
import Derived.Test.YtbnjhpknagkiaaaNi
import Derived.Test.YtbnjhpknagkiaaaNh
import Derived.Test.YtbnjhpknagkiaaaUe
namespace Go.Proofs.Ytbnjhpknagkiaaa
open Go.RowKit Go.Op

theorem cat_ba (x y : List UInt8) : (ByteArray.mk x.toArray ++ ⟨y.toArray⟩) = ⟨(x ++ y).toArray⟩ := by
  apply ByteArray.ext
  simp

set_option maxHeartbeats 1600000 in
set_option maxRecDepth 100000 in
theorem rcut_any (w : World) (v : Value) (l : List Int) (hv : SL w (Bw w) v l) (ha : Rns l) :
    Calls Try.prog 55 #[v] w fun e w' => e = .returned (.string ⟨(wordR [] l).toArray⟩) ∧ Ext w w' := by
  obtain ⟨A, c, rfl, hc, hm⟩ := hv.form
  have hml : (l.length : Int) ≤ 9223372036854775807 := by unfold maxLen at hm; omega
  have Hv := Lib.hid hv
  have Ha := Lib.hid ha
  clear hv ha
  go_enter Try.func55, Try.ntmps55
  go_wp2_with fail
  go_loopw [3, 4] (fun o i wr => ∃ (k : Nat) (acc : List UInt8), i = .int .i64 k ∧ k ≤ l.length ∧ o = .string ⟨acc.toArray⟩ ∧ wordR [] l = wordR acc (l.drop k) ∧ acc.length ≤ 32 ∧ Ext w wr) (fun _ i _ => l.length - (intOf i).toNat)
  case atStart => exact ⟨0, [], rfl, Nat.zero_le _, rfl, by rw [List.drop_zero], Nat.zero_le _, Below.refl _ _⟩
  case round =>
    obtain ⟨k, acc, rfl, hk, rfl, hw, hal, hx⟩ := hrel
    have hszA : (ByteArray.mk acc.toArray).size = acc.length := by show acc.toArray.size = _; simp
    have Hx := Lib.hid hx
    have Hw := Lib.hid hw
    clear hw
    by_cases hlk : k < l.length
    · have hkl : (k : Int) < l.length := by omega
      obtain ⟨ad, rfl, d0, h6⟩ : ∃ ad, A = some ad ∧ w.cell? (ad.add k) = some (.int .i64 l[k]) ∧ I6 l[k] := by
        obtain ⟨ad, cs, rfl, _, ⟨rfl, h6⟩, hc⟩ := Hv.out.at_ hlk
        have := hc 0 _ rfl
        simp only [Rep.n, Nat.mul_one, Nat.add_zero] at this
        exact ⟨ad, rfl, this, h6⟩
      have q0 := Ext.keeps hx d0
      have hdr := List.drop_eq_getElem_cons hlk
      have hr0 := Ha.out _ (List.getElem_mem hlk)
      have hr := lowR_r hr0
      generalize l[k] = r0 at d0 q0 h6 hdr hr hr0
      have hrp := renc_pos (lowR r0)
      have hst : wordR acc (l.drop k) = if 32 < acc.length + (renc (lowR r0)).length then acc else wordR (acc ++ renc (lowR r0)) (l.drop (k + 1)) := by rw [hdr]; rfl
      have Hr0 := Lib.hid hr0
      generalize hm1 : lowR r0 = m at hr hst hrp
      have hri := hr.i6
      generalize hbs : renc m = rb at hst hrp
      have Hstep := Lib.hid hst
      have Hr := Lib.hid hr
      have Hbs := Lib.hid hbs
      obtain ⟨hr1, hr4⟩ := hrp
      have hsz : (ByteArray.mk rb.toArray).size = rb.length := by show rb.toArray.size = _; simp
      clear d0 hdr hx hst hr hbs hr0
      go_wp2_with fail
      refine (rlower_any wr r0 Hr0.out).mono ?_
      rintro e w2 ⟨rfl, rfl⟩
      rw [hm1]
      have hsl := SL.newL w2 #[.int .i64 m] 3 (l := [(m : Int)]) (S := fun _ => False) 1 rfl (by simp [maxLen]) (Reps.single ⟨rfl, hri⟩) (fun _ h => h.elim)
      have Hsl := Lib.hid hsl
      have Hx2 := Lib.hid (Ext.al Hx.out (.cells #[.int .i64 m] 3))
      clear hsl hm1 hri h6
      go_wp2_with fail
      refine (rencode_one _ _ m Hsl.out Hr.out).mono ?_
      rintro e w3 ⟨rfl, hx3⟩
      rw [Hbs.out]
      have Hx3 := Lib.hid (Ext.trans Hx2.out hx3)
      have hcat := cat_ba acc rb
      clear hx3
      by_cases hgt : 32 < acc.length + rb.length
      · have hgi : (32 : Int) < (acc.length : Int) + rb.length := by omega
        have hres : wordR [] l = acc := by rw [Hw.out, Hstep.out, if_pos hgt]
        have Hres := Lib.hid hres
        clear hres hgt
        go_wp2
        go_ret
        exact ⟨by rw [Hres.out]; rfl, Hx3.out⟩
      · have hgi : decide ((32 : Int) < (acc.length : Int) + rb.length) = false := decide_eq_false (by omega)
        have Hw2 : Hid (wordR [] l = wordR (acc ++ rb) (l.drop (k + 1))) := Lib.hid (by rw [Hw.out, Hstep.out, if_neg hgt])
        have Hle : Hid (acc.length + rb.length ≤ 32) := Lib.hid (by omega)
        clear hgt
        go_wp2_with fail
        exact ⟨⟨k + 1, acc ++ rb, by go_num, by omega, rfl, Hw2.out, by rw [List.length_append]; exact Hle.out, Hx3.out⟩, by simp only [intOf]; omega⟩
    · have hkl : ¬(k : Int) < l.length := by omega
      have hres : wordR [] l = acc := by rw [Hw.out, List.drop_of_length_le (by omega)]; rfl
      have Hres := Lib.hid hres
      clear hres hx
      go_wp2
      go_ret
      exact ⟨by rw [Hres.out]; rfl, Hx.out⟩

set_option maxHeartbeats 3200000 in
set_option maxRecDepth 100000 in
theorem rtokens_any (w : World) (s : List UInt8) (hl : s.length ≤ 100000) :
    Calls Try.prog 26 #[.string ⟨s.toArray⟩] w fun e w' => ∃ v, e = .returned v ∧ OwnL w' w.heap.size 83 (fun _ => False) v (tokI (toksR (rns s))) ∧ Ext w w' := by
  go_enter Try.func26, Try.ntmps26
  go_wp2_with fail
  refine (rrunes_any w s hl).mono ?_
  rintro e w1 ⟨vr, rfl, hol, hx1⟩
  obtain ⟨A, c, rfl, hcr, hmr⟩ := hol.form
  have hrl := rns_le s
  have hasc : Rns (rns s) := rns_r s
  generalize hRs : rns s = R at hol hasc hrl hcr ⊢
  have HRs := Lib.hid hRs
  have hRl : R.length ≤ 100000 := by omega
  have Hr := Lib.hid hol.sl
  have Hasc := Lib.hid hasc
  have Hx1 := Lib.hid hx1
  have hs1 := hx1.size
  clear hol hasc hx1 hRs hrl
  go_wp2_with fail
  go_loopw [3, 5] (fun o i wr => ∃ (k : Nat) (D : List (List Int)), i = .int .i64 k ∧ k ≤ R.length ∧ splR [] R = D ++ splR [] (R.drop k) ∧ D.length ≤ k ∧
    OwnL wr w1.heap.size 83 (fun _ => False) o (tokI (D.map (wordR []))) ∧ Ext w1 wr) (fun _ i _ => R.length - (intOf i).toNat)
  case atStart => exact ⟨0, [], rfl, Nat.zero_le _, by simp, by simp, OwnL.nil_ _ _ _ _, Below.refl _ _⟩
  case round =>
    obtain ⟨k, D, rfl, hk, hsp, hDl, hol, hx⟩ := hrel
    obtain ⟨Al, cl, rfl, hclo, hmo⟩ := hol.form
    have hDt : (tokI (D.map (wordR []))).length = D.length := by rw [tokI_len, List.length_map]
    rw [hDt] at hol hclo ⊢
    have HDt := Lib.hid hDt
    have Hol := Lib.hid hol
    have Hx := Lib.hid hx
    have Hsp := Lib.hid hsp
    clear hDt hol hsp hx
    by_cases hlk : k < R.length
    · have hkl : (k : Int) < R.length := by omega
      go_wp2_with fail
      go_loopw [6] (fun jv wq => ∃ j : Nat, jv = .int .i64 j ∧ k ≤ j ∧ j ≤ R.length ∧ splR [] (R.drop k) = splR ((R.take j).drop k) (R.drop j) ∧ Ext wr wq) (fun jv _ => R.length - (intOf jv).toNat)
      case atStart => exact ⟨k, rfl, Nat.le_refl _, hk, by rw [show (R.take k).drop k = [] from List.drop_of_length_le (by rw [List.length_take]; omega)], Below.refl _ _⟩
      case round =>
        rename World => wq
        obtain ⟨j, rfl, hkj, hj, hspj, hxq⟩ := hrel
        have hlen : (R.take j).length = j := by rw [List.length_take]; omega
        have hemp : ((R.take j).drop k).isEmpty = true ↔ k = j := by rw [List.isEmpty_iff_length_eq_zero, List.length_drop, hlen]; omega
        have Hspj := Lib.hid hspj
        have Hx0 := Lib.hid hxq
        have Hxq := Lib.hid (Ext.trans Hx.out hxq)
        have Holq := Lib.hid (Hol.out.ext hxq)
        have Hemp := Lib.hid hemp
        clear hspj hlen hemp
        by_cases hjl : j < R.length
        · have hji : (j : Int) < R.length := by omega
          obtain ⟨ad, rfl, _, d0, h6⟩ := Hr.out.int_at' hjl
          have q0 := Ext.keeps Hxq.out d0
          have hdr := List.drop_eq_getElem_cons hjl
          have htk : R.take (j + 1) = R.take j ++ [R[j]] := List.take_succ_eq_append_getElem hjl
          generalize hr : R[j] = r at d0 q0 h6 hdr htk
          have hstep := fun cur => (show splR cur (r :: R.drop (j + 1)) = if isWd r = true then splR (cur ++ [r]) (R.drop (j + 1)) else if cur.isEmpty then splR [] (R.drop (j + 1)) else cur :: splR [] (R.drop (j + 1)) from rfl)
          have hcur : (R.take (j + 1)).drop k = (R.take j).drop k ++ [r] := by rw [htk, List.drop_append_of_le_length (by rw [List.length_take]; omega)]
          have Hdr := Lib.hid hdr
          have Hstep := Lib.hid hstep
          have Hcur := Lib.hid hcur
          clear d0 hr hdr htk hstep hcur hxq
          cases hw : isWd r with
          | true =>
            have Hw := Lib.hid hw
            go_wp2_with fail
            refine (risword_any wq r).mono ?_
            rintro e wq ⟨rfl, rfl⟩
            rw [hw]
            clear hw
            go_wp2_with fail
            refine ⟨⟨j + 1, by go_num, by omega, by omega, ?_, Hx0.out⟩, by simp only [intOf]; omega⟩
            rw [Hspj.out, Hdr.out, Hstep.out, if_pos Hw.out, Hcur.out]
          | false =>
            have Hw := Lib.hid hw
            by_cases hjk : k = j
            · have hjk2 : ((j : Int) == (k : Int)) = true := by rw [beq_iff_eq]; omega
              have Hjk := Lib.hid hjk
              clear hjk
              go_wp2_with fail
              refine (risword_any wq r).mono ?_
              rintro e wq ⟨rfl, rfl⟩
              rw [hw]
              clear hw
              go_wp2_with fail
              refine ⟨⟨k + 1, D, by go_num, by omega, ?_, by omega, Holq.out, Hxq.out⟩, by simp only [intOf]; omega⟩
              rw [Hsp.out, Hjk.out, Hdr.out, Hstep.out, if_neg (by rw [Hw.out]; decide)]
              rfl
            · have hkj3 : k < j := by omega
              have Hw2 : Hid (splR [] R = (D ++ [(R.take j).drop k]) ++ splR [] (R.drop j)) := Lib.hid (by
                rw [Hsp.out, Hspj.out, Hdr.out, Hstep.out, if_neg (by rw [Hw.out]; decide), if_neg (fun h => hjk (Hemp.out.1 h)), Hstep.out, if_neg (by rw [Hw.out]; decide), List.append_assoc]
                rfl)
              clear hjk
              have hsq := Hxq.out.size
              have hsub := ((Hr.out.up Hxq.out).cut_ (k := k) (by omega))
              rw [if_neg (show ¬c = k by omega)] at hsub
              simp only [Rep.n, Nat.mul_one, Option.map_some] at hsub
              have hcl : ((R.take j).drop k) = (R.drop k).take (j - k) := List.drop_take ..
              have hsub2 := SL.take_ (k := j - k) (l := R.drop k) (by rw [List.length_drop]; exact hsub) (by rw [List.length_drop]; omega)
              rw [← hcl] at hsub2
              have hcasc : Rns ((R.take j).drop k) := Hasc.out.sub fun r hr => List.mem_of_mem_take (List.mem_of_mem_drop hr)
              generalize (R.take j).drop k = cur at hsub2 hcasc Hw2
              have Hsub2 := Lib.hid hsub2
              have Hcasc := Lib.hid hcasc
              have hjk : ((j : Int) == (k : Int)) = false := by rw [beq_eq_false_iff_ne]; omega
              have hkj2 : (k : Int) ≤ j := by omega
              have hjc : (j : Int) ≤ c := by omega
              clear hsub hsub2 hcasc hcl
              go_wp2_with fail
              refine (risword_any wq r).mono ?_
              rintro e wq ⟨rfl, rfl⟩
              rw [hw]
              clear hw
              go_wp2_with fail
              refine (rcut_any wq _ cur Hsub2.out Hcasc.out).mono ?_
              rintro e w3 ⟨rfl, hx3⟩
              have Hx3 := Lib.hid (Ext.trans Hxq.out hx3)
              have Hol3 := Lib.hid (Holq.out.ext hx3)
              have hs3 := hx3.size
              have Hsn := Lib.hid (tokI_snoc (D.map (wordR [])) (wordR [] cur))
              rw [List.length_map] at Hsn
              clear hx3
              have hwl := wordR_len cur [] (by simp)
              generalize tokI (D.map (wordR [])) = T at Hol3 Hsn HDt
              generalize hWD : wordR [] cur = WD at Hsn hwl
              have HWD := Lib.hid hWD
              clear hWD
              have hsv := SV.one_ w3 #[.string ⟨WD.toArray⟩, .int .i64 D.length] 83 2 rfl
              have hreps : ∀ W : World, Reps (α := Tx × Int) W (fun k => False ∧ k < W.heap.size ∧ some k ≠ (Value.slice Al D.length cl).ownBlock) [.string ⟨WD.toArray⟩, .int .i64 D.length] [(⟨WD⟩, (D.length : Int))] := fun W => Reps.single ⟨[_], [_], rfl, ⟨rfl, by show WD.length ≤ maxLen; unfold maxLen; omega⟩, rfl, I6.mk (by omega)⟩
              have Hsv := Lib.hid hsv
              have Hreps := Lib.hid hreps
              have HTl : Hid (T.length ≤ 100001) := Lib.hid (by rw [HDt.out]; omega)
              clear hsv hreps
              go_wp2_with (at_builtin; go_loud (refine wpList_append_l _ rfl (.tmp 32) (.tmp 41) 56 rfl w1.heap.size 83 (fun _ => False) (.agg #[.string ⟨#[]⟩, .int .i64 0]) 24 Try.underlying56 info_tok rfl (by decide) (.slice Al D.length cl) T rfl (Hol3.out.ext (Ext.of_alloc w3 _)) (w3.heap.size + 1) (.slice (some ⟨w3.heap.size, 0, none⟩) 1 1) [(⟨WD⟩, (D.length : Int))] [.string ⟨WD.toArray⟩, .int .i64 D.length] rfl Hsv.out (Hreps.out _) (by have := HTl.out; simp <;> omega) (by have := HTl.out; simp <;> omega) (by simp <;> omega) ?_; intro v6 w6 hown6 hg6 hat6; have hx6 : Ext w1 w6 := Below.grown (Ext.al Hx3.out _) hg6 (by simp <;> omega) (fun j hj => Hol3.out.ge j hj); have Hown6 := Lib.hid hown6; have Hx6 := Lib.hid hx6; clear hown6 hg6 hat6 hx6))
              exact ⟨⟨j, D ++ [cur], rfl, by omega, Hw2.out, by rw [List.length_append, List.length_singleton]; omega, by rw [List.map_append, List.map_singleton, HWD.out, Hsn.out]; exact Hown6.out, Hx6.out⟩, by simp only [intOf]; omega⟩
        · have hji : ¬(j : Int) < R.length := by omega
          have hkj3 : k < j := by omega
          have hjl2 : j = R.length := by omega
          have Hw2 : Hid (splR [] R = (D ++ [(R.take j).drop k]) ++ splR [] (R.drop j)) := Lib.hid (by
            have hne : ¬((R.take j).drop k).isEmpty = true := fun h => by have := Hemp.out.1 h; omega
            rw [Hsp.out, Hspj.out, show R.drop j = [] from List.drop_of_length_le (by omega)]
            unfold splR
            rw [if_neg hne]
            simp)
          clear hjl2
          have hsq := Hxq.out.size
          have hsub := ((Hr.out.up Hxq.out).cut_ (k := k) (by omega))
          rw [if_neg (show ¬c = k by omega)] at hsub
          simp only [Rep.n, Nat.mul_one] at hsub
          have hcl : ((R.take j).drop k) = (R.drop k).take (j - k) := List.drop_take ..
          have hsub2 := SL.take_ (k := j - k) (l := R.drop k) (by rw [List.length_drop]; exact hsub) (by rw [List.length_drop]; omega)
          rw [← hcl] at hsub2
          have hcasc : Rns ((R.take j).drop k) := Hasc.out.sub fun r hr => List.mem_of_mem_take (List.mem_of_mem_drop hr)
          generalize (R.take j).drop k = cur at hsub2 hcasc Hw2
          have Hsub2 := Lib.hid hsub2
          have Hcasc := Lib.hid hcasc
          have hjk : ((j : Int) == (k : Int)) = false := by rw [beq_eq_false_iff_ne]; omega
          have hkj2 : (k : Int) ≤ j := by omega
          have hjc : (j : Int) ≤ c := by omega
          clear hsub hsub2 hcasc hcl hxq
          go_wp2_with fail
          refine (rcut_any wq _ cur Hsub2.out Hcasc.out).mono ?_
          rintro e w3 ⟨rfl, hx3⟩
          have Hx3 := Lib.hid (Ext.trans Hxq.out hx3)
          have Hol3 := Lib.hid (Holq.out.ext hx3)
          have hs3 := hx3.size
          have Hsn := Lib.hid (tokI_snoc (D.map (wordR [])) (wordR [] cur))
          rw [List.length_map] at Hsn
          clear hx3
          have hwl := wordR_len cur [] (by simp)
          generalize tokI (D.map (wordR [])) = T at Hol3 Hsn HDt
          generalize hWD : wordR [] cur = WD at Hsn hwl
          have HWD := Lib.hid hWD
          clear hWD
          have hsv := SV.one_ w3 #[.string ⟨WD.toArray⟩, .int .i64 D.length] 83 2 rfl
          have hreps : ∀ W : World, Reps (α := Tx × Int) W (fun k => False ∧ k < W.heap.size ∧ some k ≠ (Value.slice Al D.length cl).ownBlock) [.string ⟨WD.toArray⟩, .int .i64 D.length] [(⟨WD⟩, (D.length : Int))] := fun W => Reps.single ⟨[_], [_], rfl, ⟨rfl, by show WD.length ≤ maxLen; unfold maxLen; omega⟩, rfl, I6.mk (by omega)⟩
          have Hsv := Lib.hid hsv
          have Hreps := Lib.hid hreps
          have HTl : Hid (T.length ≤ 100001) := Lib.hid (by rw [HDt.out]; omega)
          clear hsv hreps
          go_wp2_with (at_builtin; go_loud (refine wpList_append_l _ rfl (.tmp 32) (.tmp 41) 56 rfl w1.heap.size 83 (fun _ => False) (.agg #[.string ⟨#[]⟩, .int .i64 0]) 24 Try.underlying56 info_tok rfl (by decide) (.slice Al D.length cl) T rfl (Hol3.out.ext (Ext.of_alloc w3 _)) (w3.heap.size + 1) (.slice (some ⟨w3.heap.size, 0, none⟩) 1 1) [(⟨WD⟩, (D.length : Int))] [.string ⟨WD.toArray⟩, .int .i64 D.length] rfl Hsv.out (Hreps.out _) (by have := HTl.out; simp <;> omega) (by have := HTl.out; simp <;> omega) (by simp <;> omega) ?_; intro v6 w6 hown6 hg6 hat6; have hx6 : Ext w1 w6 := Below.grown (Ext.al Hx3.out _) hg6 (by simp <;> omega) (fun j hj => Hol3.out.ge j hj); have Hown6 := Lib.hid hown6; have Hx6 := Lib.hid hx6; clear hown6 hg6 hat6 hx6))
          exact ⟨⟨j, D ++ [cur], rfl, by omega, Hw2.out, by rw [List.length_append, List.length_singleton]; omega, by rw [List.map_append, List.map_singleton, HWD.out, Hsn.out]; exact Hown6.out, Hx6.out⟩, by simp only [intOf]; omega⟩
    · have hkl : ¬(k : Int) < R.length := by omega
      have hres : toksR R = D.map (wordR []) := by
        unfold toksR
        rw [Hsp.out, List.drop_of_length_le (by omega)]
        simp [splR]
      have hol2 := Hol.out.base_ hs1
      rw [← hres] at hol2
      have Hol2 := Lib.hid hol2
      clear hres hol2
      go_wp2
      go_ret
      exact ⟨_, rfl, by rw [HRs.out]; exact Hol2.out, Ext.trans Hx1.out Hx.out⟩
end Go.Proofs.Ytbnjhpknagkiaaa
