/-
  Contract of token.Tokens.
  Conditions: at most 100,000 bytes.
-/
import Derived.Test.YtbnjhpknagkiaaaUd
import Derived.WalkMore
namespace Go.Proofs.Ytbnjhpknagkiaaa
open Go.RowKit Go.Op

theorem info_tok : (Try.prog.info? 83).map (fun i => (i.zero, i.size, i.bytes)) = some (some (.agg #[.string ⟨#[]⟩, .int .i64 0]), 2, 24) := by kernel_rfl
theorem Rns.snoc {l : List Int} (h : Rns l) : Rns (l ++ [32]) := by
  intro r hr
  rcases List.mem_append.1 hr with hr | hr
  · exact h r hr
  · simp only [List.mem_singleton] at hr
    subst hr
    exact ⟨by decide, by decide, by decide⟩
theorem Rns.sub {l m : List Int} (h : Rns l) (hs : ∀ r ∈ m, r ∈ l) : Rns m := fun r hr => h r (hs r hr)
theorem wordR_len : ∀ (l : List Int) (acc : List UInt8), acc.length ≤ 32 → (wordR acc l).length ≤ 32
  | [], _, h => h
  | r :: l, acc, h => by
    unfold wordR
    split
    · exact h
    · exact wordR_len l _ (by rw [List.length_append]; omega)
theorem last32 {R R' : List Int} (h : R ++ [32] = R') (k : Nat) (hk : k < R'.length) (he : k + 1 = R'.length) : R'[k] = 32 := by
  subst h
  rw [List.length_append, List.length_singleton] at he
  rw [List.getElem_append_right (by omega)]
  simp
theorem SL.int_at' {w : World} {S : Nat → Prop} {A : Option Addr} {c n : Nat} {l : List Int} (h : SL w S (.slice A n c) l) {i : Nat} (hi : i < l.length) : ∃ ad, A = some ad ∧ S ad.block ∧ w.cell? (ad.add i) = some (.int .i64 l[i]) ∧ I6 l[i] := by
  obtain ⟨ad, cs, rfl, hS, ⟨rfl, h6⟩, hc⟩ := h.at_ hi
  have := hc 0 _ rfl
  simp only [Rep.n, Nat.mul_one, Nat.add_zero] at this
  exact ⟨ad, rfl, hS, this, h6⟩

set_option maxHeartbeats 3200000 in
set_option maxRecDepth 100000 in
theorem tokens_any (w : World) (s : List UInt8) (hl : s.length ≤ 100000) :
    Calls Try.prog 48 #[.string ⟨s.toArray⟩] w fun e w' => ∃ v, e = .returned v ∧ OwnL w' w.heap.size 83 (fun _ => False) v (tokI (toksR (rns s))) ∧ Ext w w' := by
  go_enter Try.func48, Try.ntmps48
  go_wp2_with fail
  go_step3
  go_wp2_with fail
  refine (runes_any w s hl).mono ?_
  rintro e w0 ⟨vr, rfl, hol, hx0⟩
  obtain ⟨Ar, cr, rfl, hcr, hmr⟩ := hol.form
  have hasc := Rns.snoc (rns_r s)
  have hrl := rns_le s
  have htk : splR [] (rns s) = splR [] (rns s ++ [32]) := (splR_end _ _).symm
  have Htoks : Hid (toksR (rns s) = (splR [] (rns s ++ [32])).map (wordR [])) := Lib.hid (by unfold toksR; rw [htk])
  generalize hRs : rns s = R at hol hasc hrl htk Htoks hcr ⊢
  have HRs := Lib.hid hRs
  clear hRs
  have hRlen : R.length ≤ 100000 := by omega
  clear hrl
  have HRl : Hid ((R ++ [32]).length ≤ 100001) := Lib.hid (by rw [List.length_append, List.length_singleton]; omega)
  have hsv := SV.one_ w0 #[.int .i64 32] 3 1 rfl
  have hreps : ∀ W : World, Reps (α := Int) W (fun k => False ∧ k < W.heap.size ∧ some k ≠ (Value.slice Ar R.length cr).ownBlock) [.int .i64 32] [(32 : Int)] := fun W => Reps.single ⟨rfl, I6.mk (by decide)⟩
  have Hsv := Lib.hid hsv
  have Hol := Lib.hid hol
  have Hasc := Lib.hid hasc
  have Hx0 := Lib.hid hx0
  have hs0 := hx0.size
  clear hsv hol hasc htk hx0
  go_wp2_with (at_builtin; go_loud (refine wpList_append_l _ rfl (.tmp 9) (.tmp 10) 50 rfl w.heap.size 3 (fun _ => False) (.int .i64 0) 8 Try.underlying50 info_int rfl (by decide) (.slice Ar R.length cr) R rfl (Hol.out.ext (Ext.of_alloc w0 _)) (w0.heap.size + 1) (.slice (some ⟨w0.heap.size, 0, none⟩) 1 1) [(32 : Int)] [.int .i64 32] rfl Hsv.out (hreps _) (by simp <;> omega) (by omega) (by simp <;> omega) ?_; intro v1 w1 hown1 hg1 hat1; have hx1 : Ext w w1 := Below.grown (Ext.al Hx0.out _) hg1 (by simp <;> omega) (fun j hj => Hol.out.ge j hj); generalize hR' : R ++ [32] = R' at hown1 HRl; obtain ⟨A, c, rfl, hc, hm⟩ := hown1.form; have HR' := Lib.hid hR'; have Hr := Lib.hid hown1.sl; have Hx1 := Lib.hid hx1; clear hown1 hg1 hat1 hx1 hR' hreps))
  rw [HR'.out] at Hasc Htoks
  have hs1 := Hx1.out.size
  have hRl := HRl.out
  have Hlast := Lib.hid (last32 HR'.out)
  clear HR' Hsv Hol
  go_step3
  go_wp2_with fail
  go_loopw [3, 5, 14] (fun o f i wr => ∃ (k f0 : Nat) (D : List (List Int)), i = .int .i64 k ∧ k ≤ R'.length ∧ f = .int .i64 f0 ∧ f0 ≤ k ∧ splR [] R' = D ++ splR ((R'.take k).drop f0) (R'.drop k) ∧ D.length ≤ k ∧ (k = R'.length → f0 = k) ∧
    OwnL wr w1.heap.size 83 (fun _ => False) o (tokI (D.map (wordR []))) ∧ Ext w1 wr) (fun _ _ i _ => R'.length - (intOf i).toNat)
  case atStart => exact ⟨0, 0, [], rfl, Nat.zero_le _, rfl, Nat.le_refl _, by simp, by simp, fun _ => rfl, OwnL.nil_ _ _ _ _, Below.refl _ _⟩
  case round =>
    obtain ⟨k, f0, D, rfl, hk, rfl, hf, hsp, hDl, hend, hol, hx⟩ := hrel
    have Hend := Lib.hid hend
    clear hend
    obtain ⟨Al, cl, rfl, hclo, hmo⟩ := hol.form
    have hDt : (tokI (D.map (wordR []))).length = D.length := by rw [tokI_len, List.length_map]
    rw [hDt] at hol hclo ⊢
    have HDt := Lib.hid hDt
    clear hDt
    have hsz := hx.size
    have Hol := Lib.hid hol
    have Hx := Lib.hid hx
    have Hsp := Lib.hid hsp
    clear hol hsp
    by_cases hlk : k < R'.length
    · have hkl : (k : Int) < R'.length := by omega
      obtain ⟨ad, rfl, _, d0, h6⟩ := Hr.out.int_at' hlk
      have q0 := Ext.keeps hx d0
      have hdr := List.drop_eq_getElem_cons hlk
      have htk : R'.take (k + 1) = R'.take k ++ [R'[k]] := List.take_succ_eq_append_getElem hlk
      have hlen : (R'.take k).length = k := by rw [List.length_take]; omega
      have hl32 := Hlast.out k hlk
      generalize hr : R'[k] = r at d0 q0 h6 hdr htk hl32
      have Hl32 := Lib.hid hl32
      have hstep := fun cur => (show splR cur (r :: R'.drop (k + 1)) = if isWd r = true then splR (cur ++ [r]) (R'.drop (k + 1)) else if cur.isEmpty then splR [] (R'.drop (k + 1)) else cur :: splR [] (R'.drop (k + 1)) from rfl)
      have hcur : (R'.take (k + 1)).drop f0 = (R'.take k).drop f0 ++ [r] := by rw [htk, List.drop_append_of_le_length (by omega)]
      have hcur0 : (R'.take (k + 1)).drop (k + 1) = [] := by rw [List.drop_of_length_le (by rw [List.length_take]; omega)]
      have hemp : ((R'.take k).drop f0).isEmpty = true ↔ f0 = k := by rw [List.isEmpty_iff_length_eq_zero, List.length_drop, hlen]; omega
      have Hdr := Lib.hid hdr
      have Hstep := Lib.hid hstep
      have Hcur := Lib.hid hcur
      have Hcur0 := Lib.hid hcur0
      have Hemp := Lib.hid hemp
      have Hlen := Lib.hid hlen
      clear d0 hx hr hl32 hdr htk hstep hcur hcur0 hemp hlen
      go_wp2_with fail
      refine (isword_any wr r).mono ?_
      rintro e w2 ⟨rfl, hx2⟩
      have Hx2 := Lib.hid (Ext.trans Hx.out hx2)
      have Hol2 := Lib.hid (Hol.out.ext hx2)
      have hs2 := hx2.size
      clear hx2
      cases hw : isWd r with
      | true =>
        have Hw := Lib.hid hw
        clear hw
        go_wp2_with fail
        refine ⟨⟨k + 1, f0, D, rfl, by omega, rfl, by omega, ?_, by omega, fun he => ?_, Hol2.out, Hx2.out⟩, by simp only [intOf]; omega⟩
        · rw [Hsp.out, Hdr.out, Hstep.out, if_pos Hw.out, Hcur.out]
        · have h1 := Hw.out
          rw [Hl32.out he] at h1
          cases h1
      | false =>
        have Hw := Lib.hid hw
        clear hw
        by_cases hfk : f0 = k
        · have hfi : ¬(f0 : Int) < k := by omega
          have Hfk := Lib.hid hfk
          clear hfk
          go_wp2_with fail
          refine ⟨⟨k + 1, k + 1, D, rfl, by omega, rfl, Nat.le_refl _, ?_, by omega, fun _ => rfl, Hol2.out, Hx2.out⟩, by simp only [intOf]; omega⟩
          rw [Hsp.out, Hdr.out, Hstep.out, if_neg (by rw [Hw.out]; decide), if_pos (Hemp.out.2 Hfk.out), Hcur0.out]
        · have hfi : (f0 : Int) < k := by omega
          have hfc : ¬ c = f0 := by omega
          have hsub := ((Hr.out.up Hx2.out).cut_ (k := f0) (by omega))
          rw [if_neg hfc] at hsub
          simp only [Rep.n, Nat.mul_one, Option.map_some] at hsub
          have hcl : ((R'.take k).drop f0) = (R'.drop f0).take (k - f0) := List.drop_take ..
          have hsub2 := SL.take_ (k := k - f0) (l := R'.drop f0) (by rw [List.length_drop]; exact hsub) (by rw [List.length_drop]; omega)
          rw [← hcl] at hsub2
          have hcne : (R'.take k).drop f0 ≠ [] := fun h => hfk (Hemp.out.1 (by rw [h]; rfl))
          have hcasc : Rns ((R'.take k).drop f0) := Hasc.out.sub fun r hr => List.mem_of_mem_take (List.mem_of_mem_drop hr)
          have Hw2 : Hid (splR [] R' = (D ++ [(R'.take k).drop f0]) ++ splR ((R'.take (k + 1)).drop (k + 1)) (R'.drop (k + 1))) := Lib.hid (by
            rw [Hsp.out, Hdr.out, Hstep.out, if_neg (by rw [Hw.out]; decide), if_neg (fun h => hfk (Hemp.out.1 h)), Hcur0.out, List.append_assoc]
            rfl)
          generalize (R'.take k).drop f0 = cur at hsub2 hcne hcasc Hw2
          have Hsub2 := Lib.hid hsub2
          have Hcne := Lib.hid hcne
          have Hcasc := Lib.hid hcasc
          clear hsub hsub2 hcne hcasc hcl hfk
          go_wp2_with fail
          refine (word_any w2 _ cur Hsub2.out Hcasc.out Hcne.out).mono ?_
          rintro e w3 ⟨rfl, hx3⟩
          have Hx3 := Lib.hid (Ext.trans Hx2.out hx3)
          have Hol3 := Lib.hid (Hol2.out.ext hx3)
          have hs3 := hx3.size
          have Hsn := Lib.hid (tokI_snoc (D.map (wordR [])) (wordR [] cur))
          rw [List.length_map] at Hsn
          clear hx3
          generalize tokI (D.map (wordR [])) = T at Hol3 Hsn HDt
          have hwl := wordR_len cur [] (by simp)
          generalize hWD : wordR [] cur = WD at Hsn hwl
          have HWD := Lib.hid hWD
          clear hWD
          have hsv := SV.one_ w3 #[.string ⟨WD.toArray⟩, .int .i64 D.length] 83 2 rfl
          have hreps : ∀ W : World, Reps (α := Tx × Int) W (fun k => False ∧ k < W.heap.size ∧ some k ≠ (Value.slice Al D.length cl).ownBlock) [.string ⟨WD.toArray⟩, .int .i64 D.length] [(⟨WD⟩, (D.length : Int))] := fun W => Reps.single ⟨[_], [_], rfl, ⟨rfl, by show WD.length ≤ maxLen; unfold maxLen; omega⟩, rfl, I6.mk (by omega)⟩
          have Hsv := Lib.hid hsv
          have Hreps := Lib.hid hreps
          have HTl : Hid (T.length ≤ 100001) := Lib.hid (by rw [HDt.out]; omega)
          clear hsv hreps
          go_wp2_with (at_builtin; go_loud (refine wpList_append_l _ rfl (.tmp 24) (.tmp 33) 56 rfl w1.heap.size 83 (fun _ => False) (.agg #[.string ⟨#[]⟩, .int .i64 0]) 24 Try.underlying56 info_tok rfl (by decide) (.slice Al D.length cl) T rfl (Hol3.out.ext (Ext.of_alloc w3 _)) (w3.heap.size + 1) (.slice (some ⟨w3.heap.size, 0, none⟩) 1 1) [(⟨WD⟩, (D.length : Int))] [.string ⟨WD.toArray⟩, .int .i64 D.length] rfl Hsv.out (Hreps.out _) (by have := HTl.out; simp <;> omega) (by have := HTl.out; simp <;> omega) (by simp <;> omega) ?_; intro v6 w6 hown6 hg6 hat6; have hx6 : Ext w1 w6 := Below.grown (Ext.al Hx3.out _) hg6 (by simp <;> omega) (fun j hj => Hol3.out.ge j hj); have Hown6 := Lib.hid hown6; have Hx6 := Lib.hid hx6; clear hown6 hg6 hat6 hx6))
          exact ⟨⟨k + 1, k + 1, D ++ [cur], rfl, by omega, rfl, Nat.le_refl _, Hw2.out, by rw [List.length_append, List.length_singleton]; omega, fun _ => rfl, by rw [List.map_append, List.map_singleton, HWD.out, Hsn.out]; exact Hown6.out, Hx6.out⟩, by simp only [intOf]; omega⟩
    · have hkl : ¬(k : Int) < R'.length := by omega
      have hkk : k = R'.length := by omega
      have hres : toksR R = D.map (wordR []) := by
        rw [Htoks.out, Hsp.out, Hend.out hkk, List.drop_of_length_le (by rw [List.length_take]; omega), List.drop_of_length_le (by omega)]
        simp [splR]
      have hol2 := Hol.out.base_ hs1
      rw [← hres] at hol2
      have Hol2 := Lib.hid hol2
      clear hres hol2 hkk hx
      go_wp2
      go_ret
      exact ⟨_, rfl, by rw [HRs.out]; exact Hol2.out, Ext.trans Hx1.out Hx.out⟩
end Go.Proofs.Ytbnjhpknagkiaaa
