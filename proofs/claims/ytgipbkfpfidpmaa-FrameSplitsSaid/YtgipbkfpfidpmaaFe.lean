/-
  Contracts of the reference's Split and Same.
  Conditions: rows of bytes of at most 1,000,000.
-/
import Derived.Test.YtgipbkfpfidpmaaFd
import Derived.Test.YtgipbkfpfidpmaaFs
import Derived.Test.YtgipbkfpfidpmaaEo
import Derived.BigQuiet
namespace Go.Proofs.Ytgipbkfpfidpmaa
open Go.RowKit

set_option maxHeartbeats 1600000 in
set_option maxRecDepth 100000 in
theorem rsplit_any (w : World) (v : Value) (bs : List UInt8) (hv : BS w w.heap.size v bs) (hl : bs.length ≤ 1000000) :
    Calls Try.prog 20 #[v] w fun e w' => ∃ u, e = .returned (.tuple #[u, .int .i64 ((bs.length : Int) - ((sp bs).2.1 : Nat)), .int .i64 ((sp bs).2.2 : Nat)]) ∧ BBS w' w'.heap.size u (sp bs).1 ∧ Ext w w' := by
  obtain ⟨A, c, rfl⟩ := hv.form
  have Hv := Lib.hid hv
  clear hv
  go_enter Try.func20, Try.ntmps20
  go_wp2_with fail
  go_loopw [0, 5] (fun b x wr => ∃ (n : Nat) (r : List UInt8) (done : List (List UInt8)) (vs : List Value), BS wr w.heap.size b r ∧ r.length ≤ n ∧ n ≤ 1000000 ∧ done.length + r.length ≤ bs.length ∧ sp bs = (done ++ (spl n r).1, (spl n r).2) ∧
      wr.ownsRow w.heap.size 22 1 x done.length vs ∧ EachO wr x.ownBlock vs done ∧ Ext w wr)
    (fun b _ _ => match b with | .slice _ n _ => n | _ => 0)
  case atStart => exact ⟨bs.length, bs, [], [], Hv.out, Nat.le_refl _, hl, by simp, by simp [sp], World.ownsRow_nil _ _ _ _, EachO.nil_ _ _, Below.refl _ _⟩
  case round =>
    obtain ⟨n, r, done, vs, hb, hr, hn, hd, hsp, hown, he, hx⟩ := hrel
    obtain ⟨Ab, cb, rfl⟩ := hb.form
    have Hb := Lib.hid hb
    have Hsp := Lib.hid hsp
    have Hown := Lib.hid hown
    have He := Lib.hid he
    have Hx := Lib.hid hx
    clear hb hsp hown he hx
    by_cases h0 : r.length = 0
    · have h0' : ¬(0 : Int) < (r.length : Int) := by omega
      have hE := Hsp.out
      rw [spl_none h0, List.append_nil] at hE
      have HE := Lib.hid hE
      clear hE
      go_wp2
      go_ret3
      refine ⟨u5, ?_, ?_, Hx.out⟩
      · rw [HE.out]
        simp
      · rw [HE.out]
        exact He.out.bbs Hown.out
    · have h0' : (0 : Int) < (r.length : Int) := by omega
      go_wp2_with fail
      refine (rfget_old wr w.heap.size _ r Hb.out Hx.out.size (by omega)).mono ?_
      rintro e w1 ⟨p, q, rfl, hp, hq, hx1⟩
      by_cases hE0 : fgE r = 0
      · obtain ⟨m, rfl⟩ : ∃ m, n = m + 1 := ⟨n - 1, by omega⟩
        have hlt := fgR_lt hE0
        have hspl := spl_ok (n := m) h0 hE0
        have hsp2 : sp bs = ((done ++ [fgP r]) ++ (spl m (fgR r)).1, (spl m (fgR r)).2) := by rw [Hsp.out, hspl, List.append_assoc]; rfl
        have Hsp2 := Lib.hid hsp2
        have Hq := Lib.hid hq
        have Hown1 := Lib.hid (ownsRow_ext Hown.out hx1)
        have Hp := Lib.hid hp
        have He1 := Lib.hid (He.out.up hx1)
        have Hx1 := Lib.hid (Hx.out.trans hx1)
        rw [hE0]
        clear hsp2 hspl hp hq hx1 hE0
        obtain ⟨Aq, cq, rfl⟩ := Hq.out.form
        obtain ⟨Ap, cp, rfl⟩ := Hp.out.form
        generalize fgP r = P at hlt Hsp2 Hp ⊢
        generalize fgR r = R at hlt Hsp2 Hq ⊢
        go_wp2_with (at_builtin; refine wpList_append_sv _ rfl (.tmp 29) (.tmp 31) 36 rfl w.heap.size 22 _ 1 24 Try.underlying36 info_bytes rfl (by omega) u5 done.length vs rfl (ownsRow_ext Hown1.out (Ext.of_alloc _ _)) (w1.heap.size + 1) (.slice (some ⟨w1.heap.size, 0, none⟩) 1 1) 1 [.slice Ap P.length cp] rfl (SV.new_ w1 #[.slice Ap P.length cp] 22 1 1 rfl) (by intro u hu; simp only [List.mem_singleton] at hu; subst hu; rfl) (by omega) (by omega) (by have := Hx1.out.size; simp; omega) ?_; intro v2 w2 hown2 hg2 hat2)
        have hx2 : Ext w w2 := (Hx1.out.trans (Ext.of_alloc _ _)).grown hg2 (Hx1.out.trans (Ext.of_alloc _ _)).size (owns_ge Hown1.out)
        have hb2 : Below w.heap.size w1 w2 := ((Below.refl _ _).alloc Hx1.out.size _).grown hg2 (by have := Hx1.out.size; simp; omega) (owns_ge Hown1.out)
        have he2 : EachO w2 v2.ownBlock (vs ++ [.slice Ap P.length cp]) (done ++ [P]) := by
          refine ((He1.out.up (Ext.of_alloc _ _)).move hg2 hat2).snoc (((Hp.out.below hb2).more hx2.size)) (fun h0 e => ?_)
          obtain ⟨k, hk, hlt⟩ := Hp.out.block_lt h0
          rw [hk] at e
          have := owns_ge hown2 k e.symm
          omega
        have hq2 := Hq.out.below hb2
        have Hq2 := Lib.hid hq2
        have He2 := Lib.hid he2
        have Hown2 := Lib.hid hown2
        have Hx2 := Lib.hid hx2
        clear hq2 he2 hown2 hx2 hg2 hat2 hb2
        go_wp2
        refine ⟨⟨m, R, done ++ [P], _, Hq2.out, by omega, by omega, by rw [List.length_append]; simp; omega, Hsp2.out, ?_, He2.out, Hx2.out⟩, by show R.length < r.length; omega⟩
        rw [List.length_append]
        exact Hown2.out
      · have hspl := spl_err hr h0 hE0
        have hE := Hsp.out
        rw [hspl, List.append_nil] at hE
        have HE := Lib.hid hE
        have hne : ((fgE r : Int) != 0) = true := by rw [bne_iff_ne]; omega
        generalize fgE r = E at HE hne
        have Hown1 := Lib.hid (ownsRow_ext Hown.out hx1)
        have He1 := Lib.hid (He.out.up hx1)
        have Hx1 := Lib.hid (Hx.out.trans hx1)
        clear hE hspl hp hq hx1 hE0
        go_wp2
        go_ret3
        refine ⟨u5, ?_, ?_, Hx1.out⟩
        · rw [HE.out]
          rfl
        · rw [HE.out]
          exact He1.out.bbs Hown1.out

set_option maxHeartbeats 1600000 in
set_option maxRecDepth 100000 in
theorem rsame_any (w : World) (va vb : Value) (l m : List (List UInt8)) (ha : BBS w w.heap.size va l) (hb : BBS w w.heap.size vb m) :
    Calls Try.prog 22 #[va, vb] w fun e w' => e = .returned (.bool (decide (l = m))) ∧ Ext w w' := by
  obtain ⟨A, c, rfl, hc, hm⟩ := ha.form
  obtain ⟨A2, c2, rfl, hc2, hm2⟩ := hb.form
  have Ha := Lib.hid ha
  have Hb := Lib.hid hb
  have hcap : (l.length : Int) ≤ 9223372036854775807 := by unfold maxLen at hm; omega
  clear ha hb hm hm2
  by_cases hlen : l.length = m.length
  · go_enter Try.func22, Try.ntmps22
    go_wp2_with fail
    go_loopw [5] (fun i wr => ∃ k : Nat, i = .int .i64 k ∧ k ≤ l.length ∧ l.take k = m.take k ∧ Ext w wr) (fun i _ => l.length - (intOf i).toNat)
    case atStart => exact ⟨0, rfl, Nat.zero_le _, rfl, Below.refl _ _⟩
    case round =>
      obtain ⟨k, rfl, hk, ht, hx⟩ := hrel
      by_cases hlt : k < l.length
      · obtain ⟨ad, u, rfl, had, hcell, hbs⟩ := (Ha.out.ext (Nat.le_refl _) hx).at_ hlt
        obtain ⟨ad2, u2, rfl, had2, hcell2, hbs2⟩ := (Hb.out.ext (Nat.le_refl _) hx).at_ (show k < m.length by omega)
        have c1 : ∀ n, (convert 22 9 u).run Try.prog (wr.drewN n) = .ok (.string ⟨(l[k]).toArray⟩) (wr.drewN n) := fun n => str_of_bs (hbs.ext (Nat.le_trans (Nat.le_refl _) hx.size) (Ext.drewN wr n)) _ rfl
        have c2 : ∀ n, (convert 22 9 u2).run Try.prog (wr.drewN n) = .ok (.string ⟨(m[k]).toArray⟩) (wr.drewN n) := fun n => str_of_bs (hbs2.ext (Nat.le_trans (Nat.le_refl _) hx.size) (Ext.drewN wr n)) _ rfl
        have htk : l.take (k + 1) = l.take k ++ [l[k]] := List.take_succ_eq_append_getElem hlt
        have htk2 : m.take (k + 1) = m.take k ++ [m[k]] := List.take_succ_eq_append_getElem (show k < m.length by omega)
        have Ht := Lib.hid ht
        have Hx := Lib.hid hx
        clear hbs hbs2 ht hx
        by_cases he : l[k] = m[k]
        · have hne : (l[k] == m[k]) = true := by simp [he]
          have ht1 : l.take (k + 1) = m.take (k + 1) := by rw [htk, htk2, Ht.out, he]
          have Ht1 := Lib.hid ht1
          clear ht1 htk htk2 he
          generalize l[k] = P at c1 hne
          generalize m[k] = Q at c2 hne
          go_wp2
          go_quiet (fail)
          go_wp2
          exact ⟨⟨k + 1, rfl, by omega, Ht1.out, Hx.out.trans (Ext.drewN _ _)⟩, by simp only [intOf]; omega⟩
        · have hne : (l[k] == m[k]) = false := by simp [he]
          have hd : decide (l = m) = false := by
            rw [decide_eq_false_iff_not]
            intro e
            subst e
            exact he rfl
          have Hd := Lib.hid hd
          clear htk htk2 he hd
          generalize l[k] = P at c1 hne
          generalize m[k] = Q at c2 hne
          go_wp2
          go_quiet (fail)
          go_wp2
          go_ret
          exact ⟨by rw [Hd.out]; rfl, Hx.out.trans (Ext.drewN _ _)⟩
      · have hlm : l = m := by
          rw [← List.take_of_length_le (show l.length ≤ k by omega), ht, List.take_of_length_le (by omega)]
        have hd : decide (l = m) = true := by simp [hlm]
        have Hd := Lib.hid hd
        have Hx := Lib.hid hx
        clear hlm ht hx hd
        go_wp2
        go_ret
        exact ⟨by rw [Hd.out]; rfl, Hx.out⟩
  · have hd : decide (l = m) = false := by
      rw [decide_eq_false_iff_not]
      intro e
      exact hlen (by rw [e])
    have hne : ((l.length : Int) != (m.length : Int)) = true := by rw [bne_iff_ne]; omega
    rw [hd]
    clear hd hlen
    go_enter Try.func22, Try.ntmps22
    go_wp2
    go_ret
    exact ⟨rfl, Below.refl _ _⟩

end Go.Proofs.Ytgipbkfpfidpmaa
