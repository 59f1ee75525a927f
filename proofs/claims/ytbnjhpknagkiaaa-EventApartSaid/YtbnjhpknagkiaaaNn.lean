/-
  Contract of the reference's Terms; both Terms where the event may not be.
  Conditions: those of each statement.
-/
import Derived.Test.YtbnjhpknagkiaaaNj
import Derived.Test.YtbnjhpknagkiaaaNl
import Derived.Test.YtbnjhpknagkiaaaUl
namespace Go.Proofs.Ytbnjhpknagkiaaa
open Go.RowKit Go.Op

/-- terms made of so many places -/
def Bd (n : Nat) (L : List TG) : Prop := L.length ≤ n ∧ ∀ t ∈ L, t.1.length ≤ 100 ∧ t.2.length ≤ n
theorem addL_bd2 {n : Nat} {s : List UInt8} {p : Int} (hs : s.length ≤ 100) : ∀ {L : List TG}, (∀ t ∈ L, t.1.length ≤ 100 ∧ t.2.length ≤ n) → (addL L (s, p)).length ≤ L.length + 1 ∧ ∀ t ∈ addL L (s, p), t.1.length ≤ 100 ∧ t.2.length ≤ n + 1
| [], _ => ⟨by simp [addL], fun t ht => by
  simp only [addL, List.mem_singleton] at ht
  subst ht
  exact ⟨hs, by simp⟩⟩
| (t, ps) :: L, h2 => by
  have h3 := h2 (t, ps) (by simp)
  rw [addL]
  by_cases e : cmpT t s < 0
  · rw [if_pos e]
    have key := addL_bd2 (n := n) (p := p) hs (L := L) (fun x hx => h2 x (by simp [hx]))
    refine ⟨by simp only [List.length_cons]; omega, fun x hx => ?_⟩
    rcases List.mem_cons.1 hx with hx | hx
    · subst hx
      exact ⟨h3.1, by have := h3.2; dsimp only at this ⊢; omega⟩
    · exact key.2 x hx
  · rw [if_neg e]
    by_cases e2 : t = s
    · rw [if_pos e2]
      refine ⟨by simp only [List.length_cons]; omega, fun x hx => ?_⟩
      rcases List.mem_cons.1 hx with hx | hx
      · subst hx
        exact ⟨h3.1, by have := h3.2; simp only [List.length_append, List.length_singleton] at this ⊢; omega⟩
      · have := h2 x (by simp [hx])
        exact ⟨this.1, by omega⟩
    · rw [if_neg e2]
      refine ⟨by simp only [List.length_cons]; omega, fun x hx => ?_⟩
      rcases List.mem_cons.1 hx with hx | hx
      · subst hx
        exact ⟨hs, by simp⟩
      · have := h2 x hx
        exact ⟨this.1, by omega⟩
theorem addL_bd {n : Nat} {s : List UInt8} {p : Int} (hs : s.length ≤ 100) {L : List TG} (h : Bd n L) : Bd (n + 1) (addL L (s, p)) := by
  have key := addL_bd2 (p := p) hs h.2
  exact ⟨by have := h.1; have := key.1; omega, key.2⟩
theorem addLs_bd : ∀ (l : List Rw) (n : Nat) (L : List TG), Bd n L → (∀ x ∈ l, x.1.length ≤ 100) → Bd (n + l.length) (l.foldl addL L)
  | [], _, _, h, _ => h
  | (s, p) :: l, n, L, h, hl => by
    have := addLs_bd l (n + 1) (addL L (s, p)) (addL_bd (hl (s, p) (by simp)) h) fun x hx => hl x (by simp [hx])
    rw [List.length_cons, show n + (l.length + 1) = n + 1 + l.length by omega]
    exact this
/-- terms of these places, one after the other -/
def addA (l : List Rw) : List TG := l.foldl addL []
theorem addA_bd (l : List Rw) (hl : ∀ x ∈ l, x.1.length ≤ 100) : Bd l.length (addA l) := by
  have := addLs_bd l 0 [] ⟨Nat.le_refl _, fun _ h => by cases h⟩ hl
  rw [Nat.zero_add] at this
  exact this
theorem addA_snoc (l : List Rw) (x : Rw) : addA (l ++ [x]) = addL (addA l) x := by unfold addA; rw [List.foldl_append]; rfl
theorem sl_form {α : Type} [Rep α] {w : World} {S : Nat → Prop} {v : Value} {l : List α} (h : SL w S v l) : ∃ A n c, v = .slice A n c := by
  obtain ⟨A, c, h, _⟩ := h.form
  exact ⟨A, _, c, h⟩
theorem addA_next {fs : List Fld} {k : Nat} (h : k < fs.length) : addA (rawA 0 (fs.take (k + 1))) = addA (rawA 0 (fs.take k) ++ rawF (fdAt fs k) (basN (fs.take k))) := by rw [rawA_next h]

set_option maxHeartbeats 6400000 in
set_option maxRecDepth 100000 in
theorem rterms_ok (w : World) (a : Int) (v : Value) (fs : List Fld) (hv : SL w (Bw w) v fs) (hE : evE (a, fs) = 0) :
    Calls Try.prog 23 #[.agg #[.int .i64 a, v]] w fun e w' => ∃ u, e = .returned u ∧ SL w' (Bw w') u ((addA (rawA 0 fs)).map tgT) ∧ Ext w w' := by
  obtain ⟨hf16, hfE⟩ := evE_spec hE
  have Hnt : Hid (∀ f ∈ fs, f.1.b.length ≤ 32 ∧ f.2.b.length ≤ 4096) := Lib.hid fun f hf => (fldE_spec (fldsE_spec hfE f hf)).2
  obtain ⟨A, c, rfl, hc, hm⟩ := hv.form
  have hx0 := Ext.of_alloc w (.cells #[.int .i64 a, .slice A fs.length c] 40)
  have Hv := Lib.hid (hv.up hx0)
  have Hx0 := Lib.hid hx0
  clear hv hfE hx0
  go_enter Try.func23, Try.ntmps23
  go_wp2_with fail
  refine (rcheck_any _ a _ fs Hv.out).mono ?_
  rintro e w1 ⟨rfl, hx1⟩
  rw [hE]
  have Hx1 := Lib.hid (Ext.trans Hx0.out hx1)
  have Hv1 := Lib.hid (SL.up Hv.out hx1)
  have q1 := Ext.keeps hx1 (cell_new w #[.int .i64 a, .slice A fs.length c] 40 1 (v := .slice A fs.length c) rfl)
  clear hx1
  go_wp2_with fail
  go_loopw [3, 4, 5] (fun lv bv iv wr => ∃ i : Nat, iv = .int .i64 i ∧ i ≤ fs.length ∧ bv = .int .i64 (basN (fs.take i) : Nat) ∧ SL wr (Bw wr) lv ((addA (rawA 0 (fs.take i))).map tgT) ∧ Ext w1 wr) (fun _ _ iv _ => fs.length - (intOf iv).toNat)
  case atStart => exact ⟨0, rfl, Nat.zero_le _, rfl, SL.nil_ _ _, Below.refl _ _⟩
  case round =>
    obtain ⟨i, rfl, hi, rfl, hsl, hx⟩ := hrel
    have p1 := Ext.keeps hx q1
    have Hsl := Lib.hid hsl
    have Hx := Lib.hid hx
    have hble := basN_le (fs.take i) 4096 fun f hf => (Hnt.out f (List.mem_of_mem_take hf)).2
    rw [List.length_take] at hble
    have hble2 : basN (fs.take i) ≤ 100000 := by
      have : min i fs.length * (4096 + 65) ≤ 16 * 4161 := Nat.mul_le_mul (by omega) (by omega)
      omega
    obtain ⟨Al, nl, cl, rfl⟩ := sl_form hsl
    by_cases hlk : i < fs.length
    · have hkl : (i : Int) < fs.length := by omega
      obtain ⟨ad, rfl, _, d0, d1, b0, b1⟩ := (Hv1.out.up hx).fld_at hlk
      have hnt := Hnt.out _ (List.getElem_mem hlk)
      have hnx := addA_next hlk
      have hstep : basN (fs.take (i + 1)) = basN (fs.take i) + (nTok (fs[i]).2.b + 64) := by
        rw [List.take_succ_eq_append_getElem hlk, basN_append]
        simp [basN]
        omega
      rw [fdAt_eq hlk] at hnx
      have hR0l : (rawA 0 (fs.take i)).length ≤ 100000 := Nat.le_trans (rawA_len _ _) hble2
      have hR0t := rawA_text (fs.take i) 0 (fun f hf => (Hnt.out f (List.mem_of_mem_take hf)).1)
      have hRtx := rawA_text (fs.take (i + 1)) 0 (fun f hf => (Hnt.out f (List.mem_of_mem_take hf)).1)
      generalize fs[i] = F at d0 d1 b0 b1 hnt hnx hstep
      obtain ⟨⟨nm⟩, ⟨tx⟩⟩ := F
      dsimp only at d0 d1 b0 b1 hnt hnx hstep
      obtain ⟨hn1, hn2⟩ := hnt
      generalize basN (fs.take i) = b at hble2 hnx hstep ⊢
      generalize hR0 : rawA 0 (fs.take i) = R0 at Hsl hnx hR0l hR0t
      have hnt := nTok_le tx
      have Hnx := Lib.hid hnx
      have Hstep := Lib.hid hstep
      have HR0t := Lib.hid hR0t
      clear hnx hstep hR0 hble hx hsl hR0t hRtx
      go_wp2_with fail
      refine (rtokens_any wr tx (by omega)).mono ?_
      rintro e w2 ⟨vt, rfl, hot, hx2⟩
      obtain ⟨At, ct, rfl, hct, hmt⟩ := hot.form
      have hTl : (tokI (toksR (rns tx))).length = nTok tx := tokI_len _
      have Hsl2 := Lib.hid (Hsl.out.up hx2)
      have Hx2 := Lib.hid (Ext.trans Hx.out hx2)
      have Hot := Lib.hid hot.sl
      have p2 := Ext.keeps hx2 p1
      have e0 := Ext.keeps hx2 d0
      rw [hTl] at Hot hct ⊢
      obtain ⟨m, hm⟩ : ∃ m, m = nTok tx := ⟨_, rfl⟩
      rw [← hm] at Hot hct hnt ⊢
      have Hm := Lib.hid hm
      have HTl := Lib.hid hTl
      clear hot hx2 hm hTl d0 d1 p1
      go_wp2_with fail
      go_loopw [3, 7] (fun lv jv wq => ∃ j : Nat, jv = .int .i64 j ∧ j ≤ m ∧ SL wq (Bw wq) lv ((addA (R0 ++ (rawF (⟨nm⟩, ⟨tx⟩) b).take j)).map tgT) ∧ Ext w2 wq) (fun _ jv _ => m - (intOf jv).toNat)
      case atStart => exact ⟨0, rfl, Nat.zero_le _, by rw [List.take_zero, List.append_nil]; exact Hsl2.out, Below.refl _ _⟩
      case round =>
        rename World => wq
        obtain ⟨j, rfl, hj, hsl, hx⟩ := hrel
        have Hsl3 := Lib.hid hsl
        have Hx3 := Lib.hid hx
        have p3 := Ext.keeps hx p2
        have e3 := Ext.keeps hx e0
        by_cases hjm : j < m
        · have hji : (j : Int) < m := by omega
          have hTj : j < (tokI (toksR (rns tx))).length := by rw [HTl.out, ← Hm.out]; exact hjm
          have hwj : j < (toksR (rns tx)).length := by rw [← tokI_len]; exact hTj
          obtain ⟨adt, rfl, d0, d1⟩ := (Hot.out.up hx).tok_at hTj
          have hte := tokI_at hwj
          have hrf := rawF_at (nm := nm) (b := b) hwj
          rw [hte] at d0 d1
          dsimp only at d0 d1
          have hwl := toksR_len _ _ (List.getElem_mem hwj)
          have hRl : (rawF (⟨nm⟩, ⟨tx⟩) b).length = nTok tx := rawF_len _ _
          have hRt : ∀ x ∈ rawF (⟨nm⟩, ⟨tx⟩) b, x.1.length ≤ 100 := fun x hx => rawA_text [(⟨nm⟩, ⟨tx⟩)] b (by simpa using hn1) x (by simpa [rawA] using hx)
          generalize (toksR (rns tx))[j]'hwj = wd at d0 d1 hrf hwl
          have hsc : (ByteArray.mk nm.toArray ++ ⟨#[58]⟩ ++ ⟨wd.toArray⟩) = ⟨(nm ++ 58 :: wd).toArray⟩ := by
            have e1 : (ByteArray.mk nm.toArray ++ ⟨#[58]⟩) = ⟨(nm ++ [58]).toArray⟩ := ba_cat nm [58]
            rw [e1, ba_cat, List.append_assoc]
            rfl
          have hbd := addA_bd (R0 ++ (rawF (⟨nm⟩, ⟨tx⟩) b).take j) (fun x hx => by
            rcases List.mem_append.1 hx with hx | hx
            · exact HR0t.out x hx
            · exact hRt x (List.mem_of_mem_take hx))
          have hbl : (R0 ++ (rawF (⟨nm⟩, ⟨tx⟩) b).take j).length ≤ 200000 := by
            have := Hm.out
            rw [List.length_append, List.length_take]
            omega
          have hnew : addA (R0 ++ (rawF (⟨nm⟩, ⟨tx⟩) b).take (j + 1)) = addL (addA (R0 ++ (rawF (⟨nm⟩, ⟨tx⟩) b).take j)) (nm ++ 58 :: wd, ((b + j : Nat) : Int)) := by
            rw [hrf, ← List.append_assoc, addA_snoc]
          obtain ⟨Al, nl, cl, rfl⟩ := sl_form hsl
          generalize addA (R0 ++ (rawF (⟨nm⟩, ⟨tx⟩) b).take j) = LL at Hsl3 hbd hnew
          obtain ⟨bj, hbj⟩ : ∃ bj : Nat, bj = b + j := ⟨_, rfl⟩
          have hbji : (b : Int) + (j : Int) = (bj : Int) := by omega
          have hbj6 : bj ≤ 300000 := by omega
          rw [← hbj] at hnew
          have hC : Calls Try.prog 52 #[.slice Al nl cl, .string (⟨nm.toArray⟩ ++ ⟨#[58]⟩ ++ ⟨wd.toArray⟩), .int .i64 bj] wq.drew fun e w' => ∃ u, e = .returned u ∧ SL w' (Bw w') u ((addL LL (nm ++ 58 :: wd, (bj : Int))).map tgT) ∧ Ext wq.drew w' := by
            rw [hsc]
            exact radd_any wq.drew _ LL (nm ++ 58 :: wd) bj (Hsl3.out.up (Ext.drew _)) (by rw [List.length_append, List.length_cons]; omega) (fun t ht => by have := hbd.2 t ht; omega) (by have := hbd.1; omega) (I6.mk (by omega))
          have HC := Lib.hid hC
          have Hnew := Lib.hid hnew
          have ha0 := addField ad (i * 2)
          have hwbj : IntKind.i64.wrap (bj : Int) = bj := by rw [IntKind.wrap_i64]; omega
          have hq1 : ¬9223372036854775807 < nm.length + 1 := by omega
          have hq2 : ¬9223372036854775807 < nm.length + 1 + wd.length := by omega
          clear hte hrf hsc hbd hbl hnew hbj hC hRl hRt hx hsl hwj hTj
          go_wp2_with fail
          go_region_held3 (fun W => W.cell? ⟨w.heap.size, 1, none⟩ = some (.slice (some ad) fs.length c) ∧ W.cell? (ad.add (i * 2)) = some (.string ⟨nm.toArray⟩) ∧ W.cell? (adt.add (j * 2)) = some (.string ⟨wd.toArray⟩) ∧ W.cell? ⟨(adt.add (j * 2)).block, (adt.add (j * 2)).off + 1, none⟩ = some (.int .i64 j))
            (first
              | exact ⟨p3, e3, d0, d1⟩
              | exact ⟨Ext.keeps (Ext.drew _) p3, Ext.keeps (Ext.drew _) e3, Ext.keeps (Ext.drew _) d0, Ext.keeps (Ext.drew _) d1⟩
              | exact ⟨Ext.keeps x5 p3, Ext.keeps x5 e3, Ext.keeps x5 d0, Ext.keeps x5 d1⟩
              | fail)
            (first
              | (go_at_call 52
                 refine HC.out.mono ?_
                 rintro e w5 ⟨u, rfl, hu5, hx5⟩
                 have x5 := Ext.trans (Ext.drew _) hx5
                 have Hu5 := Lib.hid hu5)
              | fail)
          go_wp2
          exact ⟨⟨j + 1, by go_num, by omega, by rw [Hnew.out]; exact Hu5.out, Ext.trans Hx3.out x5⟩, by simp only [intOf]; omega⟩
        · have hji : ¬(j : Int) < m := by omega
          have hfull : (rawF (⟨nm⟩, ⟨tx⟩) b).take j = rawF (⟨nm⟩, ⟨tx⟩) b := List.take_of_length_le (by rw [rawF_len]; dsimp only; rw [← Hm.out]; omega)
          have Hfull := Lib.hid hfull
          obtain ⟨z, hz⟩ : ∃ z : Nat, z = b + (m + 64) := ⟨_, rfl⟩
          have hz1 : (b : Int) + m + 64 = (z : Int) := by omega
          have hz6 : z ≤ 300000 := by omega
          have Hz := Lib.hid hz
          clear hfull hz hx hsl
          go_wp2
          exact ⟨⟨i + 1, by go_num, by omega, congrArg (Value.int .i64) (by rw [Hstep.out, ← Hm.out, ← Hz.out]), by rw [Hnx.out, ← Hfull.out]; exact Hsl3.out, Ext.trans Hx2.out Hx3.out⟩, by simp only [intOf]; omega⟩
    · have hkl : ¬(i : Int) < fs.length := by omega
      have hres : fs.take i = fs := List.take_of_length_le (by omega)
      rw [hres] at Hsl
      clear hres hble hble2 hx hsl
      go_wp2
      go_ret
      exact ⟨_, rfl, Hsl.out, Ext.trans Hx1.out Hx.out⟩
end Go.Proofs.Ytbnjhpknagkiaaa
