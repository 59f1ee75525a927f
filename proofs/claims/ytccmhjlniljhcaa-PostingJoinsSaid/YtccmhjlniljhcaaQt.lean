/-
  Contract of the reference's Decode.
  Conditions: at most 20,000 bytes.
-/
import Derived.Test.YtccmhjlniljhcaaQs
import Derived.Test.YtccmhjlniljhcaaQk
import Derived.Test.YtccmhjlniljhcaaBl
namespace Go.Proofs.Ytccmhjlniljhcaa
open Go.RowKit

set_option maxHeartbeats 4000000 in
set_option maxRecDepth 100000 in
theorem rdecode_any (w : World) (v : Value) (bs : List UInt8) (hv : BS w w.heap.size v bs) (hl : bs.length ≤ 20000) :
    Calls Try.prog 13 #[v] w fun e w' => ∃ u l E, e = .returned (.tuple #[u, .int .i64 (E : Nat)]) ∧ SL w' (Bw w') u l ∧ DecIs bs l E ∧ Ext w w' := by
  obtain ⟨A, c, rfl⟩ := hv.form
  have Hv := Lib.hid hv
  clear hv
  go_enter Try.func13, Try.ntmps13
  go_wp2_with fail
  refine (rnum_any w.heap.size w _ bs 65536 Hv.out (Nat.le_refl _) (by omega) (by decide)).mono ?_
  rintro e w1 ⟨h1, hx1⟩
  have Hx1 := Lib.hid hx1
  have hpr := pref_eq bs
  have hsz1 := hx1.size
  clear hx1
  cases hn1 : num 65536 bs with
  | none =>
    rw [hn1] at h1 hpr
    obtain rfl := h1
    have Hpr := Lib.hid hpr
    clear hpr
    go_wp2
    go_ret2
    exact ⟨_, [], 80, rfl, SL.nil_ _ _, dec_none hl (.inr Hpr.out), Hx1.out⟩
  | some x =>
    obtain ⟨n, r⟩ := x
    rw [hn1] at h1 hpr
    obtain ⟨u, rfl, h1⟩ := h1
    have hl1 := num_len hn1
    simp only at hpr
    have H1 := Lib.hid h1
    clear h1 hn1
    by_cases hnl : n ≤ bs.length
    · rw [if_pos hnl] at hpr
      have Hpr := Lib.hid hpr
      have hd : decide (bs.length < n) = false := decide_eq_false (by omega)
      clear hpr
      go_wp2_with fail
      refine (rheads_any w.heap.size w1 _ r n H1.out hsz1 (by omega) hl1.2).mono ?_
      rintro e w2 ⟨h2, hx2⟩
      have Hx2 := Lib.hid (Ext.trans Hx1.out hx2)
      have hsz2 := Hx2.out.size
      clear hx2
      cases hn2 : hds 65535 1099511627776 ((n + 31) / 32) r with
      | none =>
        rw [hn2] at h2
        obtain rfl := h2
        simp only [hn2] at Hpr
        go_wp2
        go_ret2
        exact ⟨_, [], 80, rfl, SL.nil_ _ _, dec_none hl (.inr Hpr.out), Hx2.out⟩
      | some r2 =>
        rw [hn2] at h2
        simp only [hn2] at Hpr
        obtain ⟨u2, rfl, h2⟩ := h2
        have hr2 : r2.length ≤ bs.length := by
          have : ∀ (m : Nat) (a b : List UInt8), hds 65535 1099511627776 m a = some b → b.length ≤ a.length := by
            intro m
            induction m with
            | zero => intro a b h; simp only [hds, Option.some.injEq] at h; subst h; exact Nat.le_refl _
            | succ m ih =>
              intro a b h
              rw [hds_succ] at h
              cases h1 : num 65535 a with
              | none => rw [h1] at h; cases h
              | some x =>
                obtain ⟨_, a1⟩ := x
                rw [h1] at h
                simp only at h
                cases h2 : num 1099511627776 a1 with
                | none => rw [h2] at h; cases h
                | some y =>
                  obtain ⟨_, a2⟩ := y
                  rw [h2] at h
                  have := ih a2 b h
                  have := num_len h1
                  have := num_len h2
                  omega
          have := this _ _ _ hn2
          omega
        have H2 := Lib.hid h2
        have hni : (n : Int) ≤ 65536 := by omega
        clear h2 hn2
        go_wp2_with fail
        have h0 : wt ([] : List Post) = 0 := rfl
        go_loopw [5, 7, 8, 9] (fun q l la i wr => ∃ (k : Nat) (r : List UInt8) (ls : List Post), i = .int .i64 k ∧ k ≤ n ∧ la = .int .i64 (plast (-1) ls) ∧ -1 ≤ plast (-1) ls ∧ plast (-1) ls ≤ 65537 * (k : Int) ∧ OwnL wr w.heap.size 43 (fun j => w.heap.size ≤ j) l ls ∧
          BS wr w.heap.size q r ∧ Ext w wr ∧ pref bs = postsR (n - k) ls r ∧ wt ls + 10 * r.length ≤ 10 * bs.length) (fun _ _ _ i _ => n - (intOf i).toNat)
        case atStart => exact ⟨0, r2, [], rfl, Nat.zero_le _, rfl, by decide, by decide, OwnL.nil_ _ _ _ _, H2.out, Hx2.out, Hpr.out, by omega⟩
        case round =>
          rename World => wq
          obtain ⟨k, q, ls, rfl, hk, rfl, hla1, hla2, hol, hbq, hx, hpr, hwt⟩ := hrel
          obtain ⟨Al, cl, rfl, _, _⟩ := hol.form
          obtain ⟨Aq, cq, rfl⟩ := hbq.form
          have hszq := hx.size
          have Hol := Lib.hid hol
          have Hbq := Lib.hid hbq
          have Hx := Lib.hid hx
          clear hol hbq hx
          by_cases hlk : k < n
          · have hkl : (k : Int) < n := by omega
            rw [show n - k = (n - (k + 1)) + 1 from by omega, postsR_succ] at hpr
            have Hpr := Lib.hid hpr
            clear hpr
            generalize plast (-1) ls = LA at hla1 hla2 Hpr
            go_wp2_with fail
            refine (rpost_any w.heap.size wq _ q LA Hbq.out hszq (by omega) (by omega) (by omega)).mono ?_
            rintro e w3 ⟨h3, hx3⟩
            have Hx3 := Lib.hid (Ext.trans Hx.out hx3)
            have hol3 := Hol.out.ext hx3
            have hsz3 := hx3.size
            have Hol3 := Lib.hid hol3
            clear hol3 hx3
            cases hp : postP LA q with
            | none =>
              rw [hp] at h3
              obtain rfl := h3
              simp only [hp] at Hpr
              go_wp2
              go_ret2
              exact ⟨_, [], 80, rfl, SL.nil_ _ _, dec_none hl (.inr Hpr.out), Ext.al Hx3.out _⟩
            | some y =>
              obtain ⟨⟨D, ps⟩, q'⟩ := y
              rw [hp] at h3
              simp only [hp] at Hpr
              obtain ⟨up, uq, rfl, h3, h4⟩ := h3
              have hl3 := postP_len hp
              obtain ⟨Ap, cp, rfl, _, _⟩ := h3.form
              obtain ⟨Aq', cq', rfl⟩ := h4.form
              have H3 := Lib.hid h3
              have H4 := Lib.hid h4
              clear h3 h4 hp
              dsimp only at hl3 H3 Hpr
              have hlto : ∀ k, (Value.slice Al ls.length cl).ownBlock = some k → w.heap.size ≤ k ∧ k < wq.heap.size := by
                intro k hk
                obtain ⟨xs, h1, _⟩ := Hol.out
                exact ⟨Hol.out.ge k hk, (World.ownsRow.lt h1 k hk).2⟩
              have hreps : Reps (α := Post) ((w3.alloc (.cells #[.int .i64 D, .slice Ap ps.length cp] 43)).alloc (.cells #[.int .i64 D, .slice Ap ps.length cp] 43)) (fun k => (w.heap.size ≤ k) ∧ k < ((w3.alloc (.cells #[.int .i64 D, .slice Ap ps.length cp] 43)).alloc (.cells #[.int .i64 D, .slice Ap ps.length cp] 43)).heap.size ∧ some k ≠ (Value.slice Al ls.length cl).ownBlock) [.int .i64 D, .slice Ap ps.length cp] [(D, ps)] := by
                refine Reps.single (rep_post (I6.mk (by omega)) ((H3.out.keep (Sm.of_ext (Ext.al (Ext.of_alloc w3 _) _) fun k hk => hk.2)).more fun k hk => ⟨by omega, by have := hk.2; simp; omega, fun e => ?_⟩))
                have := hlto k e.symm
                omega
              have hb3 := Pbox.new w3 D (.slice Ap ps.length cp)
              have hsv := SV.one_ (w3.alloc (.cells #[.int .i64 D, .slice Ap ps.length cp] 43)) #[.int .i64 D, .slice Ap ps.length cp] 43 2 rfl
              rw [World.size_alloc] at hsv
              have Hsv := Lib.hid hsv
              clear hsv
              have Hreps := Lib.hid hreps
              have Hb3 := Lib.hid hb3
              have Hlto := Lib.hid hlto
              have hlsl : ls.length ≤ 1000000 := by have := wt_len ls; omega
              clear hlto hreps hb3
              go_wp2_with (at_builtin; go_loud (refine wpList_append_l _ rfl (.tmp 51) (.tmp 53) 22 rfl w.heap.size 43 (fun j => w.heap.size ≤ j) (.agg #[.int .i64 0, .slice none 0 0]) 32 Try.underlying22 info_post rfl (by decide) (.slice Al ls.length cl) ls rfl (Hol3.out.ext (Ext.al (Ext.of_alloc w3 _) _)) (w3.heap.size + 1 + 1) (.slice (some ⟨w3.heap.size + 1, 0, none⟩) 1 1) [(D, ps)] [.int .i64 D, .slice Ap ps.length cp] rfl Hsv.out Hreps.out (by simp; omega) (by omega) (by simp; omega) ?_; intro v6 w6 hown6 hg6 hat6; generalize hps : ls ++ [(D, ps)] = PS at hown6; obtain ⟨A6, c6, rfl, _, _⟩ := hown6.form; have hk6 : Kept (fun j => (Value.slice Al ls.length cl).ownBlock = some j) (w3.alloc (.cells #[.int .i64 D, .slice Ap ps.length cp] 43)) w6 := (Ext.kept (Ext.of_alloc _ _) _).trans (grown_kept hg6 fun r hr _ => hr); have hb6 := Hb3.out.keep hk6 (fun h => by have := Hlto.out _ h; omega); obtain ⟨p0, p1, pf⟩ := hb6.cell; have Hps := Lib.hid hps; have Hk6 := Lib.hid hk6; have Hown6 := Lib.hid hown6; clear hps hk6 hown6 hg6 hat6 hb6))
              go_roundw
              case rel =>
                obtain rfl := Hps.out
                have hk7 := (Ext.kept (Ext.of_alloc w3 _) _).trans Hk6.out
                have hx6 : Below w.heap.size w3 w6 := hk7.below (by omega) fun k hk => (Hlto.out k hk).1
                refine ⟨k + 1, q', _, rfl, by omega, by rw [plast_snoc], by rw [plast_snoc]; omega, by rw [plast_snoc]; omega, Hown6.out, H4.out.below hx6, Below.trans Hx3.out hx6, Hpr.out, ?_⟩
                rw [wt_append, wt_cons, wt_nil]
                simp only
                omega
              case measure => simp only [intOf]; omega
          · have hkl : ¬(k : Int) < n := by omega
            rw [show n - k = 0 from by omega, postsR_zero] at hpr
            have Hpr := Lib.hid hpr
            clear hpr
            have hsl := Hol.out.sl
            have Hsl := Lib.hid hsl
            clear hsl
            go_wp2_with fail
            cases hok : psOk ls with
            | false =>
              refine (rencode_bad wq _ ls Hsl.out hok).mono ?_
              rintro e w2 ⟨rfl, hx2⟩
              have Hx2 := Lib.hid (Ext.trans Hx.out hx2)
              clear hx2
              go_wp2
              go_ret2
              exact ⟨_, [], 80, rfl, SL.nil_ _ _, dec_other hl (.inr Hpr.out) (.inl hok), Hx2.out⟩
            | true =>
              refine (rencode_ok wq _ ls Hsl.out hok (by omega)).mono ?_
              rintro e w2 ⟨u, rfl, ho, hx2⟩
              have Hx2 := Lib.hid (Ext.trans Hx.out hx2)
              have Hx22 := Lib.hid hx2
              have hbs := Hv.out.ext (Nat.le_refl _) Hx2.out
              have c1 : (convert 23 9 u).run Try.prog w2 = .ok (.string ⟨(penc ls).toArray⟩) w2 := str_of_bs (Own.bs ho) _ rfl
              have c2 : (convert 23 9 (.slice A bs.length c)).run Try.prog w2 = .ok (.string ⟨bs.toArray⟩) w2 := str_of_bs hbs _ rfl
              clear hx2 ho hbs
              by_cases hpe : penc ls = bs
              · have hne : (penc ls == bs) = true := by simp [hpe]
                have Hpe := Lib.hid hpe
                generalize hP : penc ls = P at c1 hne
                clear hpe
                go_wp2
                go_ret2
                exact ⟨_, ls, 0, rfl, SL.up Hsl.out Hx22.out, .inl ⟨rfl, hok, Hpe.out⟩, Hx2.out⟩
              · have hne : (penc ls == bs) = false := by simp [hpe]
                have Hpe := Lib.hid hpe
                generalize hP : penc ls = P at c1 hne
                clear hpe
                go_wp2
                go_ret2
                exact ⟨_, [], 80, rfl, SL.nil_ _ _, dec_other hl (.inr Hpr.out) (.inr Hpe.out), Hx2.out⟩
    · rw [if_neg hnl] at hpr
      have Hpr := Lib.hid hpr
      have hd : decide (bs.length < n) = true := decide_eq_true (by omega)
      clear hpr
      go_wp2
      go_ret2
      exact ⟨_, [], 80, rfl, SL.nil_ _ _, dec_none hl (.inr Hpr.out), Hx1.out⟩

end Go.Proofs.Ytccmhjlniljhcaa
