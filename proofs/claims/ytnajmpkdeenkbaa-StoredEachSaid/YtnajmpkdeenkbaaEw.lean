/-
  Contract of the reference's Decode.
  Conditions: at most 90,000 bytes.
-/
import Derived.Test.YtnajmpkdeenkbaaEr
import Derived.Test.YtnajmpkdeenkbaaEs
import Derived.Test.YtnajmpkdeenkbaaEt
import Derived.Test.YtnajmpkdeenkbaaBl
import Derived.Test.YtnajmpkdeenkbaaVha
namespace Go.Proofs.Ytnajmpkdeenkbaa
open Go.RowKit Go.Op

set_option maxHeartbeats 4000000 in
set_option maxRecDepth 100000 in
theorem srdecode_any (w : World) (v : Value) (bs : List UInt8) (hv : BS w w.heap.size v bs) (hl : bs.length ≤ 90000) :
    Calls Try.prog 14 #[v] w fun e w' => ∃ u l E, e = .returned (.tuple #[u, .int .i64 (E : Nat)]) ∧ SL w' (Bw w') u l ∧ DecIs bs l E ∧ Ext w w' := by
  obtain ⟨A, c, rfl⟩ := hv.form
  have Hv := Lib.hid hv
  clear hv
  have hb40 : bs.length ≤ 1099511627776 := by omega
  go_enter Try.func14, Try.ntmps14
  go_wp2_with fail
  refine (rnum_any w.heap.size w _ bs 65536 Hv.out (Nat.le_refl _) (by omega) (by decide)).mono ?_
  rintro e w1 ⟨h1, hx1⟩
  have Hx1 := Lib.hid hx1
  have hsz1 := hx1.size
  clear hx1
  rcases num_is 65536 bs with ⟨hE, hn, hnum⟩ | ⟨hE, hn, hnum⟩ | ⟨hE, hnum⟩
  · rw [hnum] at h1
    obtain ⟨r, rfl, hr⟩ := h1
    have hB := RdB.start hE
    have hno : bs.length < vgN bs → NoRow bs := fun h => NoRow.head (.inr (.inr h))
    have hrl := hB.len
    generalize vgN bs = n at hB hno hn
    generalize vgRest bs = r1 at hr hB hrl
    obtain ⟨Ar, cr, rfl⟩ := hr.form
    have Hr := Lib.hid hr
    have HB := Lib.hid hB
    have Hno := Lib.hid hno
    clear hr hB hno hE hnum
    by_cases hnl : bs.length < n
    · have hni : decide ((bs.length : Int) < n) = true := decide_eq_true (by omega)
      go_wp2
      go_ret2
      exact ⟨_, [], 120, rfl, SL.nil_ _ _, .inr ⟨Hno.out hnl, rfl, rfl⟩, Hx1.out⟩
    · have hni : decide ((bs.length : Int) < n) = false := decide_eq_false (by omega)
      have hn64 : n < 18446744073709551616 := by omega
      go_wp2_with fail
      go_loopw [5, 7] (fun q i wr => ∃ (k b0 : Nat) (r : List UInt8), i = .int .i64 b0 ∧ b0 = 16 * k ∧ b0 < n + 16 ∧ BS wr w.heap.size q r ∧ RdB bs n (2 * k) r ∧ Ext w wr) (fun _ i _ => n + 16 - (intOf i).toNat)
      case atStart => exact ⟨0, 0, r1, rfl, rfl, by omega, Hr.out, HB.out, Hx1.out⟩
      case round =>
        obtain ⟨k, b0, q, rfl, hb0, hk, hbq, hB, hx⟩ := hrel
        obtain ⟨Aq, cq, rfl⟩ := hbq.form
        have hql := hB.len
        have Hbq := Lib.hid hbq
        have HB2 := Lib.hid hB
        have Hx := Lib.hid hx
        have hszr := hx.size
        have hkn : b0 < n → 2 * k + 1 < 2 * nbk n := fun h => by unfold nbk; omega
        have hkn2 : ¬b0 < n → k = nbk n := fun h => by unfold nbk; omega
        have Hb0 := Lib.hid hb0
        clear hbq hB hx hb0
        by_cases hkM : b0 < n
        · have hki : (b0 : Int) < n := by omega
          have hk1 := hkn hkM
          clear hkn hkn2
          go_wp2_with fail
          refine (rnum_any w.heap.size wr _ q 1099511627776 Hbq.out hszr (by omega) (by decide)).mono ?_
          rintro e w2 ⟨h2, hx2⟩
          have Hx2 := Lib.hid (Ext.trans Hx.out hx2)
          have hsz2 := Hx2.out.size
          have hrl2 := vgRest_len q
          clear hx2
          have hbad : num 1099511627776 q = none → NoRow bs := fun h => HB2.out.bad (by omega) hn64 hb40 (by
            rcases num_is 1099511627776 q with ⟨_, _, h3⟩ | ⟨_, h2, _⟩ | ⟨h2, _⟩
            · rw [h] at h3; cases h3
            · exact .inr h2
            · exact .inl h2)
          cases hnum2 : num 1099511627776 q with
          | none =>
            rw [hnum2] at h2
            obtain rfl := h2
            have Hno2 := Lib.hid (hbad hnum2)
            clear hbad hnum2
            go_wp2_with fail
            refine (rnum_any w.heap.size w2 _ [] 1099511627776 (BS.nil_ _ _) hsz2 (by simp) (by decide)).mono ?_
            rintro e w3 ⟨h3, hx3⟩
            have Hx3 := Lib.hid (Ext.trans Hx2.out hx3)
            clear hx3
            have hn0 : num 1099511627776 [] = none := by rfl
            rw [hn0] at h3
            obtain rfl := h3
            go_wp2
            go_ret2
            exact ⟨_, [], 120, rfl, SL.nil_ _ _, .inr ⟨Hno2.out, rfl, rfl⟩, Hx3.out⟩
          | some x =>
            obtain ⟨n2, r2⟩ := x
            rw [hnum2] at h2
            obtain ⟨u2, rfl, h2⟩ := h2
            have hB3 : RdB bs n (2 * k + 1) r2 := by
              rcases num_is 1099511627776 q with ⟨h4, _, h3⟩ | ⟨_, _, h3⟩ | ⟨_, h3⟩
              · rw [hnum2] at h3
                simp only [Option.some.injEq, Prod.mk.injEq] at h3
                rw [h3.2]
                exact HB2.out.next h4
              · rw [hnum2] at h3; cases h3
              · rw [hnum2] at h3; cases h3
            have hr2l := hB3.len
            have hbad3 : num 1099511627776 r2 = none → NoRow bs := fun h => hB3.bad hk1 hn64 hb40 (by
              rcases num_is 1099511627776 r2 with ⟨_, _, h3⟩ | ⟨_, h2, _⟩ | ⟨h2, _⟩
              · rw [h] at h3; cases h3
              · exact .inr h2
              · exact .inl h2)
            obtain ⟨Ar2, cr2, rfl⟩ := h2.form
            have Hr2 := Lib.hid h2
            have HB3 := Lib.hid hB3
            have Hbad3 := Lib.hid hbad3
            clear h2 hB3 hnum2 hbad hbad3
            go_wp2_with fail
            refine (rnum_any w.heap.size w2 _ r2 1099511627776 Hr2.out hsz2 (by omega) (by decide)).mono ?_
            rintro e w3 ⟨h3, hx3⟩
            have Hx3 := Lib.hid (Ext.trans Hx2.out hx3)
            clear hx3
            cases hnum3 : num 1099511627776 r2 with
            | none =>
              rw [hnum3] at h3
              obtain rfl := h3
              have Hno2 := Lib.hid (Hbad3.out hnum3)
              clear hnum3
              go_wp2
              go_ret2
              exact ⟨_, [], 120, rfl, SL.nil_ _ _, .inr ⟨Hno2.out, rfl, rfl⟩, Hx3.out⟩
            | some y =>
              obtain ⟨n3, r3⟩ := y
              rw [hnum3] at h3
              obtain ⟨u3, rfl, h3⟩ := h3
              have hB4 : RdB bs n (2 * (k + 1)) r3 := by
                rcases num_is 1099511627776 r2 with ⟨h4, _, h5⟩ | ⟨_, _, h5⟩ | ⟨_, h5⟩
                · rw [hnum3] at h5
                  simp only [Option.some.injEq, Prod.mk.injEq] at h5
                  rw [h5.2]
                  exact HB3.out.next h4
                · rw [hnum3] at h5; cases h5
                · rw [hnum3] at h5; cases h5
              obtain ⟨Ar3, cr3, rfl⟩ := h3.form
              have Hr3 := Lib.hid h3
              have HB4 := Lib.hid hB4
              clear h3 hB4 hnum3
              go_wp2
              exact ⟨⟨k + 1, b0 + 16, r3, congrArg (Value.int .i64) (by omega), by have := Hb0.out; omega, by omega, Hr3.out, HB4.out, Hx3.out⟩, by simp only [intOf]; omega⟩
        · have hki : ¬(b0 : Int) < n := by omega
          have hkk := hkn2 hkM
          have HC := Lib.hid (show RdC bs n [] q from RdB.docs (by rw [← hkk]; exact HB2.out))
          clear HB2 hkn hkn2 hkk
          go_wp2_with fail
          go_loopw [5, 14, 15, 16] (fun q l la i wr => ∃ (k : Nat) (r : List UInt8) (ls : List Doc), i = .int .i64 k ∧ k = ls.length ∧ k ≤ n ∧ la = .int .i64 (lastD 0 ls) ∧ lastD 0 ls ≤ 1099511627777 * (k : Int) ∧ OwnL wr w.heap.size 45 (fun j => w.heap.size ≤ j) l ls ∧
            BS wr w.heap.size q r ∧ RdC bs n ls r ∧ Ext w wr) (fun _ _ _ i _ => n - (intOf i).toNat)
          case atStart => exact ⟨0, q, [], rfl, rfl, Nat.zero_le _, rfl, by decide, OwnL.nil_ _ _ _ _, Hbq.out, HC.out, Hx.out⟩
          case round =>
            rename World => wq
            obtain ⟨j, q2, ls, rfl, hjl, hjn, rfl, hLA, hol, hbq2, hC2, hx2⟩ := hrel
            obtain ⟨Al, cl, rfl, _, _⟩ := hol.form
            obtain ⟨Aq2, cq2, rfl⟩ := hbq2.form
            have hszq := hx2.size
            have hql2 := hC2.len
            have hL0 := docsR_last hC2.1
            have hlsl := DocsR.len hC2.1
            have Hol := Lib.hid hol
            have Hbq2 := Lib.hid hbq2
            have HC2 := Lib.hid hC2
            have Hx2 := Lib.hid hx2
            have Hjl := Lib.hid hjl
            clear hol hbq2 hC2 hx2 hjl
            by_cases hjlt : j < n
            · have hji : (j : Int) < n := by omega
              have hlsn : ls.length < n := by have := Hjl.out; omega
              have hnext := fun (e : Ev) (q : List UInt8) => HC2.out.next (e := e) (q := q)
              have hbad := HC2.out.bad hlsn hn64 hb40
              generalize lastD 0 ls = LA at hLA hL0 hnext hbad
              have Hnext := Lib.hid hnext
              have Hbad := Lib.hid hbad
              clear hnext hbad
              go_wp2_with fail
              refine (rnum_any w.heap.size wq _ q2 1099511627776 Hbq2.out hszq (by omega) (by decide)).mono ?_
              rintro e w3 ⟨h3, hx3⟩
              have Hx3 := Lib.hid (Ext.trans Hx2.out hx3)
              have Hol3 := Lib.hid (Hol.out.ext hx3)
              have hsz3 := Hx3.out.size
              have hrl3 := vgRest_len q2
              clear hx3
              rcases num_is 1099511627776 q2 with ⟨hE2, hnq, hnum2⟩ | ⟨hE2, hnq, hnum2⟩ | ⟨hE2, hnum2⟩
              · have Hnx := Lib.hid (fun e q => Hnext.out e q hE2)
                rw [hnum2] at h3
                obtain ⟨u3, rfl, hr3⟩ := h3
                generalize vgN q2 = nq at Hnx Hbad hnq
                generalize vgRest q2 = rq at Hnx Hbad hr3 hrl3
                obtain ⟨Ar3, cr3, rfl⟩ := hr3.form
                have Hr3 := Lib.hid hr3
                clear hr3 hE2 hnum2
                go_wp2_with fail
                refine (rget_ev w.heap.size w3 _ rq Hr3.out hsz3 (by omega)).mono ?_
                rintro e w4 ⟨h4, hx4⟩
                have Hx4 := Lib.hid hx4
                have hx4s := hx4.size
                clear hx4
                cases hev : evG rq with
                | none =>
                  rw [hev] at h4
                  obtain rfl := h4
                  have Hno2 := Lib.hid (Hbad.out (.inr (.inr (.inl hev))))
                  have Hxe := Lib.hid (Ext.al (Ext.trans Hx3.out Hx4.out) (.cells #[.int .i64 0, .slice none 0 0] 43))
                  clear hev
                  go_wp2
                  go_ret2
                  exact ⟨_, [], 120, rfl, SL.nil_ _ _, .inr ⟨Hno2.out, rfl, rfl⟩, Hxe.out⟩
                | some x =>
                  obtain ⟨⟨at_, fs⟩, rx⟩ := x
                  rw [hev] at h4
                  obtain ⟨u4, vf, rfl, hu4, hvf⟩ := h4
                  obtain ⟨Au4, cu4, rfl⟩ := hu4.form
                  obtain ⟨Af, cf, rfl, _⟩ := hvf.form
                  have hC5 := Hnx.out _ _ hev
                  have hevl := evG_len hev
                  dsimp only at hu4 hvf hC5 hevl
                  have Hxe := Lib.hid (Ext.al (Ext.trans Hx3.out Hx4.out) (.cells #[.int .i64 at_, .slice Af fs.length cf] 43))
                  have Hu5 := Lib.hid (hu4.ext (by omega) (Ext.of_alloc w4 (.cells #[.int .i64 at_, .slice Af fs.length cf] 43)))
                  have HC5 := Lib.hid hC5
                  have hlto : ∀ k, (Value.slice Al ls.length cl).ownBlock = some k → w.heap.size ≤ k ∧ k < w3.heap.size := by
                    intro k hk
                    obtain ⟨xs, h1, _⟩ := Hol3.out
                    exact ⟨Hol3.out.ge k hk, (World.ownsRow.lt h1 k hk).2⟩
                  have hsv := SV.one_ (w4.alloc (.cells #[.int .i64 at_, .slice Af fs.length cf] 43)) #[.int .i64 (LA + 1 + (nq : Int)), .int .i64 at_, .slice Af fs.length cf] 45 3 rfl
                  rw [World.size_alloc] at hsv
                  have hol6 : OwnL ((w4.alloc (.cells #[.int .i64 at_, .slice Af fs.length cf] 43)).alloc (.cells #[.int .i64 (LA + 1 + (nq : Int)), .int .i64 at_, .slice Af fs.length cf] 45)) w.heap.size 45 (fun k => w.heap.size ≤ k) (.slice Al ls.length cl) ls :=
                    Hol3.out.ext (Ext.al (Ext.al Hx4.out _) _)
                  have hreps : Reps (α := Doc) ((w4.alloc (.cells #[.int .i64 at_, .slice Af fs.length cf] 43)).alloc (.cells #[.int .i64 (LA + 1 + (nq : Int)), .int .i64 at_, .slice Af fs.length cf] 45)) (fun k => w.heap.size ≤ k ∧ k < ((w4.alloc (.cells #[.int .i64 at_, .slice Af fs.length cf] 43)).alloc (.cells #[.int .i64 (LA + 1 + (nq : Int)), .int .i64 at_, .slice Af fs.length cf] 45)).heap.size ∧ some k ≠ (Value.slice Al ls.length cl).ownBlock) [.int .i64 (LA + 1 + (nq : Int)), .int .i64 at_, .slice Af fs.length cf] [(LA + 1 + (nq : Int), at_, fs)] := by
                    refine Reps.single (rep_doc (I6.mk (by omega)) (I6.mk ⟨hevl.2.2.lo, hevl.2.2.hi⟩) ((hvf.keep (Sm.of_ext (Ext.al (Ext.of_alloc w4 (.cells #[.int .i64 at_, .slice Af fs.length cf] 43)) (.cells #[.int .i64 (LA + 1 + (nq : Int)), .int .i64 at_, .slice Af fs.length cf] 45)) fun k hk => hk.2)).more fun k hk => ⟨by have := hk.1; omega, by have := hk.2; simp; omega, fun e => ?_⟩))
                    have := hlto k e.symm
                    have := hk.1
                    omega
                  have hb5 : VBox (w4.alloc (.cells #[.int .i64 at_, .slice Af fs.length cf] 43)) w4.heap.size at_ (.slice Af fs.length cf) := heap_alloc_new w4 _
                  have Hsv := Lib.hid hsv
                  have Hol6 := Lib.hid hol6
                  have Hreps := Lib.hid hreps
                  have Hlto := Lib.hid hlto
                  have hlsl2 : ls.length ≤ 1000000 := by omega
                  have hqb : w.heap.size ≤ ((w4.alloc (.cells #[.int .i64 at_, .slice Af fs.length cf] 43)).alloc (.cells #[.int .i64 (LA + 1 + (nq : Int)), .int .i64 at_, .slice Af fs.length cf] 45)).heap.size := by rw [World.size_alloc, World.size_alloc]; omega
                  obtain ⟨z0, z1, _⟩ := hb5.cell
                  clear hsv hol6 hreps hlto hev hu4 hvf hC5 hb5
                  go_wp2_with (at_builtin; go_loud (refine wpList_append_l _ rfl (.tmp 90) (.tmp 94) 22 rfl w.heap.size 45 (fun j => w.heap.size ≤ j) (.agg #[.int .i64 0, .int .i64 0, .slice none 0 0]) 40 Try.underlying22 info_doc rfl (by decide) (.slice Al ls.length cl) ls rfl Hol6.out (w4.heap.size + 1 + 1) (.slice (some ⟨w4.heap.size + 1, 0, none⟩) 1 1) [(LA + 1 + (nq : Int), at_, fs)] [.int .i64 (LA + 1 + (nq : Int)), .int .i64 at_, .slice Af fs.length cf] rfl Hsv.out Hreps.out (by simp; omega) (by omega) hqb ?_; intro v6 w6 hown6 hg6 hat6; generalize hps : ls ++ [(LA + 1 + (nq : Int), at_, fs)] = PS at hown6; obtain ⟨A6, c6, rfl, _, _⟩ := hown6.form; have hk6 : Kept (fun j => (Value.slice Al ls.length cl).ownBlock = some j) (w4.alloc (.cells #[.int .i64 at_, .slice Af fs.length cf] 43)) w6 := (Ext.kept (Ext.of_alloc _ _) _).trans (grown_kept hg6 fun r hr _ => hr); have Hps := Lib.hid hps; have Hk6 := Lib.hid hk6; have Hown6 := Lib.hid hown6; clear hps hk6 hown6 hg6 hat6))
                  obtain rfl := Hps.out
                  have hx6 : Below w.heap.size (w4.alloc (.cells #[.int .i64 at_, .slice Af fs.length cf] 43)) w6 := Hk6.out.below Hxe.out.size fun k hk => (Hlto.out k hk).1
                  exact ⟨⟨j + 1, rx, _, rfl, by rw [List.length_append, Hjl.out]; rfl, by omega, by rw [lastD_snoc], by rw [lastD_snoc]; simp only; omega, Hown6.out, Hu5.out.below hx6, HC5.out, Below.trans Hxe.out hx6⟩, by simp only [intOf]; omega⟩
              all_goals
                have Hno2 := Lib.hid (Hbad.out (by first | exact .inl hE2 | exact .inr (.inl hnq)))
                rw [hnum2] at h3
                obtain rfl := h3
                clear hnum2 hE2
                go_wp2_with fail
                refine (rget_ev w.heap.size w3 _ [] (BS.nil_ _ _) hsz3 (by simp)).mono ?_
                rintro e w4 ⟨h4, hx4⟩
                have hev0 : evG [] = none := by rfl
                rw [hev0] at h4
                obtain rfl := h4
                have Hxe := Lib.hid (Ext.al (Ext.trans Hx3.out hx4) (.cells #[.int .i64 0, .slice none 0 0] 43))
                clear hx4
                go_wp2
                go_ret2
                exact ⟨_, [], 120, rfl, SL.nil_ _ _, .inr ⟨Hno2.out, rfl, rfl⟩, Hxe.out⟩
            · have hji : ¬(j : Int) < n := by omega
              obtain rfl : j = n := by omega
              have hdn : ∀ m, Row m → senc m = bs → m = ls := fun m hm hs => HC2.out.done Hjl.out.symm hn64 hb40 hm hs
              have htm := HC2.out.1.tm
              have hsl := Hol.out.sl
              have Hdn := Lib.hid hdn
              have Htm := Lib.hid htm
              have Hsl := Lib.hid hsl
              clear hdn htm hsl
              go_wp2_with fail
              cases hok : sOk ls with
              | false =>
                refine (srencode_bad wq _ ls Hsl.out hok).mono ?_
                rintro e w2 ⟨rfl, hx2⟩
                have Hx3 := Lib.hid (Ext.trans Hx2.out hx2)
                have Hno : Hid (NoRow bs) := Lib.hid fun m hm hs => by
                  have := Hdn.out m hm hs
                  rw [← this, hm.ok] at hok
                  cases hok
                clear hx2 hok
                go_wp2
                go_ret2
                exact ⟨_, [], 120, rfl, SL.nil_ _ _, .inr ⟨Hno.out, rfl, rfl⟩, Hx3.out⟩
              | true =>
                have Hrow : Hid (Row ls) := Lib.hid ⟨hok, Htm.out⟩
                refine (srencode_ok wq _ ls Hsl.out Hrow.out (by omega) (by have := Hjl.out; omega)).mono ?_
                rintro e w2 ⟨u, rfl, ho, hx2⟩
                have Hx3 := Lib.hid hx2
                have Hx4 := Lib.hid (Ext.trans Hx2.out hx2)
                have hbs := Hv.out.ext (Nat.le_refl _) Hx4.out
                have c1 : (convert 23 9 u).run Try.prog w2 = .ok (.string ⟨(senc ls).toArray⟩) w2 := str_of_bs (Own.bs ho) _ rfl
                have c2 : (convert 23 9 (.slice A bs.length c)).run Try.prog w2 = .ok (.string ⟨bs.toArray⟩) w2 := str_of_bs hbs _ rfl
                clear hx2 ho hok hbs
                by_cases hpe : senc ls = bs
                · have hne : (senc ls == bs) = true := by simp [hpe]
                  have Hpe := Lib.hid hpe
                  generalize hP : senc ls = P at c1 hne
                  clear hpe
                  go_wp2
                  go_ret2
                  exact ⟨_, ls, 0, rfl, SL.up Hsl.out Hx3.out, .inl ⟨Hrow.out, Hpe.out, rfl⟩, Hx4.out⟩
                · have Hno : Hid (NoRow bs) := Lib.hid fun m hm hs => by
                    have := Hdn.out m hm hs
                    subst this
                    exact hpe hs
                  have hne : (senc ls == bs) = false := by simp [hpe]
                  generalize hP : senc ls = P at c1 hne
                  clear hpe
                  go_wp2
                  go_ret2
                  exact ⟨_, [], 120, rfl, SL.nil_ _ _, .inr ⟨Hno.out, rfl, rfl⟩, Hx4.out⟩
  · have Hno : Hid (NoRow bs) := Lib.hid (NoRow.head (.inr (.inl hn)))
    rw [hnum] at h1
    obtain rfl := h1
    clear hE hnum hn
    go_wp2
    go_ret2
    exact ⟨_, [], 120, rfl, SL.nil_ _ _, .inr ⟨Hno.out, rfl, rfl⟩, Hx1.out⟩
  · have Hno : Hid (NoRow bs) := Lib.hid (NoRow.head (.inl hE))
    rw [hnum] at h1
    obtain rfl := h1
    clear hE hnum
    go_wp2
    go_ret2
    exact ⟨_, [], 120, rfl, SL.nil_ _ _, .inr ⟨Hno.out, rfl, rfl⟩, Hx1.out⟩

end Go.Proofs.Ytnajmpkdeenkbaa
