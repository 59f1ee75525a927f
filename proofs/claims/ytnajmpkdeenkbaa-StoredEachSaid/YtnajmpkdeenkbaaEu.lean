/-
  Contract of stored.Decode.
  Conditions: at most 90,000 bytes.
-/
import Derived.Test.YtnajmpkdeenkbaaEp
import Derived.Test.YtnajmpkdeenkbaaEs
import Derived.Test.YtnajmpkdeenkbaaEt
import Derived.Test.YtnajmpkdeenkbaaVha
namespace Go.Proofs.Ytnajmpkdeenkbaa
open Go.RowKit Go.Op

/-- a doc's own block -/
def TBox (W : World) (B : Nat) (s a : Int) (v : Value) : Prop := W.heap[B]? = some (.cells #[.int .i64 s, .int .i64 a, v] 45 (0, 0))
theorem TBox.cell {W : World} {B : Nat} {s a : Int} {v : Value} (h : TBox W B s a v) : W.cell? ⟨B, 0, none⟩ = some (.int .i64 s) ∧ W.cell? ⟨B, 1, none⟩ = some (.int .i64 a) ∧ W.cell? ⟨B, 2, none⟩ = some v ∧ W.frozen? ⟨B, 1, none⟩ = false ∧ W.frozen? ⟨B, 2, none⟩ = false := by
  simp [World.cell?, World.frozen?, show W.heap[B]? = _ from h]
theorem TBox.lt {W : World} {B : Nat} {s a : Int} {v : Value} (h : TBox W B s a v) : B < W.heap.size := (Array.getElem?_eq_some_iff.1 h).1
theorem TBox.ext {W W' : World} {B : Nat} {s a : Int} {v : Value} (h : TBox W B s a v) (hx : Ext W W') : TBox W' B s a v := (hx.block B h.lt).trans h
theorem TBox.set {W : World} {B : Nat} {s a a' : Int} {v v' : Value} (h : TBox W B s a v) : TBox ((W.setCell ⟨B, 1, none⟩ (.int .i64 a')).setCell ⟨B, 2, none⟩ v') B s a' v' := by
  obtain ⟨hlt, hk⟩ := Array.getElem?_eq_some_iff.1 h
  have h1 : (W.setCell ⟨B, 1, none⟩ (.int .i64 a')).heap[B]? = some (.cells #[.int .i64 s, .int .i64 a', v] 45 (0, 0)) := by
    show (W.heap.modify B _)[B]? = _
    rw [Array.getElem?_eq_getElem (by rw [Array.size_modify]; exact hlt), Array.getElem_modify_self, hk]
    rfl
  obtain ⟨hlt1, hk1⟩ := Array.getElem?_eq_some_iff.1 h1
  show ((W.setCell ⟨B, 1, none⟩ (.int .i64 a')).heap.modify B _)[B]? = _
  rw [Array.getElem?_eq_getElem (by rw [Array.size_modify]; exact hlt1), Array.getElem_modify_self, hk1]
  rfl
theorem kept12 (W : World) (B : Nat) (u v : Value) : Kept (fun k => k = B) W ((W.setCell ⟨B, 1, none⟩ u).setCell ⟨B, 2, none⟩ v) :=
  (Kept.setCell (fun k => k = B) W ⟨B, 1, none⟩ u rfl).trans (Kept.setCell (fun k => k = B) _ ⟨B, 2, none⟩ v rfl)

set_option maxHeartbeats 800000 in
theorem sencode_bad (w : World) (v : Value) (l : List Doc) (hv : SL w (Bw w) v l) (hok : sOk l = false) :
    Calls Try.prog 11 #[v] w fun e w' => e = .returned (.tuple #[.slice none 0 0, .int .i64 120]) ∧ Ext w w' := by
  have He := Lib.hid (show errS l = 120 by unfold errS; rw [hok]; rfl)
  clear hok
  go_enter Try.func11, Try.ntmps11
  go_wp2_with fail
  refine (scheck_any w v l hv).mono ?_
  rintro e w1 ⟨rfl, hx1⟩
  rw [He.out]
  go_wp2
  go_ret2
  exact ⟨rfl, hx1⟩

/-- a row of the call's own, whose references lead to blocks of the call's own -/
theorem OwnL.sl_from {α : Type} [Rep α] {w : World} {base : Nat} {e : TypeId} {v : Value} {l : List α} (h : OwnL w base e (fun k => base ≤ k) v l) : SL w (fun k => base ≤ k ∧ k < w.heap.size) v l := by
  obtain ⟨xs, h1, h2⟩ := h
  obtain ⟨A, c, hv, k1, k2, k3, k4⟩ := ownsRow_form h1
  refine ⟨A, c, xs, hv, k1, k2, k3, ⟨k4.1, fun hn => ?_⟩, h2.more fun k hk => ⟨hk.1, hk.2.1⟩⟩
  obtain ⟨ad, e, hb, hc⟩ := k4.2 hn
  refine ⟨ad, e, ⟨?_, hb⟩, hc⟩
  exact owns_ge h1 ad.block (by rw [hv, e]; rfl)

set_option maxHeartbeats 4000000 in
set_option maxRecDepth 100000 in
theorem sdecode_own (w : World) (v : Value) (bs : List UInt8) (hv : BS w w.heap.size v bs) (hl : bs.length ≤ 90000) :
    Calls Try.prog 13 #[v] w fun e w' => ∃ u l E, e = .returned (.tuple #[u, .int .i64 (E : Nat)]) ∧ SL w' (fun k => w.heap.size ≤ k ∧ k < w'.heap.size) u l ∧ DecIs bs l E ∧ Ext w w' := by
  obtain ⟨A, c, rfl⟩ := hv.form
  have Hv := Lib.hid hv
  clear hv
  have hb40 : bs.length ≤ 1099511627776 := by omega
  go_enter Try.func13, Try.ntmps13
  go_wp2_with fail
  refine (get_any w w.heap.size _ bs Hv.out (Nat.le_refl _) (by omega)).mono ?_
  rintro e w1 ⟨r, rfl, hr, hx1⟩
  have Hx1 := Lib.hid hx1
  clear hx1
  by_cases hE : vgE bs = 0
  · have hB := RdB.start hE
    have hno : 65536 < vgN bs → NoRow bs := fun h => NoRow.head (.inr (.inl h))
    have hrl := hB.len
    rw [hE]
    generalize vgN bs = n at hB hno
    generalize vgRest bs = r1 at hr hB hrl
    obtain ⟨Ar, cr, rfl⟩ := hr.form
    have Hr := Lib.hid hr
    have HB := Lib.hid hB
    have Hno := Lib.hid hno
    clear hr hB hno hE
    by_cases hn : 65536 < n
    · have hni : (65536 : Int) < n := by omega
      go_wp2
      go_ret2
      exact ⟨_, [], 120, rfl, SL.nil_ _ _, .inr ⟨Hno.out hn, rfl, rfl⟩, Hx1.out⟩
    · have hni : decide ((65536 : Int) < n) = false := decide_eq_false (by omega)
      have hn64 : n < 18446744073709551616 := by omega
      obtain ⟨M, hM⟩ : ∃ M, M = 2 * nbk n := ⟨_, rfl⟩
      have hMl : M ≤ 10000 := by unfold nbk at hM; omega
      have u1 : (n : Int) + 16 - 1 = (n : Int) + 15 := by omega
      have u2 : ((n : Int) + 15).tdiv 16 = ((nbk n : Nat) : Int) := by
        rw [Int.tdiv_eq_ediv_of_nonneg (by omega)]
        unfold nbk
        omega
      have u3 : (2 : Int) * ((nbk n : Nat) : Int) = (M : Int) := by omega
      have HM := Lib.hid hM
      clear hM
      go_wp2_with fail
      go_loopw [5, 6, 31] (fun q e i wr => ∃ (k : Nat) (r : List UInt8), i = .int .u64 k ∧ k ≤ M ∧ e = .int .i64 0 ∧ BS wr w.heap.size q r ∧ RdB bs n k r ∧ Ext w wr) (fun _ _ i _ => M - (intOf i).toNat)
      case atStart => exact ⟨0, r1, rfl, Nat.zero_le _, rfl, Hr.out, HB.out, Hx1.out⟩
      case round =>
        obtain ⟨k, q, rfl, hk, rfl, hbq, hB, hx⟩ := hrel
        obtain ⟨Aq, cq, rfl⟩ := hbq.form
        have hql := hB.len
        have Hbq := Lib.hid hbq
        have HB2 := Lib.hid hB
        have Hx := Lib.hid hx
        have hszr := hx.size
        clear hbq hB hx
        by_cases hkM : k < M
        · have hki : (k : Int) < M := by omega
          go_wp2_with fail
          refine (get_any wr w.heap.size _ q Hbq.out hszr (by omega)).mono ?_
          rintro e w2 ⟨r2, rfl, hr2, hx2⟩
          have Hx2 := Lib.hid (Ext.trans Hx.out hx2)
          clear hx2
          by_cases hE2 : vgE q = 0
          · have hB3 := HB2.out.next hE2
            rw [hE2]
            generalize vgN q = nq
            generalize vgRest q = rq at hB3 hr2
            obtain ⟨Ar2, cr2, rfl⟩ := hr2.form
            have Hr2 := Lib.hid hr2
            have HB3 := Lib.hid hB3
            clear hr2 hB3 hE2
            go_wp2
            exact ⟨⟨k + 1, rq, rfl, by omega, rfl, Hr2.out, HB3.out, Hx2.out⟩, by simp only [intOf]; omega⟩
          · have hE' : ((vgE q : Int) != 0) = true := by rw [bne_iff_ne]; omega
            have Hno2 : Hid (NoRow bs) := Lib.hid (HB2.out.bad (by have := HM.out; omega) hn64 hb40 (.inl hE2))
            generalize vgE q = E at hE'
            clear hE2 hr2
            go_wp2
            go_ret2
            exact ⟨_, [], 120, rfl, SL.nil_ _ _, .inr ⟨Hno2.out, rfl, rfl⟩, Hx2.out⟩
        · have hki : ¬(k : Int) < M := by omega
          obtain rfl : k = M := by omega
          have HC := Lib.hid (show RdC bs n [] q from RdB.docs (by rw [← HM.out]; exact HB2.out))
          clear HB2
          go_wp2_with fail
          go_loopw [5, 7, 8, 43] (fun q l la i wr => ∃ (k : Nat) (r : List UInt8) (ls : List Doc), i = .int .u64 k ∧ k = ls.length ∧ k ≤ n ∧ la = .int .i64 (lastD 0 ls) ∧ lastD 0 ls ≤ 1099511627776 ∧ OwnL wr w.heap.size 45 (fun j => w.heap.size ≤ j) l ls ∧
            BS wr w.heap.size q r ∧ RdC bs n ls r ∧ Ext w wr) (fun _ _ _ i _ => n - (intOf i).toNat)
          case atStart => exact ⟨0, q, [], rfl, rfl, Nat.zero_le _, rfl, by decide, OwnL.nil_ _ _ _ _, Hbq.out, HC.out, Hx.out⟩
          case round =>
            rename World => wq
            obtain ⟨j, q2, ls, rfl, hjl, hjn, rfl, hLA, hol, hbq2, hC2, hx2⟩ := hrel
            obtain ⟨Al, cl, rfl, _, _⟩ := hol.form
            obtain ⟨Aq2, cq2, rfl⟩ := hbq2.form
            have hszq := hx2.size
            have hql2 := hC2.len
            have hL0 := docsR_last hC2.1
            have hlsl := DocsR.len hC2.1
            have Hol := Lib.hid hol
            have Hbq2 := Lib.hid hbq2
            have HC2 := Lib.hid hC2
            have Hx2 := Lib.hid hx2
            have Hjl := Lib.hid hjl
            clear hol hbq2 hC2 hx2 hjl
            by_cases hjlt : j < n
            · have hji : (j : Int) < n := by omega
              have hlsn : ls.length < n := by have := Hjl.out; omega
              have hnext := fun (e : Ev) (q : List UInt8) => HC2.out.next (e := e) (q := q)
              have hbad := HC2.out.bad hlsn hn64 hb40
              generalize lastD 0 ls = LA at hLA hL0 hnext hbad
              have Hnext := Lib.hid hnext
              have Hbad := Lib.hid hbad
              clear hnext hbad
              go_wp2_with fail
              refine (get_any wq w.heap.size _ q2 Hbq2.out hszq (by omega)).mono ?_
              rintro e w3 ⟨r3, rfl, hr3, hx3⟩
              have Hx3 := Lib.hid (Ext.trans Hx2.out hx3)
              have Hol3 := Lib.hid (Hol.out.ext hx3)
              have hsz3 := Hx3.out.size
              have hrl3 := vgRest_len q2
              clear hx3
              by_cases hE2 : vgE q2 = 0
              · have Hnx := Lib.hid (fun e q => Hnext.out e q hE2)
                rw [hE2]
                generalize vgN q2 = nq at Hnx Hbad
                generalize vgRest q2 = rq at Hnx Hbad hr3 hrl3
                obtain ⟨Ar3, cr3, rfl⟩ := hr3.form
                have Hr3 := Lib.hid hr3
                clear hr3 hE2
                by_cases hnq : 1099511627776 < nq
                · have hnqi : (1099511627776 : Int) < nq := by omega
                  have Hno2 := Lib.hid (Hbad.out (.inr (.inl hnq)))
                  go_wp2
                  go_ret2
                  exact ⟨_, [], 120, rfl, SL.nil_ _ _, .inr ⟨Hno2.out, rfl, rfl⟩, Hx3.out⟩
                · have hnqi : decide ((1099511627776 : Int) < nq) = false := decide_eq_false (by omega)
                  have hnq64 : (nq : Int) ≤ 1099511627776 := by omega
                  have hw1 : IntKind.i64.wrap (nq : Int) = nq := by rw [IntKind.wrap_i64]; omega
                  have hT0 := Lib.hid (show TBox (w3.alloc (.cells #[.int .i64 (LA + 1 + (nq : Int)), .int .i64 0, .slice none 0 0] 45)) w3.heap.size (LA + 1 + (nq : Int)) 0 (.slice none 0 0) from heap_alloc_new w3 _)
                  have Hxa := Lib.hid (Ext.of_alloc w3 (.cells #[.int .i64 (LA + 1 + (nq : Int)), .int .i64 0, .slice none 0 0] 45))
                  go_wp2_with fail
                  refine (eget_any w.heap.size _ _ rq (Hr3.out.ext hsz3 Hxa.out) (by simp; omega) (by omega)).mono ?_
                  rintro e w4 ⟨h4, hx4⟩
                  have Hx4 := Lib.hid (Ext.trans Hxa.out hx4)
                  have HT4 := Lib.hid (hT0.out.ext hx4)
                  have hx4s := hx4.size
                  rw [World.size_alloc] at hx4s
                  clear hx4 hql2
                  obtain ⟨t0, t1, t2, tf1, tf2⟩ := HT4.out.cell
                  cases hev : evG rq with
                  | none =>
                    rw [hev] at h4
                    obtain rfl := h4
                    have Hno2 := Lib.hid (Hbad.out (.inr (.inr (.inl hev))))
                    have hT5 := Lib.hid (HT4.out.set (a' := 0) (v' := .slice none 0 0))
                    have Hxe := Lib.hid (Ext.put (Ext.trans Hx3.out Hx4.out) (kept12 w4 w3.heap.size (.int .i64 0) (.slice none 0 0)) hsz3)
                    obtain ⟨z0, _⟩ := hT5.out.cell
                    clear hev
                    go_wp2
                    go_ret2
                    exact ⟨_, [], 120, rfl, SL.nil_ _ _, .inr ⟨Hno2.out, rfl, rfl⟩, Hxe.out⟩
                  | some x =>
                    obtain ⟨⟨at_, fs⟩, rx⟩ := x
                    rw [hev] at h4
                    obtain ⟨u4, vf, rfl, hu4, hvf⟩ := h4
                    obtain ⟨Au4, cu4, rfl⟩ := hu4.form
                    obtain ⟨Af, cf, rfl, _⟩ := hvf.form
                    have hC5 := Hnx.out _ _ hev
                    have hevl := evG_len hev
                    dsimp only at hu4 hvf hC5 hevl
                    have hT5 := Lib.hid (HT4.out.set (a' := at_) (v' := .slice Af fs.length cf))
                    have hk5 := kept12 w4 w3.heap.size (.int .i64 at_) (.slice Af fs.length cf)
                    have hxe := Ext.put (Ext.trans Hx3.out Hx4.out) hk5 hsz3
                    have hu5 := BS.kept hu4 (by omega) hk5 (fun k hk => by omega)
                    have Hxe := Lib.hid hxe
                    have Hu5 := Lib.hid hu5
                    have HC5 := Lib.hid hC5
                    have Hk5 := Lib.hid hk5
                    have Hvf := Lib.hid hvf
                    obtain ⟨z0, z1, z2, _⟩ := hT5.out.cell
                    clear hev hu4 hvf hC5 hxe hu5 hk5
                    by_cases h40 : 1099511627776 < LA + 1 + (nq : Int)
                    · have Hno2 := Lib.hid (Hbad.out (.inr (.inr (.inr h40))))
                      go_wp2
                      go_ret2
                      exact ⟨_, [], 120, rfl, SL.nil_ _ _, .inr ⟨Hno2.out, rfl, rfl⟩, Hxe.out⟩
                    · have h40d : decide (1099511627776 < LA + 1 + (nq : Int)) = false := decide_eq_false h40
                      have hs5 : ((w4.setCell ⟨w3.heap.size, 1, none⟩ (.int .i64 at_)).setCell ⟨w3.heap.size, 2, none⟩ (.slice Af fs.length cf)).heap.size = w4.heap.size := by simp
                      have hlto : ∀ k, (Value.slice Al ls.length cl).ownBlock = some k → w.heap.size ≤ k ∧ k < w3.heap.size := by
                        intro k hk
                        obtain ⟨xs, h1, _⟩ := Hol3.out
                        exact ⟨Hol3.out.ge k hk, (World.ownsRow.lt h1 k hk).2⟩
                      have hsv := SV.one_ ((w4.setCell ⟨w3.heap.size, 1, none⟩ (.int .i64 at_)).setCell ⟨w3.heap.size, 2, none⟩ (.slice Af fs.length cf)) #[.int .i64 (LA + 1 + (nq : Int)), .int .i64 at_, .slice Af fs.length cf] 45 3 rfl
                      rw [hs5] at hsv
                      have hol6 : OwnL (((w4.setCell ⟨w3.heap.size, 1, none⟩ (.int .i64 at_)).setCell ⟨w3.heap.size, 2, none⟩ (.slice Af fs.length cf)).alloc (.cells #[.int .i64 (LA + 1 + (nq : Int)), .int .i64 at_, .slice Af fs.length cf] 45)) w.heap.size 45 (fun k => w.heap.size ≤ k) (.slice Al ls.length cl) ls :=
                        (OwnL.kpt (T := fun k => k = w3.heap.size) Hol3.out (((Hx4.out.kept _)).trans Hk5.out) (fun k hk => .inr (by omega)) (fun k hk => hk)).ext (Ext.of_alloc _ _)
                      have hreps : Reps (α := Doc) (((w4.setCell ⟨w3.heap.size, 1, none⟩ (.int .i64 at_)).setCell ⟨w3.heap.size, 2, none⟩ (.slice Af fs.length cf)).alloc (.cells #[.int .i64 (LA + 1 + (nq : Int)), .int .i64 at_, .slice Af fs.length cf] 45)) (fun k => w.heap.size ≤ k ∧ k < (((w4.setCell ⟨w3.heap.size, 1, none⟩ (.int .i64 at_)).setCell ⟨w3.heap.size, 2, none⟩ (.slice Af fs.length cf)).alloc (.cells #[.int .i64 (LA + 1 + (nq : Int)), .int .i64 at_, .slice Af fs.length cf] 45)).heap.size ∧ some k ≠ (Value.slice Al ls.length cl).ownBlock) [.int .i64 (LA + 1 + (nq : Int)), .int .i64 at_, .slice Af fs.length cf] [(LA + 1 + (nq : Int), at_, fs)] := by
                        refine Reps.single (rep_doc (I6.mk (by omega)) (I6.mk ⟨hevl.2.2.lo, hevl.2.2.hi⟩) (((Hvf.out.keep (Sm.of_kept Hk5.out fun k hk => ⟨hk.2, fun e => by have := hk.1; simp at this; omega⟩)).keep (Sm.of_ext (Ext.of_alloc _ (.cells #[.int .i64 (LA + 1 + (nq : Int)), .int .i64 at_, .slice Af fs.length cf] 45)) fun k hk => by have := hk.2; omega)).more fun k hk => ⟨by have := hk.1; simp at this; omega, by have := hk.2; simp; omega, fun e => ?_⟩))
                        have := hlto k e.symm
                        have := hk.1
                        simp at this
                        omega
                      have Hsv := Lib.hid hsv
                      have Hol6 := Lib.hid hol6
                      have Hreps := Lib.hid hreps
                      have Hlto := Lib.hid hlto
                      have hlsl2 : ls.length ≤ 1000000 := by omega
                      have hqb : w.heap.size ≤ (((w4.setCell ⟨w3.heap.size, 1, none⟩ (.int .i64 at_)).setCell ⟨w3.heap.size, 2, none⟩ (.slice Af fs.length cf)).alloc (.cells #[.int .i64 (LA + 1 + (nq : Int)), .int .i64 at_, .slice Af fs.length cf] 45)).heap.size := by rw [World.size_alloc, hs5]; omega
                      clear hsv hol6 hreps hlto hs5
                      go_wp2_with (at_builtin; go_loud (refine wpList_append_l _ rfl (.tmp 79) (.tmp 81) 22 rfl w.heap.size 45 (fun j => w.heap.size ≤ j) (.agg #[.int .i64 0, .int .i64 0, .slice none 0 0]) 40 Try.underlying22 info_doc rfl (by decide) (.slice Al ls.length cl) ls rfl Hol6.out (w4.heap.size + 1) (.slice (some ⟨w4.heap.size, 0, none⟩) 1 1) [(LA + 1 + (nq : Int), at_, fs)] [.int .i64 (LA + 1 + (nq : Int)), .int .i64 at_, .slice Af fs.length cf] rfl Hsv.out Hreps.out (by simp; omega) (by omega) hqb ?_; intro v6 w6 hown6 hg6 hat6; generalize hps : ls ++ [(LA + 1 + (nq : Int), at_, fs)] = PS at hown6; obtain ⟨A6, c6, rfl, _, _⟩ := hown6.form; have hk6 : Kept (fun j => (Value.slice Al ls.length cl).ownBlock = some j) ((w4.setCell ⟨w3.heap.size, 1, none⟩ (.int .i64 at_)).setCell ⟨w3.heap.size, 2, none⟩ (.slice Af fs.length cf)) w6 := (Ext.kept (Ext.of_alloc _ _) _).trans (grown_kept hg6 fun r hr _ => hr); have Hps := Lib.hid hps; have Hk6 := Lib.hid hk6; have Hown6 := Lib.hid hown6; clear hps hk6 hown6 hg6 hat6))
                      obtain rfl := Hps.out
                      have hx6 : Below w.heap.size ((w4.setCell ⟨w3.heap.size, 1, none⟩ (.int .i64 at_)).setCell ⟨w3.heap.size, 2, none⟩ (.slice Af fs.length cf)) w6 := Hk6.out.below Hxe.out.size fun k hk => (Hlto.out k hk).1
                      exact ⟨⟨j + 1, rx, _, rfl, by rw [List.length_append, Hjl.out]; rfl, by omega, by rw [lastD_snoc], by rw [lastD_snoc]; omega, Hown6.out, Hu5.out.below hx6, HC5.out, Below.trans Hxe.out hx6⟩, by simp only [intOf]; omega⟩
              · have hE' : ((vgE q2 : Int) != 0) = true := by rw [bne_iff_ne]; omega
                have Hno2 : Hid (NoRow bs) := Lib.hid (Hbad.out (.inl hE2))
                generalize vgE q2 = E at hE'
                clear hE2 hr3
                go_wp2
                go_ret2
                exact ⟨_, [], 120, rfl, SL.nil_ _ _, .inr ⟨Hno2.out, rfl, rfl⟩, Hx3.out⟩
            · have hji : ¬(j : Int) < n := by omega
              obtain rfl : j = n := by omega
              have hdn : ∀ m, Row m → senc m = bs → m = ls := fun m hm hs => HC2.out.done Hjl.out.symm hn64 hb40 hm hs
              have htm := HC2.out.1.tm
              have hsl := Hol.out.sl
              have Hso := Lib.hid Hol.out.sl_from
              have Hdn := Lib.hid hdn
              have Htm := Lib.hid htm
              have Hsl := Lib.hid hsl
              clear hdn htm hsl
              go_wp2_with fail
              cases hok : sOk ls with
              | false =>
                refine (sencode_bad wq _ ls Hsl.out hok).mono ?_
                rintro e w2 ⟨rfl, hx2⟩
                have Hx3 := Lib.hid (Ext.trans Hx2.out hx2)
                have Hno : Hid (NoRow bs) := Lib.hid fun m hm hs => by
                  have := Hdn.out m hm hs
                  rw [← this, hm.ok] at hok
                  cases hok
                clear hx2 hok
                go_wp2
                go_ret2
                exact ⟨_, [], 120, rfl, SL.nil_ _ _, .inr ⟨Hno.out, rfl, rfl⟩, Hx3.out⟩
              | true =>
                have Hrow : Hid (Row ls) := Lib.hid ⟨hok, Htm.out⟩
                refine (sencode_ok wq _ ls Hsl.out Hrow.out (by omega) (by have := Hjl.out; omega)).mono ?_
                rintro e w2 ⟨u, rfl, ho, hx2⟩
                have Hx3 := Lib.hid hx2
                have Hx4 := Lib.hid (Ext.trans Hx2.out hx2)
                have Ho := Lib.hid ho
                have Hb2 := Lib.hid (Hv.out.ext (Nat.le_refl _) Hx4.out)
                clear hx2 ho hok
                go_wp2_with fail
                refine (equalb_any w2 u _ (senc ls) bs (Own.bs Ho.out).sl (SL.up (Hv.out.sl) Hx4.out)).mono ?_
                rintro e w3 ⟨rfl, hx3⟩
                have Hx5 := Lib.hid hx3
                clear hx3
                by_cases hpe : senc ls = bs
                · have Hpe := Lib.hid hpe
                  rw [decide_eq_true hpe]
                  clear hpe
                  go_wp2
                  go_ret2
                  exact ⟨_, ls, 0, rfl, (Hso.out.keep (Sm.of_ext (Ext.trans Hx3.out Hx5.out) fun k hk => hk.2)).more fun k hk => ⟨hk.1, Nat.lt_of_lt_of_le hk.2 (Ext.trans Hx3.out Hx5.out).size⟩, .inl ⟨Hrow.out, Hpe.out, rfl⟩, Ext.trans Hx4.out Hx5.out⟩
                · have Hno : Hid (NoRow bs) := Lib.hid fun m hm hs => by
                    have := Hdn.out m hm hs
                    subst this
                    exact hpe hs
                  rw [decide_eq_false hpe]
                  clear hpe
                  go_wp2
                  go_ret2
                  exact ⟨_, [], 120, rfl, SL.nil_ _ _, .inr ⟨Hno.out, rfl, rfl⟩, Ext.trans Hx4.out Hx5.out⟩
  · have hE' : ((vgE bs : Int) != 0) = true := by rw [bne_iff_ne]; omega
    have Hno : Hid (NoRow bs) := Lib.hid (NoRow.head (.inl hE))
    generalize vgE bs = E at hE'
    clear hE hr
    go_wp2
    go_ret2
    exact ⟨_, [], 120, rfl, SL.nil_ _ _, .inr ⟨Hno.out, rfl, rfl⟩, Hx1.out⟩

theorem sdecode_any (w : World) (v : Value) (bs : List UInt8) (hv : BS w w.heap.size v bs) (hl : bs.length ≤ 90000) :
    Calls Try.prog 13 #[v] w fun e w' => ∃ u l E, e = .returned (.tuple #[u, .int .i64 (E : Nat)]) ∧ SL w' (Bw w') u l ∧ DecIs bs l E ∧ Ext w w' := by
  refine (sdecode_own w v bs hv hl).mono ?_
  rintro e w' ⟨u, l, E, h1, h2, h3⟩
  exact ⟨u, l, E, h1, h2.more fun k hk => hk.2, h3⟩

end Go.Proofs.Ytnajmpkdeenkbaa
