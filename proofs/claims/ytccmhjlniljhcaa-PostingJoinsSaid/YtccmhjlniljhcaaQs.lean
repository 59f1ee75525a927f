/-
  Contract of the reference's 'post'.
  Conditions: those of each statement.
-/
import Derived.Test.YtccmhjlniljhcaaQr
namespace Go.Proofs.Ytccmhjlniljhcaa
open Go.RowKit

/-- the post that stands first, by the reference; its places in new blocks -/
def PostIs (n0 m : Nat) (W' : World) (e : Ending) : Option (Post × List UInt8) → Prop
  | none => e = .returned (.tuple #[.agg #[.int .i64 0, .slice none 0 0], .slice none 0 0, .bool false])
  | some (p, r) => ∃ u v, e = .returned (.tuple #[.agg #[.int .i64 p.1, u], v, .bool true]) ∧ SL W' (fun k => m ≤ k ∧ k < W'.heap.size) u p.2 ∧ BS W' n0 v r

theorem Pbox.froz {W : World} {B : Nat} {d : Int} {v : Value} (h : Pbox W B d v) : W.frozen? ⟨B, 0, none⟩ = false := by
  simp [World.frozen?, show W.heap[B]? = _ from h]
theorem Pbox.set2 {W : World} {B : Nat} {d d' : Int} {v v' : Value} (h : Pbox W B d v) : Pbox ((W.setCell ⟨B, 0, none⟩ (.int .i64 d')).setCell ⟨B, 1, none⟩ v') B d' v' := by
  refine Pbox.set v' (v := v) ?_
  obtain ⟨hlt, hk⟩ := Array.getElem?_eq_some_iff.1 h
  show (W.heap.modify B _)[B]? = _
  rw [Array.getElem?_eq_getElem (by rw [Array.size_modify]; exact hlt), Array.getElem_modify_self, hk]
  rfl
set_option maxHeartbeats 3200000 in
set_option maxRecDepth 100000 in
theorem rpost_any (n0 : Nat) (W : World) (v : Value) (bs : List UInt8) (ahead : Int) (hv : BS W n0 v bs) (hn : n0 ≤ W.heap.size) (hL : bs.length ≤ 20000) (h1 : -1 ≤ ahead) (h2 : ahead ≤ 1099511627776) :
    Calls Try.prog 38 #[v, .int .i64 ahead] W fun e W' => PostIs n0 W.heap.size W' e (postP ahead bs) ∧ Ext W W' := by
  have Hv := Lib.hid hv
  clear hv
  go_enter Try.func38, Try.ntmps38
  have hx0 : Ext W (W.alloc (.cells #[.int .i64 0, .slice none 0 0] 43)) := Ext.of_alloc _ _
  have hP := Pbox.new W 0 (.slice none 0 0)
  go_wp2_with fail
  refine (rnum_any n0 _ v bs 65535 (Hv.out.ext hn hx0) (by have := hx0.size; omega) (by omega) (by decide)).mono ?_
  rintro e w1 ⟨h3, hx1⟩
  have hpd : postP ahead bs = postP ahead bs := rfl
  conv at hpd => rhs; unfold postP
  have hx01 := Ext.trans hx0 hx1
  have hP1 : Pbox w1 W.heap.size 0 (.slice none 0 0) := hP.keep (T := fun _ => False) (Ext.kept hx1 _) (fun h => h)
  have hsz1 : W.heap.size + 1 ≤ w1.heap.size := by have := hx1.size; simpa using this
  clear hx0 hx1 hP
  cases hn1 : num 65535 bs with
  | none =>
    rw [hn1] at h3 hpd
    obtain rfl := h3
    have Hpd := Lib.hid hpd
    have HX := Lib.hid hx01
    clear hpd hx01
    obtain ⟨c0, c1, cf⟩ := hP1.cell
    have cf0 := hP1.froz
    go_wp2
    have hP2 := hP1.set2 (d' := 0) (v' := .slice none 0 0)
    obtain ⟨e0, e1, _⟩ := hP2.cell
    refine bodyPost_ret (v := .tuple #[.agg #[.int .i64 0, .slice none 0 0], .slice none 0 0, .bool false]) (by simp [results, Try.f38, go_sem, e0, e1]) rfl ⟨by rw [Hpd.out]; rfl, Ext.sc (Ext.sc HX.out (Nat.le_refl _)) (Nat.le_refl _)⟩
  | some x =>
    obtain ⟨d, r⟩ := x
    rw [hn1] at h3 hpd
    obtain ⟨u, rfl, h3⟩ := h3
    have hl1 := num_len hn1
    have hd : (d : Int) ≤ 65535 := by omega
    have H3 := Lib.hid h3
    simp only at hpd
    have Hpd := Lib.hid hpd
    have HX1 := Lib.hid hx01
    have HP1 := Lib.hid hP1
    clear h3 hn1 hpd hx01 hP1
    go_wp2_with fail
    refine (rnum_any n0 w1 _ r 1048576 H3.out (by omega) (by omega) (by decide)).mono ?_
    rintro e w2 ⟨h4, hx2⟩
    have HX := Lib.hid (Ext.trans HX1.out hx2)
    have hP2 : Pbox w2 W.heap.size 0 (.slice none 0 0) := HP1.out.keep (T := fun _ => False) (Ext.kept hx2 _) (fun h => h)
    have hsz2 : W.heap.size + 1 ≤ w2.heap.size := by have := hx2.size; omega
    have HP2 := Lib.hid hP2
    obtain ⟨c0, c1, cf⟩ := hP2.cell
    have cf0 := hP2.froz
    clear hx2 hP2
    cases hn2 : num 1048576 r with
    | none =>
      simp only [hn2] at Hpd
      rw [hn2] at h4
      obtain rfl := h4
      go_wp2
      have hP3 := HP2.out.set2 (d' := 0) (v' := .slice none 0 0)
      obtain ⟨e0, e1, _⟩ := hP3.cell
      refine bodyPost_ret (v := .tuple #[.agg #[.int .i64 0, .slice none 0 0], .slice none 0 0, .bool false]) (by simp [results, Try.f38, go_sem, e0, e1]) rfl ⟨by rw [Hpd.out]; rfl, Ext.sc (Ext.sc HX.out (Nat.le_refl _)) (Nat.le_refl _)⟩
    | some y =>
      obtain ⟨c, r2⟩ := y
      simp only [hn2] at Hpd
      rw [hn2] at h4
      obtain ⟨u2, rfl, h4⟩ := h4
      have hl2 := num_len hn2
      obtain ⟨A2, k2, rfl⟩ := h4.form
      have H4 := Lib.hid h4
      have hc : (c : Int) ≤ 1048576 := by omega
      clear h4 hn2
      by_cases hcl : c ≤ r2.length
      · have hcl' : decide (r2.length < c) = false := decide_eq_false (by omega)
        rw [if_pos hcl] at Hpd
        clear c0 c1 cf cf0
        go_wp2_with fail
        have hx3 : Ext w2 (w2.alloc (.cells #[.int .i64 (ahead + 1 + (d : Int)), .slice none 0 0] 43)) := Ext.of_alloc _ _
        have hb3 := Pbox.new w2 (ahead + 1 + (d : Int)) (.slice none 0 0)
        have hr3 := HP2.out.keep (T := fun _ => False) (Ext.kept hx3 _) (fun h => h)
        have h43 := H4.out.ext (by omega : n0 ≤ w2.heap.size) hx3
        have Hx3 := Lib.hid (Ext.trans HX.out hx3)
        have Hb3 := Lib.hid hb3
        have Hr3 := Lib.hid hr3
        have H43 := Lib.hid h43
        have hsz3 : w2.heap.size + 1 ≤ (w2.alloc (.cells #[.int .i64 (ahead + 1 + (d : Int)), .slice none 0 0] 43)).heap.size := by simp
        clear hx3 hb3 hr3 h43 HX
        go_loopw [0, 11, 12] (fun b la i wi => ∃ (k : Nat) (q : List UInt8) (ps : List Int) (pv : Value), i = .int .i64 k ∧ k ≤ c ∧ la = .int .i64 (ilast (-1) ps) ∧ -1 ≤ ilast (-1) ps ∧ ilast (-1) ps ≤ 1048577 * (ps.length : Int) ∧ ps.length + q.length ≤ r2.length ∧ BS wi n0 b q ∧
          Pbox wi W.heap.size 0 (.slice none 0 0) ∧ Pbox wi w2.heap.size (ahead + 1 + (d : Int)) pv ∧ OwnL wi (w2.heap.size + 1) 3 (fun _ => False) pv ps ∧ Ext W wi ∧ w2.heap.size + 1 ≤ wi.heap.size ∧ possR 1048575 (c - k) ps q = possR 1048575 c [] r2) (fun _ _ i _ => c - (intOf i).toNat)
        case atStart => exact ⟨0, r2, [], _, rfl, Nat.zero_le _, rfl, by decide, by decide, by simp, H43.out, Hr3.out, Hb3.out, OwnL.nil_ _ _ _ _, Hx3.out, hsz3, rfl⟩
        case round =>
          rename World => wi
          obtain ⟨k, q, ps, pv, rfl, hk, rfl, hi1, hi2, hpl, hbq, hpr, hpb, hop, hx, hszi, hpo⟩ := hrel
          obtain ⟨Ap, cp, rfl, _, _⟩ := hop.form
          obtain ⟨Aq, cq, rfl⟩ := hbq.form
          have HX := Lib.hid hx
          have Hbq := Lib.hid hbq
          have Hpr := Lib.hid hpr
          have Hpb := Lib.hid hpb
          have Hop := Lib.hid hop
          by_cases hlk : k < c
          · have hkl : (k : Int) < c := by omega
            rw [show c - k = (c - (k + 1)) + 1 from by omega, possR_succ] at hpo
            generalize hIL : ilast (-1) ps = IL at hi1 hi2 hpo
            have HIL := Lib.hid hIL
            have Hpo := Lib.hid hpo
            clear hbq hpr hpb hop hx hpo hIL
            go_wp2_with fail
            refine (rnum_any n0 wi _ q 1048575 Hbq.out (by omega) (by omega) (by decide)).mono ?_
            rintro e w5 ⟨h5, hx5⟩
            have HX := Lib.hid (Ext.trans HX.out hx5)
            have hpr5 := Hpr.out.keep (T := fun _ => False) (Ext.kept hx5 _) (fun h => h)
            have hpb5 := Hpb.out.keep (T := fun _ => False) (Ext.kept hx5 _) (fun h => h)
            have hop5 := Hop.out.ext hx5
            have Hpr5 := Lib.hid hpr5
            have Hpb5 := Lib.hid hpb5
            have Hop5 := Lib.hid hop5
            have hsz5 := hx5.size
            clear hx5 hop5
            cases hn5 : num 1048575 q with
            | none =>
              rw [hn5] at h5
              obtain rfl := h5
              simp only [hn5] at Hpo
              have hnone : postP ahead bs = none := by
                rw [Hpd.out]
                have := Hpo.out
                simp only [possR, ilast, List.nil_append] at this
                cases h : poss 1048575 c (-1) r2 with
                | none => rfl
                | some z => rw [h] at this; cases this
              obtain ⟨c0, c1, cf⟩ := hpr5.cell
              have cf0 := hpr5.froz
              have Hnone := Lib.hid hnone
              clear hpr5 hpb5 hnone
              go_wp2
              have hP3 := Hpr5.out.set2 (d' := 0) (v' := .slice none 0 0)
              obtain ⟨e0, e1, _⟩ := hP3.cell
              refine bodyPost_ret (v := .tuple #[.agg #[.int .i64 0, .slice none 0 0], .slice none 0 0, .bool false]) (by simp [results, Try.f38, go_sem, e0, e1]) rfl ⟨by rw [Hnone.out]; rfl, Ext.sc (Ext.sc HX.out (Nat.le_refl _)) (Nat.le_refl _)⟩
            | some x =>
              obtain ⟨x, q5⟩ := x
              rw [hn5] at h5
              obtain ⟨vq, rfl, h5⟩ := h5
              simp only [hn5] at Hpo
              have hl5 := num_len hn5
              have hx' : (x : Int) ≤ 1048575 := by omega
              have H5 := Lib.hid h5
              obtain ⟨p0, p1, pf⟩ := hpb5.cell
              have hpsl : (ps.length : Int) ≤ 20000 := by omega
              clear hpr5 hpb5 h5 hn5
              have hreps : ∀ W : World, Reps (α := Int) W (fun k => False ∧ k < W.heap.size ∧ some k ≠ (Value.slice Ap ps.length cp).ownBlock) [.int .i64 (IL + 1 + (x : Int))] [IL + 1 + (x : Int)] := fun W => Reps.single ⟨rfl, I6.mk (by omega)⟩
              go_wp2_with (at_builtin; go_loud (refine wpList_append_l _ rfl (.tmp 64) (.tmp 66) 39 rfl (w2.heap.size + 1) 3 (fun _ => False) (.int .i64 0) 8 Try.underlying39 info_int rfl (by decide) (.slice Ap ps.length cp) ps rfl (Hop5.out.ext (Ext.of_alloc _ _)) (w5.heap.size + 1) (.slice (some ⟨w5.heap.size, 0, none⟩) 1 1) [IL + 1 + (x : Int)] [.int .i64 (IL + 1 + (x : Int))] rfl (SV.one_ w5 #[.int .i64 (IL + 1 + (x : Int))] _ 1 rfl) (hreps _) (by simp; omega) (by omega) (by simp; omega) ?_; intro v6 w6 hown6 hg6 hat6; generalize hps : ps ++ [IL + 1 + (x : Int)] = PS at hown6; obtain ⟨A6, c6, rfl, _, _⟩ := hown6.form; have hk6 : Kept (fun j => w2.heap.size + 1 ≤ j) w5 w6 := (Ext.kept (Ext.of_alloc w5 _) _).trans (grown_kept hg6 fun r hr _ => Hop5.out.ge r hr); have hpb6 := Hpb5.out.keep hk6 (by omega); obtain ⟨p0, p1, pf⟩ := hpb6.cell; have Hps := Lib.hid hps; have Hk6 := Lib.hid hk6; have Hown6 := Lib.hid hown6; have Hpb6 := Lib.hid hpb6; clear hps hk6 hown6 hpb6 hg6 hat6))
              go_roundw
              case rel =>
                have hk7 : Kept (fun j => j = w2.heap.size) w6 (w6.setCell ⟨w2.heap.size, 1, none⟩ (.slice A6 PS.length c6)) := Kept.setCell _ _ _ _ rfl
                have hPl : PS.length = ps.length + 1 := by rw [← Hps.out]; simp
                have hsz6 := Hk6.out.size
                refine ⟨k + 1, q5, PS, _, rfl, by omega, by rw [← Hps.out, ilast_snoc], by rw [← Hps.out, ilast_snoc]; omega, by rw [← Hps.out, ilast_snoc, Hps.out, hPl]; omega, by omega, ?_, ?_, Hpb6.out.set _, Hown6.out.kpt hk7 (fun k hk => .inl (by omega)) (fun _ h => h.elim), ?_, ?_, ?_⟩
                · exact (H5.out.keep (by omega) Hk6.out (fun k hk => by omega)).keep (by omega) hk7 (fun k hk => by omega)
                · exact (Hpr5.out.keep Hk6.out (by omega)).keep hk7 (by omega)
                · exact Ext.sc (Below.trans HX.out (Hk6.out.below (by omega) fun k hk => by omega)) (by simp only; omega)
                · have := hk7.size; omega
                · rw [← Hps.out]; exact Hpo.out
              case measure => simp only [intOf]; omega
          · have hkl : ¬(k : Int) < c := by omega
            rw [show c - k = 0 from by omega, possR_zero] at hpo
            have hsome : postP ahead bs = some ((ahead + 1 + (d : Int), ps), q) := by
              rw [Hpd.out]
              simp only [possR, ilast, List.nil_append] at hpo
              cases h : poss 1048575 c (-1) r2 with
              | none => rw [h] at hpo; cases hpo
              | some z =>
                obtain ⟨z1, z2⟩ := z
                rw [h] at hpo
                simp only [Option.map_some, Option.some.injEq, Prod.mk.injEq] at hpo
                obtain ⟨rfl, rfl⟩ := hpo
                rfl
            obtain ⟨p0, p1, pf⟩ := hpb.cell
            obtain ⟨c0, c1, cf⟩ := hpr.cell
            have cf0 := hpr.froz
            have Hsome := Lib.hid hsome
            clear hbq hpr hpb hop hx hpo hsome
            go_wp2
            have hP3 := Hpr.out.set2 (d' := ahead + 1 + (d : Int)) (v' := .slice Ap ps.length cp)
            obtain ⟨e0, e1, _⟩ := hP3.cell
            have hk7 : Kept (fun j => j = W.heap.size) wi ((wi.setCell ⟨W.heap.size, 0, none⟩ (.int .i64 (ahead + 1 + (d : Int)))).setCell ⟨W.heap.size, 1, none⟩ (.slice Ap ps.length cp)) := (Kept.setCell (fun j => j = W.heap.size) wi ⟨W.heap.size, 0, none⟩ _ rfl).trans (Kept.setCell (fun j => j = W.heap.size) _ ⟨W.heap.size, 1, none⟩ _ rfl)
            have hss := hk7.size
            refine bodyPost_ret (v := .tuple #[.agg #[.int .i64 (ahead + 1 + (d : Int)), .slice Ap ps.length cp], .slice Aq q.length cq, .bool true]) (by simp [results, Try.f38, go_sem, e0, e1]) rfl ⟨?_, Ext.sc (Ext.sc HX.out (Nat.le_refl _)) (Nat.le_refl _)⟩
            rw [Hsome.out]
            exact ⟨_, _, rfl, (Hop.out.sl_none.keep (Sm.of_kept hk7 fun k hk => ⟨hk.2, by omega⟩)).more fun k hk => ⟨by omega, by omega⟩, Hbq.out.keep (by omega) hk7 (fun k hk => by omega)⟩
      · have hcl' : (r2.length : Int) < (c : Int) := by omega
        rw [if_neg hcl] at Hpd
        go_wp2
        have hP3 := HP2.out.set2 (d' := 0) (v' := .slice none 0 0)
        obtain ⟨e0, e1, _⟩ := hP3.cell
        refine bodyPost_ret (v := .tuple #[.agg #[.int .i64 0, .slice none 0 0], .slice none 0 0, .bool false]) (by simp [results, Try.f38, go_sem, e0, e1]) rfl ⟨by rw [Hpd.out]; rfl, Ext.sc (Ext.sc HX.out (Nat.le_refl _)) (Nat.le_refl _)⟩

end Go.Proofs.Ytccmhjlniljhcaa
