/-
  The law EventBytes: for whatever bytes and event it returns true.
  Conditions: none.
-/
import Derived.Test.YtbnjhpknagkiaaaWe
import Derived.Test.YtbnjhpknagkiaaaEe
import Derived.Test.YtbnjhpknagkiaaaEg
import Derived.Test.YtbnjhpknagkiaaaUo
import Derived.Test.YtbnjhpknagkiaaaEvarg
import Derived.Test.YtbnjhpknagkiaaaBl
import Derived.Test.YtbnjhpknagkiaaaStep
namespace Go.Proofs.Ytbnjhpknagkiaaa
open Go.RowKit Go.Op

theorem BS.up' {w w' : World} {v : Value} {bs : List UInt8} (h : BS w w.heap.size v bs) (hx : Ext w w') : BS w' w'.heap.size v bs := (BS.ext h (Nat.le_refl _) hx).more hx.size
/-- what Get answers, in one form -/
def evR : Option (Ev × List UInt8) → Ev × List UInt8 × Nat
  | none => ((0, []), [], 100)
  | some (x, r) => (x, r, 0)
theorem EvIs.all {n0 n1 : Nat} {W' : World} {e : Ending} {o : Option (Ev × List UInt8)} (h : EvIs n0 n1 W' e o) (hn : n0 ≤ W'.heap.size) : ∃ u vf, e = .returned (.tuple #[.agg #[.int .i64 (evR o).1.1, vf], u, .int .i64 ((evR o).2.2 : Nat)]) ∧ BS W' W'.heap.size u (evR o).2.1 ∧ SL W' (Bw W') vf (evR o).1.2 := by
  rcases o with _ | ⟨x, r⟩
  · exact ⟨_, _, h, BS.nil_ _ _, SL.nil_ _ _⟩
  · obtain ⟨u, vf, rfl, h1, h2⟩ := h
    exact ⟨u, vf, rfl, h1.more hn, h2.more fun k hk => hk.2⟩

set_option maxHeartbeats 6400000 in
set_option maxRecDepth 100000 in
theorem evbytes_any (w : World) (vb : Value) (bs : List UInt8) (at_ : Int) (v : Value) (l : List Fld) (hb : SL w (Bw w) vb bs) (hv : SL w (Bw w) v l) (hi : I64 at_) :
    Calls Try.prog 9 #[vb, .agg #[.int .i64 at_, v]] w fun e w' => e = .returned (.bool true) ∧ Ext w w' := by
  obtain ⟨A, c, rfl, hc, hm⟩ := hv.form
  have Hx0 : Hid (Ext w (w.alloc (.cells #[.int .i64 at_, .slice A l.length c] 40))) := Lib.hid (Ext.of_alloc _ _)
  have hS : ∀ W, Ext (w.alloc (.cells #[.int .i64 at_, .slice A l.length c] 40)) W → W.cell? ⟨w.heap.size, 0, none⟩ = some (.int .i64 at_) ∧ W.cell? ⟨w.heap.size, 1, none⟩ = some (.slice A l.length c) := fun W h =>
    ⟨Ext.keeps h (cell_new w #[.int .i64 at_, .slice A l.length c] 40 0 (v := .int .i64 at_) rfl), Ext.keeps h (cell_new w #[.int .i64 at_, .slice A l.length c] 40 1 (v := .slice A l.length c) rfl)⟩
  have HS := Lib.hid hS
  have Hv := Lib.hid (hv.up Hx0.out)
  have Hb := Lib.hid (hb.up Hx0.out)
  have Hi := Lib.hid hi
  clear hv hS hb hi hc hm
  go_enter Try.func9, Try.ntmps9
  go_wp2_with fail
  refine (light_any _ at_ _ l Hv.out).mono ?_
  rintro e w1 ⟨R, rfl, _, hx⟩
  have Hx1 := Lib.hid hx
  have Hb1 := Lib.hid (Hb.out.up hx)
  obtain ⟨b0, b1⟩ := HS.out _ hx
  clear hx
  cases R with
  | false =>
    go_wp2_with fail
    refine (awake_any w1).mono ?_
    rintro e w2 ⟨rfl, hx⟩
    have Hx2 := Lib.hid (Ext.trans Hx0.out (Ext.trans Hx1.out hx))
    clear hx
    go_wp2
    go_ret
    exact ⟨rfl, Hx2.out⟩
  | true =>
    go_wp2_with fail
    refine (cut_any w1 _ bs Hb1.out).mono ?_
    rintro e w2 ⟨v2, rfl, hv2, hx⟩
    have hbl : (bs.take 700).length ≤ 1000 := by rw [List.length_take]; omega
    generalize bs.take 700 = B at hv2 hbl
    have Hx2 := Lib.hid (Ext.trans Hx1.out hx)
    have HB2 := Lib.hid hv2.bs
    clear hx hv2 b0 b1
    obtain ⟨b0, b1⟩ := HS.out _ Hx2.out
    by_cases hE : evE (at_, l) = 0
    · have Hok := Lib.hid hE
      clear hE
      go_wp2_with fail
      refine (evPut_any w2 w2.heap.size v2 B at_ _ l HB2.out (Nat.le_refl _) (Hv.out.up Hx2.out) (by omega) Hok.out Hi.out).mono ?_
      rintro e w3 ⟨v3, rfl, ho3, hx⟩
      have Hx3 := Lib.hid (Ext.trans Hx2.out hx)
      have HV3 := Lib.hid (Own.bs ho3)
      have HB3 := Lib.hid (HB2.out.up' hx)
      clear hx ho3 b0 b1
      obtain ⟨b0, b1⟩ := HS.out _ Hx3.out
      go_wp2_with fail
      refine (rcheck_any w3 at_ _ l (Hv.out.up Hx3.out)).mono ?_
      rintro e w4 ⟨rfl, hx⟩
      rw [Hok.out]
      have Hx4 := Lib.hid (Ext.trans Hx3.out hx)
      have HV4 := Lib.hid (HV3.out.up' hx)
      have HB4 := Lib.hid (HB3.out.up' hx)
      clear hx b0 b1
      obtain ⟨b0, b1⟩ := HS.out _ Hx4.out
      have hcl : B.length + (evby (at_, l)).length ≤ 1000000000 := by have := evby_len Hok.out Hi.out; omega
      go_wp2_with fail
      refine wp_region_list2 [BytesP B, Is (.string ⟨(B).toArray⟩), Is (.agg #[.int .i64 at_, .slice A l.length c]), BytesP (evby (at_, l)), Is (.string ⟨((evby (at_, l))).toArray⟩), Is (.string ⟨(B ++ (evby (at_, l))).toArray⟩), Is (.string ⟨(B ++ (evby (at_, l))).toArray⟩)] (by kernel_rfl) (by kernel_rfl) (by kernel_rfl) ?_ (Steps.all ?_) ?_
      · intro p hp
        simp only [List.mem_cons, List.not_mem_nil, or_false] at hp
        rcases hp with rfl | rfl | rfl | rfl | rfl | rfl | rfl
        all_goals first | exact mono_bytes _ | exact mono_is _
      · refine Steps.cons_ (step_mk (BytesP B) rfl fun a W hx hE hO => ?_) ?_
        · have h0 : (BytesP B) (a.eval (.tmp 0)) W := old_is (v := v2) (hO 0 (by kernel_rfl)) (mono_at (mono_bytes _) HB4.out ((Ext.drew _).trans hx))
          exact yes_none rfl (do_move rfl h0)
        refine Steps.cons_ (step_mk (Is (.string ⟨(B).toArray⟩)) rfl fun a W hx hE hO => ?_) ?_
        · have h29 : (BytesP B) (a.eval (.tmp 29)) W := hE 0 (by kernel_rfl) 29 rfl
          refine yes_none rfl ?_
          exact do_string rfl Try.underlying25 Try.underlying5 Try.underlying9 h29 rfl
        refine Steps.cons_ (step_mk (Is (.agg #[.int .i64 at_, .slice A l.length c])) rfl fun a W hx hE hO => ?_) ?_
        · have h3 : a.eval (.tmp 3) = .pointer (some ⟨w.heap.size, 0, none⟩) := hO 3 (by kernel_rfl)
          refine yes_none rfl ?_
          obtain ⟨q0, q1⟩ := HS.out W (Ext.trans Hx4.out ((Ext.drew _).trans hx)); exact do_run (by simp only [execOp, h3] <;> simp [go_sem, q0, q1]) rfl
        refine Steps.cons_ (step_mk (BytesP (evby (at_, l))) rfl fun a W hx hE hO => ?_) ?_
        · have h31 : a.eval (.tmp 31) = (.agg #[.int .i64 at_, .slice A l.length c]) := hE 2 (by kernel_rfl) 31 rfl
          refine yes_none rfl (do_call rfl Try.func38 (by kernel_rfl) (by kernel_rfl) (args := #[(.agg #[.int .i64 at_, .slice A l.length c])]) (by simp only [List.map_toArray, List.map_cons, List.map_nil, h31]) ?_)
          exact (revby_any W at_ _ l (Hv.out.up (Ext.trans Hx4.out ((Ext.drew _).trans hx))) Hok.out Hi.out).mono fun e w' ⟨v', he, ho, hx⟩ => ⟨v', he, hx, Own.bs ho⟩
        refine Steps.cons_ (step_mk (Is (.string ⟨((evby (at_, l))).toArray⟩)) rfl fun a W hx hE hO => ?_) ?_
        · have h32 : (BytesP (evby (at_, l))) (a.eval (.tmp 32)) W := hE 3 (by kernel_rfl) 32 rfl
          refine yes_none rfl ?_
          exact do_string rfl Try.underlying25 Try.underlying5 Try.underlying9 h32 rfl
        refine Steps.cons_ (step_mk (Is (.string ⟨(B ++ (evby (at_, l))).toArray⟩)) rfl fun a W hx hE hO => ?_) ?_
        · have h30 : a.eval (.tmp 30) = (.string ⟨(B).toArray⟩) := hE 1 (by kernel_rfl) 30 rfl
          have h33 : a.eval (.tmp 33) = (.string ⟨((evby (at_, l))).toArray⟩) := hE 4 (by kernel_rfl) 33 rfl
          refine yes_none rfl ?_
          exact do_concat rfl h30 h33 (hcl) rfl
        refine Steps.cons_ (step_mk (Is (.string ⟨(B ++ (evby (at_, l))).toArray⟩)) rfl fun a W hx hE hO => ?_) ?_
        · have h34 : a.eval (.tmp 34) = (.string ⟨(B ++ (evby (at_, l))).toArray⟩) := hE 5 (by kernel_rfl) 34 rfl
          exact yes_none rfl (do_assign rfl h34)
        exact Steps.nil_
      · intro a W hx hd hsz hE hO
        have h7 : a.eval (.tmp 7) = (.string ⟨(B ++ (evby (at_, l))).toArray⟩) := hE 6 (of_decide_eq_true (by kernel_rfl)) 7 rfl
        have hmix := act_mix [false, false, false, false, false, false, false, true, false, false, false, false, false, false, false, false, false, false, false, false, false, false, false, false, false, false, false, false, false, true, true, true, true, true, true, false, false, false, false, false, false, false, false, false, false, false, false, false, false, false, false, false, false, false, false, false, false, false, false, false, false, false, false, false, false, false, false, false, false, false, false, false, false, false, false, false, false] (by kernel_rfl) hsz hd hO
        simp only [mixA, Nat.reduceAdd, Nat.zero_add] at hmix
        rw [hmix]
        rw [h7]
        generalize a.eval (.tmp 29) = u29
        generalize a.eval (.tmp 30) = u30
        generalize a.eval (.tmp 31) = u31
        generalize a.eval (.tmp 32) = u32
        generalize a.eval (.tmp 33) = u33
        generalize a.eval (.tmp 34) = u34
        clear hmix hd hsz hE hO
        have hx5 := hx
        clear hx
        rename World => w5
        have Hx5 := Lib.hid (Ext.trans Hx4.out hx5)
        have HV5 := Lib.hid (HV4.out.up' hx5)
        have HB5 := Lib.hid (HB4.out.up' hx5)
        clear hx5 b0 b1
        obtain ⟨b0, b1⟩ := HS.out _ Hx5.out
        go_wp2_with fail
        refine (eget_any w5.heap.size w5 v2 B HB5.out (Nat.le_refl _) (by omega)).mono ?_
        rintro e w6 ⟨he, hx⟩
        obtain ⟨u6, f6, rfl, hu6, hf6⟩ := he.all hx.size
        obtain ⟨A6, c6, rfl, _⟩ := hf6.form
        generalize hG : evR (evG B) = G at hu6 hf6 ⊢
        obtain ⟨⟨g1, g2⟩, gr, gE⟩ := G
        dsimp only at hu6 hf6 ⊢
        have HG := Lib.hid hG
        have hxa := Ext.of_alloc w6 (.cells #[.int .i64 g1, .slice A6 g2.length c6] 40)
        have Q60 := Lib.hid (cell_new w6 #[.int .i64 g1, .slice A6 g2.length c6] 40 0 (v := .int .i64 g1) rfl)
        have Q61 := Lib.hid (cell_new w6 #[.int .i64 g1, .slice A6 g2.length c6] 40 1 (v := .slice A6 g2.length c6) rfl)
        have hxb := Ext.trans hx hxa
        have Hx6 := Lib.hid (Ext.trans Hx5.out hxb)
        have HV6 := Lib.hid (HV5.out.up' hxb)
        have HB6 := Lib.hid (HB5.out.up' hxb)
        have Hu6 := Lib.hid (hu6.up' hxa)
        have Hf6 := Lib.hid (hf6.up hxa)
        clear hx hxa hxb hu6 hf6 he b0 b1 hG
        obtain ⟨b0, b1⟩ := HS.out _ Hx6.out
        go_wp2_with fail
        refine (rget_ev _ _ v2 B HB6.out (Nat.le_refl _) (by omega)).mono ?_
        rintro e w7 ⟨he, hx⟩
        obtain ⟨u7, f7, rfl, hu7, hf7⟩ := he.all hx.size
        rw [HG.out] at hu7 hf7 ⊢
        obtain ⟨A7, c7, rfl, _⟩ := hf7.form
        dsimp only at hu7 hf7 ⊢
        have hxa := Ext.of_alloc w7 (.cells #[.int .i64 g1, .slice A7 g2.length c7] 40)
        have hxb := Ext.trans hx hxa
        have q0 := cell_new w7 #[.int .i64 g1, .slice A7 g2.length c7] 40 0 (v := .int .i64 g1) rfl
        have q1 := cell_new w7 #[.int .i64 g1, .slice A7 g2.length c7] 40 1 (v := .slice A7 g2.length c7) rfl
        have q2 := Ext.keeps hxb Q60.out
        have q3 := Ext.keeps hxb Q61.out
        have hx7 := Ext.trans Hx6.out hxb
        have hS7 : ∀ W, Ext (w7.alloc (.cells #[.int .i64 g1, .slice A7 g2.length c7] 40)) W → W.cell? ⟨w.heap.size, 0, none⟩ = some (.int .i64 at_) ∧ W.cell? ⟨w.heap.size, 1, none⟩ = some (.slice A l.length c) ∧ W.cell? ⟨w7.heap.size, 0, none⟩ = some (.int .i64 g1) ∧ W.cell? ⟨w7.heap.size, 1, none⟩ = some (.slice A7 g2.length c7) ∧ W.cell? ⟨w6.heap.size, 0, none⟩ = some (.int .i64 g1) ∧ W.cell? ⟨w6.heap.size, 1, none⟩ = some (.slice A6 g2.length c6) := fun W h => ⟨(HS.out _ (Ext.trans hx7 h)).1, (HS.out _ (Ext.trans hx7 h)).2, Ext.keeps h q0, Ext.keeps h q1, Ext.keeps h q2, Ext.keeps h q3⟩
        have hc7 : ∀ W, Ext (w7.alloc (.cells #[.int .i64 g1, .slice A7 g2.length c7] 40)) W → (convert 25 9 u6).run Try.prog W = .ok (.string ⟨gr.toArray⟩) W ∧ (convert 25 9 u7).run Try.prog W = .ok (.string ⟨gr.toArray⟩) W := fun W h => ⟨str_of_bs (Hu6.out.up' (Ext.trans hxb h)) _ rfl, str_of_bs (hu7.up' (Ext.trans hxa h)) _ rfl⟩
        have HS7 := Lib.hid hS7
        have Hc7 := Lib.hid hc7
        have Hx7 := Lib.hid hx7
        have Hf67 := Lib.hid (Hf6.out.up hxb)
        have Hf7 := Lib.hid (hf7.up hxa)
        have cV := str_of_bs (HV6.out.up' hxb) _ rfl
        clear hx hxa hxb hu7 hf7 he b0 b1 hx7 hS7 hc7 q0 q1 q2 q3
        obtain ⟨b0, b1, d0, d1, d2, d3⟩ := HS7.out _ (Below.refl _ _)
        go_wp2_with fail
        refine (rcheck_any _ at_ _ l (Hv.out.up Hx7.out)).mono ?_
        rintro e w8 ⟨rfl, hx⟩
        rw [Hok.out]
        have Hx8 := Lib.hid hx
        clear hx b0 b1 d0 d1 d2 d3 cV
        obtain ⟨b0, b1, d0, d1, d2, d3⟩ := HS7.out _ Hx8.out
        go_wp2_with fail
        refine (rsame_any _ g1 g1 _ _ g2 g2 (SL.up Hf67.out Hx8.out) (SL.up Hf7.out Hx8.out)).mono ?_
        rintro e w9 ⟨rfl, hx⟩
        rw [decide_eq_true rfl]
        have Hx9 := Lib.hid (Ext.trans Hx8.out hx)
        clear hx b0 b1 d0 d1 d2 d3
        obtain ⟨c1, c2⟩ := Hc7.out _ Hx9.out
        go_wp2_with fail
        refine (awake_any w9).mono ?_
        rintro e w10 ⟨rfl, hx⟩
        have Hx10 := Lib.hid (Ext.trans Hx0.out (Ext.trans Hx7.out (Ext.trans Hx9.out hx)))
        clear hx c1 c2
        go_wp2
        go_ret
        exact ⟨rfl, Hx10.out⟩
    · have Hbad := Lib.hid hE
      clear hE
      go_wp2_with fail
      refine (evPut_bad w2 v2 at_ _ l (Hv.out.up Hx2.out) Hbad.out).mono ?_
      rintro e w3 ⟨rfl, hx⟩
      have Hx3 := Lib.hid (Ext.trans Hx2.out hx)
      have HB3 := Lib.hid (HB2.out.up' hx)
      clear hx b0 b1
      obtain ⟨b0, b1⟩ := HS.out _ Hx3.out
      go_wp2_with fail
      refine (rcheck_any w3 at_ _ l (Hv.out.up Hx3.out)).mono ?_
      rintro e w5 ⟨rfl, hx⟩
      have Hx5 := Lib.hid (Ext.trans Hx3.out hx)
      have HB5 := Lib.hid (HB3.out.up' hx)
      have HV5 := Lib.hid (BS.nil_ w5 w5.heap.size)
      have hE' : ((evE (at_, l) : Int) == 0) = false := by
        have := Hbad.out
        rw [beq_eq_false_iff_ne]
        omega
      clear hx b0 b1
      obtain ⟨b0, b1⟩ := HS.out _ Hx5.out
      go_wp2_with fail
      refine (eget_any w5.heap.size w5 v2 B HB5.out (Nat.le_refl _) (by omega)).mono ?_
      rintro e w6 ⟨he, hx⟩
      obtain ⟨u6, f6, rfl, hu6, hf6⟩ := he.all hx.size
      obtain ⟨A6, c6, rfl, _⟩ := hf6.form
      generalize hG : evR (evG B) = G at hu6 hf6 ⊢
      obtain ⟨⟨g1, g2⟩, gr, gE⟩ := G
      dsimp only at hu6 hf6 ⊢
      have HG := Lib.hid hG
      have hxa := Ext.of_alloc w6 (.cells #[.int .i64 g1, .slice A6 g2.length c6] 40)
      have Q60 := Lib.hid (cell_new w6 #[.int .i64 g1, .slice A6 g2.length c6] 40 0 (v := .int .i64 g1) rfl)
      have Q61 := Lib.hid (cell_new w6 #[.int .i64 g1, .slice A6 g2.length c6] 40 1 (v := .slice A6 g2.length c6) rfl)
      have hxb := Ext.trans hx hxa
      have Hx6 := Lib.hid (Ext.trans Hx5.out hxb)
      have HV6 := Lib.hid (HV5.out.up' hxb)
      have HB6 := Lib.hid (HB5.out.up' hxb)
      have Hu6 := Lib.hid (hu6.up' hxa)
      have Hf6 := Lib.hid (hf6.up hxa)
      clear hx hxa hxb hu6 hf6 he b0 b1 hG
      obtain ⟨b0, b1⟩ := HS.out _ Hx6.out
      go_wp2_with fail
      refine (rget_ev _ _ v2 B HB6.out (Nat.le_refl _) (by omega)).mono ?_
      rintro e w7 ⟨he, hx⟩
      obtain ⟨u7, f7, rfl, hu7, hf7⟩ := he.all hx.size
      rw [HG.out] at hu7 hf7 ⊢
      obtain ⟨A7, c7, rfl, _⟩ := hf7.form
      dsimp only at hu7 hf7 ⊢
      have hxa := Ext.of_alloc w7 (.cells #[.int .i64 g1, .slice A7 g2.length c7] 40)
      have hxb := Ext.trans hx hxa
      have q0 := cell_new w7 #[.int .i64 g1, .slice A7 g2.length c7] 40 0 (v := .int .i64 g1) rfl
      have q1 := cell_new w7 #[.int .i64 g1, .slice A7 g2.length c7] 40 1 (v := .slice A7 g2.length c7) rfl
      have q2 := Ext.keeps hxb Q60.out
      have q3 := Ext.keeps hxb Q61.out
      have hx7 := Ext.trans Hx6.out hxb
      have hS7 : ∀ W, Ext (w7.alloc (.cells #[.int .i64 g1, .slice A7 g2.length c7] 40)) W → W.cell? ⟨w.heap.size, 0, none⟩ = some (.int .i64 at_) ∧ W.cell? ⟨w.heap.size, 1, none⟩ = some (.slice A l.length c) ∧ W.cell? ⟨w7.heap.size, 0, none⟩ = some (.int .i64 g1) ∧ W.cell? ⟨w7.heap.size, 1, none⟩ = some (.slice A7 g2.length c7) ∧ W.cell? ⟨w6.heap.size, 0, none⟩ = some (.int .i64 g1) ∧ W.cell? ⟨w6.heap.size, 1, none⟩ = some (.slice A6 g2.length c6) := fun W h => ⟨(HS.out _ (Ext.trans hx7 h)).1, (HS.out _ (Ext.trans hx7 h)).2, Ext.keeps h q0, Ext.keeps h q1, Ext.keeps h q2, Ext.keeps h q3⟩
      have hc7 : ∀ W, Ext (w7.alloc (.cells #[.int .i64 g1, .slice A7 g2.length c7] 40)) W → (convert 25 9 u6).run Try.prog W = .ok (.string ⟨gr.toArray⟩) W ∧ (convert 25 9 u7).run Try.prog W = .ok (.string ⟨gr.toArray⟩) W := fun W h => ⟨str_of_bs (Hu6.out.up' (Ext.trans hxb h)) _ rfl, str_of_bs (hu7.up' (Ext.trans hxa h)) _ rfl⟩
      have HS7 := Lib.hid hS7
      have Hc7 := Lib.hid hc7
      have Hx7 := Lib.hid hx7
      have Hf67 := Lib.hid (Hf6.out.up hxb)
      have Hf7 := Lib.hid (hf7.up hxa)
      have cV := str_of_bs (HV6.out.up' hxb) _ rfl
      clear hx hxa hxb hu7 hf7 he b0 b1 hx7 hS7 hc7 q0 q1 q2 q3
      obtain ⟨b0, b1, d0, d1, d2, d3⟩ := HS7.out _ (Below.refl _ _)
      go_wp2_with fail
      refine (rcheck_any _ at_ _ l (Hv.out.up Hx7.out)).mono ?_
      rintro e w8 ⟨rfl, hx⟩
      have Hx8 := Lib.hid hx
      clear hx b0 b1 d0 d1 d2 d3 cV
      obtain ⟨b0, b1, d0, d1, d2, d3⟩ := HS7.out _ Hx8.out
      go_wp2_with fail
      refine (rsame_any _ g1 g1 _ _ g2 g2 (SL.up Hf67.out Hx8.out) (SL.up Hf7.out Hx8.out)).mono ?_
      rintro e w9 ⟨rfl, hx⟩
      rw [decide_eq_true rfl]
      have Hx9 := Lib.hid (Ext.trans Hx8.out hx)
      clear hx b0 b1 d0 d1 d2 d3
      obtain ⟨c1, c2⟩ := Hc7.out _ Hx9.out
      go_wp2_with fail
      refine (awake_any w9).mono ?_
      rintro e w10 ⟨rfl, hx⟩
      have Hx10 := Lib.hid (Ext.trans Hx0.out (Ext.trans Hx7.out (Ext.trans Hx9.out hx)))
      clear hx c1 c2
      go_wp2
      go_ret
      exact ⟨rfl, Hx10.out⟩
theorem evbytes_row (w : World) (vb v : Value) (bs : List UInt8) (x : Ev) {n : Nat} (o : ∃ cs, v = .agg cs ∧ cs.size = n) (hb : SL w (Bw w) vb bs) (h : Rep.r w (Bw w) v.cells.toList x) :
    Calls Try.prog 9 #[vb, v] w fun e w' => e = .returned (.bool true) ∧ Ext w w' := by
  obtain ⟨u, rfl, h6, hu⟩ := ev_arg o h
  exact evbytes_any w vb bs x.1 u x.2 hb hu h6.le
end Go.Proofs.Ytbnjhpknagkiaaa
