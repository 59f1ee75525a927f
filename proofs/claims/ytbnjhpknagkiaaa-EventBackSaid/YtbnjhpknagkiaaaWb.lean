/-
  Contracts of slices.Clone over fields, of event.Docs, the reference's Docs and SameDocs.
  Conditions: none.
-/
import Derived.Test.YtbnjhpknagkiaaaWa
import Derived.Test.YtbnjhpknagkiaaaEf
import Derived.Deep.RegionHeld3
import Derived.Deep.DrawnRows
namespace Go.Proofs.Ytbnjhpknagkiaaa
open Go.RowKit Go.Op

section
variable {α : Type} [Rep α]
theorem step_append_l {P : Program} {ops : Array Oper} {o : Oper} {a : Act} (w : World) {K : Act → World → Prop} {Q : Exit → Act → World → Prop} {E : Prop} (hgd : o.guard = none) (s x : Operand) (t : TypeId)
    (ho : o.op = .call { callee := .builtin .append, args := #[s, x], argTypes := #[t, t] })
    (base : Nat) (e : TypeId) (S : Nat → Prop) (z : Value) (bytes : Nat) (ht : P.underlying t = some (.slice e)) (hi : (P.info? e).map (fun i => (i.zero, i.size, i.bytes)) = some (some z, Rep.n α, bytes)) (hzs : z.cells.size = Rep.n α) (hsz : 0 < Rep.n α)
    (v : Value) (l : List α) (hs : a.eval s = v) (hown : OwnL w base e S v l)
    (B : Nat) (u : Value) (m : List α) (news : List Value) (hx : a.eval x = u) (hr : SV w B (Rep.n α) u m.length news) (hm : Reps w (fun k => S k ∧ k < w.heap.size ∧ some k ≠ v.ownBlock) news m)
    (h63 : l.length + m.length ≤ 1000000000) (hby : bytes ≤ 100000) (hbase : base ≤ w.heap.size)
    (h : ∀ v' w', OwnL w' base e S v' (l ++ m) → w.grownBy w' v.ownBlock → (v'.ownBlock = v.ownBlock ∨ v'.ownBlock = some w.heap.size) → K (a.put o.dst v') w') :
    if Region.wanted o (yielded ops a.tmps) = true then Oper.wp P o a w K Q else E := by
  have hw : Region.wanted o (yielded ops a.tmps) = true := by simp [Region.wanted, hgd]
  rw [if_pos hw]
  obtain ⟨xs, h1, h2⟩ := hown
  obtain ⟨i0, hi0, hz0, hz1, hz2⟩ := info_parts hi
  obtain ⟨A, c, rfl, _, _, _, hr⟩ := hr
  have hb : (l.length + m.length) * bytes ≤ 1000000000 * 100000 := Nat.mul_le_mul h63 hby
  obtain ⟨v', w', hrun, r1, r2, r3⟩ := run_append_rd (P := P) w base t o.type e i0 z (Rep.n α) bytes ht hi0 hz0 hz1 hz2 hzs hsz v l.length xs h1 B A m.length c news hr hm.one (by simp only [maxLen]; omega) (by omega) hbase
  unfold Oper.wp execOp
  simp only [ho, resolve, invoke, builtin, Sem.run_bind, Sem.run_pure, Result.andThen_ok, List.map_toArray, List.map_cons, List.map_nil, hs, hx, hrun]
  exact h v' w' (OwnL.appended h2 hm r1 r2 r3) r2 r3
end

theorem SL.sv {α : Type} [Rep α] {w : World} {v : Value} {l : List α} (h : SL w (Bw w) v l) : ∃ xs, SV w w.heap.size (Rep.n α) v l.length xs ∧ Reps w (Bw w) xs l := by
  obtain ⟨A, c, xs, e, h1, h2, h3, h4, h5⟩ := h
  exact ⟨xs, ⟨A, c, e, h1, h2, h3, h4.rd⟩, h5⟩
/-- a new row of no element, of no room -/
theorem OwnL.empty_ {α : Type} [Rep α] (w : World) (e t : TypeId) (S : Nat → Prop) (he : e = t) : OwnL (α := α) (w.alloc (.cells #[] t)) w.heap.size e S (.slice (some ⟨w.heap.size, 0, none⟩) 0 0) [] := by
  subst he
  exact ⟨[], World.ownsRow_made w #[] 0 (by simp) (by simp [maxLen]) (by simp), rfl⟩
theorem reps_fldsW {w w' : World} {S S' : Nat → Prop} : ∀ {l : List Fld} {xs : List Value}, Reps w S xs l → Reps w' S' xs l
  | [], _, h => h
  | _ :: _, _, h => by
    obtain ⟨cs, rest, e, ⟨c1, c2, e2, h1, h2⟩, h3⟩ := h
    exact ⟨cs, rest, e, ⟨c1, c2, e2, h1, h2⟩, reps_fldsW h3⟩

set_option maxHeartbeats 400000 in
theorem clonef_any (w : World) (v : Value) (l : List Fld) (h : SL w (Bw w) v l) (hl : l.length ≤ 1000000) :
    Calls Try.prog 58 #[v] w fun e w' => ∃ v', e = .returned v' ∧ OwnL w' w.heap.size 59 (fun _ => False) v' l ∧ Ext w w' := by
  obtain ⟨xs, ⟨A, c, rfl, hc, hm, hnil, hr⟩, hreps⟩ := h.sv
  have hq := fun (W : World) => Lib.run_eql_slice_nil (P := Try.prog) W 38 59 A l.length c 0 0 Try.underlying38
  rcases A with _ | ad
  · have hb : l = [] := by
      rcases l with _ | ⟨b, bs⟩
      · rfl
      · obtain ⟨ad, h, _⟩ := hr.2 (by simp)
        cases h
    subst hb
    obtain rfl := hnil rfl
    have hq := fun (W : World) => Lib.run_eql_slice_nil (P := Try.prog) W 38 59 none 0 0 0 0 Try.underlying38
    show Calls Try.prog 58 #[.slice none 0 0] w _
    go_enter Try.func58, Try.ntmps58
    go_wp2
    go_ret
    exact ⟨_, rfl, OwnL.nil_ _ _ _ _, Below.refl _ _⟩
  · have Hsv := Lib.hid (SV.ext ⟨some ad, c, rfl, hc, hm, hnil, hr⟩ (Nat.le_refl _) (Ext.of_alloc w (.cells #[] 59)))
    have Hr := Lib.hid hreps
    clear h hr hreps hnil
    go_enter Try.func58, Try.ntmps58
    go_wp2_with (at_builtin; go_loud (refine wpList_append_l _ rfl (.tmp 5) (.tmp 6) 38 rfl w.heap.size 59 (fun _ => False) (.agg #[.string ⟨#[]⟩, .string ⟨#[]⟩]) 32 Try.underlying38 info_fld rfl (by decide) (.slice (some ⟨w.heap.size, 0, none⟩) 0 0) [] rfl (OwnL.empty_ w _ _ _ rfl) w.heap.size _ l xs rfl Hsv.out (reps_fldsW Hr.out) (by simp; omega) (by omega) (by simp) ?_; intro v1 w1 hown1 hg1 hat1))
    go_ret
    exact ⟨_, rfl, hown1, ((Below.refl _ _).alloc (Nat.le_refl _) _).grown hg1 (by simp) (by simp [Value.ownBlock])⟩
set_option maxHeartbeats 3200000 in
set_option maxRecDepth 100000 in
theorem samedocs_any (w : World) (u v : Value) (l m : List Doc) (hu : SL w (Bw w) u l) (hv : SL w (Bw w) v m) :
    Calls Try.prog 35 #[u, v] w fun e w' => e = .returned (.bool (decide (l = m))) ∧ Ext w w' := by
  obtain ⟨A, c, rfl, hc, hm⟩ := hu.form
  obtain ⟨A', c', rfl, hc', hm'⟩ := hv.form
  have hml : (l.length : Int) ≤ 9223372036854775807 := by unfold maxLen at hm; omega
  have Hu := Lib.hid hu
  have Hv := Lib.hid hv
  clear hu hv hm hm'
  by_cases hl : l.length = m.length
  · have tl : ((l.length : Int) != (m.length : Int)) = false := by simp [hl]
    have Hl := Lib.hid hl
    clear hl
    go_enter Try.func35, Try.ntmps35
    go_wp2_with fail
    go_loopw [5] (fun i wr => ∃ k : Nat, i = .int .i64 k ∧ k ≤ l.length ∧ l.take k = m.take k ∧ Ext w wr) (fun i _ => l.length - (intOf i).toNat)
    case atStart => exact ⟨0, rfl, Nat.zero_le _, rfl, Below.refl _ _⟩
    case round =>
      obtain ⟨k, rfl, hk, ht, hx⟩ := hrel
      have Hx := Lib.hid hx
      have Ht := Lib.hid ht
      by_cases hlt : k < l.length
      · have hlt2 : k < m.length := by have := Hl.out; omega
        have hk2 : (k : Int) < (m.length : Int) := by omega
        obtain ⟨ad, u, rfl, _, hc0, hc1, hc2, hu, _⟩ := (Hu.out.up hx).doc_at hlt
        obtain ⟨ad2, u2, rfl, _, hd0, hd1, hd2, hv, _⟩ := (Hv.out.up hx).doc_at hlt2
        have hklt : (k : Int) < l.length := by omega
        have htl := take_nextE l hlt
        have htm := take_nextE m hlt2
        have hll : l = m → l[k] = m[k] := fun h => by subst h; rfl
        generalize l[k] = N at hc0 hc1 hc2 hu htl hll
        generalize m[k] = N2 at hd0 hd1 hd2 hv htm hll
        obtain ⟨d, a, ps⟩ := N
        obtain ⟨d2, a2, ps2⟩ := N2
        dsimp only at hc0 hc1 hc2 hu hd0 hd1 hd2 hv
        obtain ⟨Au, cu, rfl, _, _⟩ := hu.form
        obtain ⟨Av, cv, rfl, _, _⟩ := hv.form
        have HU := Lib.hid (hu.up (Ext.drew wr))
        have HV := Lib.hid (hv.up (Ext.drew wr))
        have Htl := Lib.hid htl
        have Htm := Lib.hid htm
        have Hll := Lib.hid hll
        have he := doc_eq d d2 (a, ps) (a2, ps2)
        have hR : decide (((d, a, ps) : Doc) = (d2, a2, ps2)) = true → ((d, a, ps) : Doc) = (d2, a2, ps2) := of_decide_eq_true
        have hR2 : decide (((d, a, ps) : Doc) = (d2, a2, ps2)) = false → ¬((d, a, ps) : Doc) = (d2, a2, ps2) := of_decide_eq_false
        generalize decide (((d, a, ps) : Doc) = (d2, a2, ps2)) = R at he hR hR2
        have HR := Lib.hid hR
        have HR2 := Lib.hid hR2
        clear hu hv hx ht htl htm hll hR hR2
        by_cases hab : d = d2
        · have t1 : (d != d2) = false := by simpa using hab
          have He2 := Lib.hid (show decide (((a, ps) : Ev) = (a2, ps2)) = R by rw [he, show (d == d2) = true by simpa using hab, Bool.true_and])
          clear hab he
          go_wp2_with fail
          go_region_held3 (fun W => W.cell? (ad.add (k * 3)) = some (.int .i64 d) ∧ W.cell? ⟨(ad.add (k * 3)).block, (ad.add (k * 3)).off + 1, none⟩ = some (.int .i64 a) ∧ W.cell? ⟨(ad.add (k * 3)).block, (ad.add (k * 3)).off + 2, none⟩ = some (.slice Au ps.length cu) ∧
              W.cell? (ad2.add (k * 3)) = some (.int .i64 d2) ∧ W.cell? ⟨(ad2.add (k * 3)).block, (ad2.add (k * 3)).off + 1, none⟩ = some (.int .i64 a2) ∧ W.cell? ⟨(ad2.add (k * 3)).block, (ad2.add (k * 3)).off + 2, none⟩ = some (.slice Av ps2.length cv))
            (first
              | exact ⟨Ext.keeps (Ext.drew _) hc0, Ext.keeps (Ext.drew _) hc1, Ext.keeps (Ext.drew _) hc2, Ext.keeps (Ext.drew _) hd0, Ext.keeps (Ext.drew _) hd1, Ext.keeps (Ext.drew _) hd2⟩
              | exact ⟨Ext.keeps x2 hc0, Ext.keeps x2 hc1, Ext.keeps x2 hc2, Ext.keeps x2 hd0, Ext.keeps x2 hd1, Ext.keeps x2 hd2⟩
              | fail)
            (first
              | (go_at_call 20
                 refine (rsame_any _ a a2 _ _ ps ps2 HU.out HV.out).mono ?_
                 rintro e w2 ⟨rfl, hx2⟩
                 rw [He2.out]
                 have x2 := Ext.trans (Ext.drew wr) hx2)
              | fail)
          have HX := Lib.hid (Ext.trans Hx.out x2)
          clear hx2 x2 He2 hc0 hc1 hc2 hd0 hd1 hd2
          cases hRb : R with
          | true =>
            have He := Lib.hid (HR.out hRb)
            clear HR HR2
            go_wp2
            exact ⟨⟨k + 1, rfl, by omega, by rw [Htl.out, Htm.out, Ht.out, He.out], HX.out⟩, by simp only [intOf]; omega⟩
          | false =>
            have He := Lib.hid (HR2.out hRb)
            clear HR HR2
            go_wp2
            go_ret
            exact ⟨by rw [decide_eq_false (fun h => He.out (Hll.out h))]; rfl, HX.out⟩
        · have t1 : (d != d2) = true := by simpa using hab
          have He := Lib.hid (HR2.out (by rw [he, show (d == d2) = false by simpa using hab, Bool.false_and]))
          clear hab he HR HR2
          go_wp2_with fail
          go_quiet (fail)
          all_goals go_wp2
          all_goals go_ret
          all_goals exact ⟨by rw [decide_eq_false (fun h => He.out (Hll.out h))]; rfl, Hx.out.drN _⟩
      · have hklt : ¬(k : Int) < l.length := by omega
        have hd : decide (l = m) = true := decide_eq_true (by
          have := Hl.out
          have h2 := Ht.out
          rw [List.take_of_length_le (by omega), List.take_of_length_le (by omega)] at h2
          exact h2)
        have Hd := Lib.hid hd
        clear hd hx ht
        go_wp2
        go_ret
        exact ⟨by rw [Hd.out]; rfl, Hx.out⟩
  · have tl : ((l.length : Int) != (m.length : Int)) = true := by rw [bne_iff_ne]; omega
    have hd : decide (l = m) = false := decide_eq_false (fun h => hl (by rw [h]))
    have Hd := Lib.hid hd
    clear hd hl
    go_enter Try.func35, Try.ntmps35
    go_wp2
    go_ret
    exact ⟨by rw [Hd.out]; rfl, Below.refl _ _⟩

/-- a batch's docs -/
def dcs : Int → List Ev → List Doc
  | _, [] => []
  | s, e :: l => (s, e) :: dcs (s + 1) l
theorem dcs_take {l : List Ev} {k : Nat} (hk : k < l.length) (s : Int) : dcs s (l.take (k + 1)) = dcs s (l.take k) ++ [(s + k, l[k])] := by
  induction l generalizing k s with
  | nil => simp at hk
  | cons x l ih =>
    cases k with
    | zero => simp [dcs]
    | succ k =>
      have := ih (k := k) (by simpa using hk) (s + 1)
      simp only [List.take_succ_cons, dcs, List.getElem_cons_succ, this, List.cons_append]
      rw [show s + 1 + (k : Int) = s + ((k + 1 : Nat) : Int) by omega]
theorem dcs_len : ∀ (s : Int) (l : List Ev), (dcs s l).length = l.length
  | _, [] => rfl
  | s, _ :: l => by simp [dcs, dcs_len (s + 1) l]
/-- what Docs answer -/
def docsR (b : Bat) : List Doc := if batE b = 0 then dcs b.1 b.2 else []
theorem docsR_ok {b : Bat} (h : batE b = 0) : docsR b = dcs b.1 b.2 := if_pos h
theorem docsR_bad {b : Bat} (h : batE b ≠ 0) : docsR b = [] := if_neg h

set_option maxHeartbeats 3200000 in
set_option maxRecDepth 100000 in
theorem docs_any (w : World) (s : Int) (v : Value) (l : List Ev) (hv : SL w (Bw w) v l) (hs : I6 s) :
    Calls Try.prog 36 #[.agg #[.int .i64 s, v]] w fun e w' => ∃ u, e = .returned u ∧ SL w' (Bw w') u (docsR (s, l)) ∧ Ext w w' := by
  obtain ⟨A, c, rfl, hc, hm⟩ := hv.form
  have Hx0 : Hid (Ext w (w.alloc (.cells #[.int .i64 s, .slice A l.length c] 24))) := Lib.hid (Ext.of_alloc _ _)
  have hS : ∀ W, Ext (w.alloc (.cells #[.int .i64 s, .slice A l.length c] 24)) W → W.cell? ⟨w.heap.size, 0, none⟩ = some (.int .i64 s) ∧ W.cell? ⟨w.heap.size, 1, none⟩ = some (.slice A l.length c) := fun W h =>
    ⟨Ext.keeps h (cell_new w #[.int .i64 s, .slice A l.length c] 24 0 (v := .int .i64 s) rfl), Ext.keeps h (cell_new w #[.int .i64 s, .slice A l.length c] 24 1 (v := .slice A l.length c) rfl)⟩
  have HS := Lib.hid hS
  have Hv := Lib.hid (hv.up Hx0.out)
  clear hv hS
  go_enter Try.func36, Try.ntmps36
  go_wp2_with fail
  refine (cbatch_any _ s _ l Hv.out hs).mono ?_
  rintro e w1 ⟨rfl, hx⟩
  have Hx1 := Lib.hid hx
  have Hv1 := Lib.hid (Hv.out.up hx)
  obtain ⟨b0, b1⟩ := HS.out _ hx
  clear hx
  by_cases hE : batE (s, l) = 0
  · obtain ⟨hl0, hl64, hev, hs1, hs2⟩ := batE_spec hE
    dsimp only at hl0 hl64 hev hs1 hs2
    have Hev := Lib.hid hev
    have HR := Lib.hid (docsR_ok hE)
    rw [hE]
    clear hE hev
    go_wp2_with fail
    go_loopw [3, 12] (fun o i wr => ∃ (k : Nat) (L : List Doc), i = .int .i64 k ∧ k ≤ l.length ∧ L.length = k ∧ L = dcs s (l.take k) ∧ OwnL wr w1.heap.size 93 (fun k => w1.heap.size ≤ k) o L ∧ Ext w1 wr) (fun _ i _ => l.length - (intOf i).toNat)
    case atStart => exact ⟨0, [], rfl, Nat.zero_le _, rfl, rfl, OwnL.nil_ _ _ _ _, Below.refl _ _⟩
    case round =>
      obtain ⟨k, L, rfl, hk, hL, hLd, hol, hx⟩ := hrel
      obtain ⟨Al, cl, rfl, hclo, hmo⟩ := hol.form
      have hsz := hx.size
      have Hol := Lib.hid hol
      have Hx := Lib.hid hx
      have HLd := Lib.hid hLd
      have hLk : L.length ≤ 1000 := by omega
      have HL := Lib.hid hL
      clear hol hL hLd b0 b1
      by_cases hlk : k < l.length
      · have hkl : (k : Int) < l.length := by omega
        obtain ⟨b0, b1⟩ := HS.out _ (Ext.trans Hx1.out hx)
        obtain ⟨ad, u, rfl, _, d0, d1, hu, h6⟩ := (Hv1.out.up hx).ev_at hlk
        have hfl := (evE_spec (Hev.out _ (List.getElem_mem hlk))).1
        have Hstep := Lib.hid (dcs_take hlk s)
        generalize l[k] = N at d0 d1 hu h6 hfl Hstep
        obtain ⟨a_, fs⟩ := N
        dsimp only at d0 d1 hu h6 hfl
        obtain ⟨Au, cu, rfl, _⟩ := hu.form
        obtain ⟨q, hq⟩ : ∃ q, q = s + (k : Int) := ⟨_, rfl⟩
        have hsk : IntKind.i64.wrap (s + (k : Int)) = q := by rw [IntKind.wrap_i64, hq]; omega
        rw [← hq] at Hstep
        have Hq : Hid (1 ≤ q ∧ q ≤ 2000000000000) := Lib.hid (by omega)
        clear hq
        have hx2 := Ext.of_alloc wr (.cells #[.int .i64 a_, .slice Au fs.length cu] 40)
        have Hux := Lib.hid (SL.up hu hx2)
        have Hx2 := Lib.hid hx2
        have HT2 : Hid (VBox (wr.alloc (.cells #[.int .i64 a_, .slice Au fs.length cu] 40)) wr.heap.size a_ (.slice Au fs.length cu)) := Lib.hid (heap_alloc_new wr _)
        obtain ⟨v0, v1, v2, v3⟩ := HT2.out.cell
        have Hb0 := Lib.hid b0
        clear hu hx2 hx
        go_wp2_with fail
        refine (clonef_any _ _ fs Hux.out (by omega)).mono ?_
        rintro e w3 ⟨uc, rfl, hoc, hx3⟩
        obtain ⟨Ac, cc, rfl, _⟩ := hoc.form
        have hsc := hoc.sl_own fun _ _ _ _ => reps_fldsW
        have hT3 := HT2.out.ext hx3
        obtain ⟨t0, t1, tf1, tf2⟩ := hT3.cell
        obtain ⟨z0, z1, _⟩ := (hT3.set1 (.slice Ac fs.length cc)).cell
        have hk3 := Kept.setCell (fun k => k = wr.heap.size) w3 ⟨wr.heap.size, 1, none⟩ (.slice Ac fs.length cc) rfl
        have hs3 := (Ext.trans Hx2.out hx3).size
        have hs3b := hx3.size
        rw [World.size_alloc] at hs3b
        have hs4 : (w3.setCell ⟨wr.heap.size, 1, none⟩ (.slice Ac fs.length cc)).heap.size = w3.heap.size := by simp
        have hlto : ∀ k, (Value.slice Al L.length cl).ownBlock = some k → w1.heap.size ≤ k ∧ k < wr.heap.size := by
          intro k hk
          obtain ⟨xs, h1, _⟩ := Hol.out
          exact ⟨Hol.out.ge k hk, (World.ownsRow.lt h1 k hk).2⟩
        have hsv := SV.one_ (w3.setCell ⟨wr.heap.size, 1, none⟩ (.slice Ac fs.length cc)) #[.int .i64 q, .int .i64 a_, .slice Ac fs.length cc] 93 3 rfl
        rw [hs4] at hsv
        have hol6 : OwnL ((w3.setCell ⟨wr.heap.size, 1, none⟩ (.slice Ac fs.length cc)).alloc (.cells #[.int .i64 q, .int .i64 a_, .slice Ac fs.length cc] 93)) w1.heap.size 93 (fun k => w1.heap.size ≤ k) (.slice Al L.length cl) L :=
          (OwnL.kpt (T := fun k => k = wr.heap.size) Hol.out (((Ext.trans Hx2.out hx3).kept _).trans hk3) (fun k hk => .inr (by omega)) (fun k hk => hk)).ext (Ext.of_alloc _ _)
        have hreps : Reps (α := Doc) ((w3.setCell ⟨wr.heap.size, 1, none⟩ (.slice Ac fs.length cc)).alloc (.cells #[.int .i64 q, .int .i64 a_, .slice Ac fs.length cc] 93)) (fun k => w1.heap.size ≤ k ∧ k < ((w3.setCell ⟨wr.heap.size, 1, none⟩ (.slice Ac fs.length cc)).alloc (.cells #[.int .i64 q, .int .i64 a_, .slice Ac fs.length cc] 93)).heap.size ∧ some k ≠ (Value.slice Al L.length cl).ownBlock) [.int .i64 q, .int .i64 a_, .slice Ac fs.length cc] [(q, a_, fs)] := by
          refine Reps.single (rep_doc (I6.mk (by have := Hq.out; omega)) h6 (((hsc.keep (Sm.of_kept hk3 fun k hk => ⟨hk.2, fun e => by have := hk.1; simp at this; omega⟩)).keep (Sm.of_ext (Ext.of_alloc _ (.cells #[.int .i64 q, .int .i64 a_, .slice Ac fs.length cc] 93)) fun k hk => by have := hk.2; omega)).more fun k hk => ⟨by have := hk.1; simp at this; omega, by have := hk.2; simp; omega, fun e => ?_⟩))
          have := hlto k e.symm
          have := hk.1
          simp at this
          omega
        have Hsv := Lib.hid hsv
        have Hol6 := Lib.hid hol6
        have Hreps := Lib.hid hreps
        have Hlto := Lib.hid hlto
        have hxe : Ext w1 (w3.setCell ⟨wr.heap.size, 1, none⟩ (.slice Ac fs.length cc)) := Ext.put (Ext.trans Hx.out (Ext.trans Hx2.out hx3)) hk3 hsz
        have Hxe := Lib.hid hxe
        have hqb : w1.heap.size ≤ ((w3.setCell ⟨wr.heap.size, 1, none⟩ (.slice Ac fs.length cc)).alloc (.cells #[.int .i64 q, .int .i64 a_, .slice Ac fs.length cc] 93)).heap.size := by rw [World.size_alloc, hs4]; omega
        have b3 := (HS.out _ (Ext.trans Hx1.out hxe)).1
        clear hsv hol6 hreps hlto hxe hx3 hoc hsc hT3 hk3 h6 v0 v1 v2 v3 b0 b1
        go_wp2_with (at_builtin; go_loud (refine wpList_append_l _ rfl (.tmp 21) (.tmp 28) 65 rfl w1.heap.size 93 (fun j => w1.heap.size ≤ j) (.agg #[.int .i64 0, .int .i64 0, .slice none 0 0]) 40 Try.underlying65 info_doc rfl (by decide) (.slice Al L.length cl) L rfl Hol6.out (w3.heap.size + 1) (.slice (some ⟨w3.heap.size, 0, none⟩) 1 1) [(q, a_, fs)] [.int .i64 q, .int .i64 a_, .slice Ac fs.length cc] rfl Hsv.out Hreps.out (by simp; omega) (by omega) hqb ?_; intro v6 w6 hown6 hg6 hat6; generalize hps : L ++ [(q, a_, fs)] = PS at hown6; obtain ⟨A6, c6, rfl, _, _⟩ := hown6.form; have hk6 : Kept (fun j => (Value.slice Al L.length cl).ownBlock = some j) (w3.setCell ⟨wr.heap.size, 1, none⟩ (.slice Ac fs.length cc)) w6 := (Ext.kept (Ext.of_alloc _ _) _).trans (grown_kept hg6 fun r hr _ => hr); have Hps := Lib.hid hps; have Hk6 := Lib.hid hk6; have Hown6 := Lib.hid hown6; clear hps hk6 hown6 hg6 hat6))
        obtain rfl := Hps.out
        have hx6 : Below w1.heap.size (w3.setCell ⟨wr.heap.size, 1, none⟩ (.slice Ac fs.length cc)) w6 := Hk6.out.below Hxe.out.size fun k hk => (Hlto.out k hk).1
        exact ⟨⟨k + 1, _, by go_num, by omega, by rw [List.length_append, HL.out]; rfl, by rw [Hstep.out, HLd.out], Hown6.out, Below.trans Hxe.out hx6⟩, by simp only [intOf]; omega⟩
      · have hkl : ¬(k : Int) < l.length := by omega
        have hfin := HLd.out
        rw [List.take_of_length_le (by omega)] at hfin
        have Hfin := Lib.hid hfin
        clear hfin hx
        go_wp2
        go_ret
        exact ⟨_, rfl, by rw [HR.out, ← Hfin.out]; exact Hol.out.sl, Ext.trans Hx0.out (Ext.trans Hx1.out Hx.out)⟩
  · have HR := Lib.hid (docsR_bad hE)
    have hE' : ((batE (s, l) : Int) != 0) = true := by rw [bne_iff_ne]; omega
    generalize batE (s, l) = E at hE'
    clear hE
    go_wp2
    go_ret
    exact ⟨_, rfl, by rw [HR.out]; exact SL.nil_ _ _, Ext.trans Hx0.out Hx1.out⟩
end Go.Proofs.Ytbnjhpknagkiaaa
