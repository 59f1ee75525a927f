/-
  Contract of stored.Encode.
  Conditions: not more than 70,000 docs, their bytes at most 700,000.
-/
import Derived.Test.YtnajmpkdeenkbaaEn
namespace Go.Proofs.Ytnajmpkdeenkbaa
open Go.RowKit Go.Op
attribute [local go_sem] Oper.semAt_some

theorem NB.of_grown {B base : Nat} {W W' : World} {v : Value} {bs : List UInt8} (ho : Own W base v bs) (hg : W.grownBy W' v.ownBlock) : NB B W W' := by
  refine ⟨hg.size, fun r o _ hr hc => (hg.block r (Array.getElem?_eq_some_iff.1 hr).1 fun e => ?_).trans hr⟩
  rcases own_cells ho hr hc with h | h
  · rw [h] at e; cases e
  · exact h e.symm
theorem NB.setBox (B k : Nat) (W : World) (v : Value) (hk : k < B) : NB B W (W.setCell ⟨k, 0, none⟩ v) := by
  have hg := grownBy_setCell' W k v
  exact ⟨hg.size, fun r o hr ho _ => (hg.block r (Array.getElem?_eq_some_iff.1 ho).1 fun e => by injection e with e; omega).trans ho⟩
/-- between two blocks of the outer loop -/
structure EnSt (w : World) (B : Nat) (sv : Value) (W : World) (vh vb : Value) (hd bd : List UInt8) : Prop where
  bh : Boxed W B 23 vh
  bb : Boxed W (B + 1) 23 vb
  bs : Boxed W (B + 2) 22 sv
  oh : Own W w.heap.size vh hd
  ob : Own W w.heap.size vb bd
  ne : vh.ownBlock = none ∨ vh.ownBlock ≠ vb.ownBlock
  bel : Below w.heap.size w W
  size : B + 3 ≤ W.heap.size
  base : w.heap.size ≤ B
section
variable {w : World} {B : Nat} {sv : Value} {W W' : World} {vh vb : Value} {hd bd : List UInt8}
theorem EnSt.ext (h : EnSt w B sv W vh vb hd bd) (hx : Ext W W') : EnSt w B sv W' vh vb hd bd := by
  have hk : ∀ k t x, Boxed W k t x → Boxed W' k t x := fun k t x hb => (hx.block k hb.lt).trans hb
  exact ⟨hk _ _ _ h.bh, hk _ _ _ h.bb, hk _ _ _ h.bs, Own.ext h.oh hx, Own.ext h.ob hx, h.ne, h.bel.trans (hx.mono h.bel.size), Nat.le_trans h.size hx.size, h.base⟩
/-- a block that is no box of these and no row of bytes is turned -/
theorem EnSt.one (h : EnSt w B sv W vh vb hd bd) {r : Nat} (hr : B + 3 ≤ r) (hg : W.grownBy W' (some r)) (h1 : vh.ownBlock = none ∨ vh.ownBlock ≠ some r) (h2 : vb.ownBlock = none ∨ vb.ownBlock ≠ some r) : EnSt w B sv W' vh vb hd bd := by
  have hk : ∀ k t x, k < B + 3 → Boxed W k t x → Boxed W' k t x := fun k t x hlt hb => (hg.block k hb.lt (fun e => by injection e with e; omega)).trans hb
  have := h.base
  exact ⟨hk _ _ _ (by omega) h.bh, hk _ _ _ (by omega) h.bb, hk _ _ _ (by omega) h.bs, World.ownsRow.kept h.oh hg h1, World.ownsRow.kept h.ob hg h2, h.ne,
    h.bel.grown hg h.bel.size (fun k e => by injection e with e; omega), Nat.le_trans h.size hg.size, h.base⟩
theorem EnSt.turn (h : EnSt w B sv W vh vb hd bd) {r : Nat} {o : Obj} (o' : Obj) (hr : B + 3 ≤ r) (ho : W.heap[r]? = some o) (hc : o.isCells = false) : EnSt w B sv (W.putObj r o') vh vb hd bd := by
  have hn : ∀ cs f, o ≠ .cells cs 5 f := fun cs f e => by rw [e] at hc; cases hc
  exact h.one hr (grownBy_putObj' W r o') (own_cells h.oh ho hn) (own_cells h.ob ho hn)
theorem EnSt.setInt (h : EnSt w B sv W vh vb hd bd) {r : Nat} {x : Value} (v : Value) (hr : B + 3 ≤ r) (hb : Boxed W r 3 x) : EnSt w B sv (W.setCell ⟨r, 0, none⟩ v) vh vb hd bd :=
  h.one hr (grownBy_setCell' W r v) (box_not hb (by decide) h.oh) (box_not hb (by decide) h.ob)
/-- 'head = ..' a row -/
theorem EnSt.setHead (h : EnSt w B sv W vh vb hd bd) {u : Value} {us : List UInt8} (hu : Own W w.heap.size u us) (hne : u.ownBlock = none ∨ u.ownBlock ≠ vb.ownBlock) : EnSt w B sv (W.setCell ⟨B, 0, none⟩ u) u vb us bd := by
  have hg := grownBy_setCell' W B u
  have hk : ∀ k t x, k ≠ B → Boxed W k t x → Boxed (W.setCell ⟨B, 0, none⟩ u) k t x := fun k t x hn hb => (hg.block k hb.lt (fun e => by injection e with e; exact hn e)).trans hb
  have := h.base
  exact ⟨h.bh.set _, hk _ _ _ (by omega) h.bb, hk _ _ _ (by omega) h.bs, World.ownsRow.kept hu hg (box_not h.bh (by decide) hu), World.ownsRow.kept h.ob hg (box_not h.bh (by decide) h.ob), hne,
    h.bel.grown hg h.bel.size (fun k e => by injection e with e; omega), Nat.le_trans h.size hg.size, h.base⟩
/-- 'body = append(body, ..)' -/
theorem EnSt.setBody (h : EnSt w B sv W vh vb hd bd) {u : Value} {us : List UInt8} (hu : Own W' w.heap.size u us) (hg1 : W.grownBy W' vb.ownBlock) (hat : u.ownBlock = vb.ownBlock ∨ u.ownBlock = some W.heap.size) :
    EnSt w B sv (W'.setCell ⟨B + 1, 0, none⟩ u) vh u hd us := by
  have hk1 : ∀ k t x, t ≠ 5 → Boxed W k t x → Boxed W' k t x := fun k t x ht hb => (hg1.block k hb.lt (fun e => by
    rcases box_not hb ht h.ob with h | h
    · rw [h] at e; cases e
    · exact h e.symm)).trans hb
  have b1 := hk1 _ _ _ (by decide) h.bh
  have b2 := hk1 _ _ _ (by decide) h.bb
  have b3 := hk1 _ _ _ (by decide) h.bs
  have hoh : Own W' w.heap.size vh hd := World.ownsRow.kept h.oh hg1 h.ne
  have hg := grownBy_setCell' W' (B + 1) u
  have hk : ∀ k t x, k ≠ B + 1 → Boxed W' k t x → Boxed (W'.setCell ⟨B + 1, 0, none⟩ u) k t x := fun k t x hn hb => (hg.block k hb.lt (fun e => by injection e with e; exact hn e)).trans hb
  have := h.base
  have hs := hg1.size
  have hsz := h.size
  refine ⟨hk _ _ _ (by omega) b1, b2.set _, hk _ _ _ (by omega) b3, World.ownsRow.kept hoh hg (box_not b2 (by decide) hoh), World.ownsRow.kept hu hg (box_not b2 (by decide) hu), ?_,
    (h.bel.grown hg1 h.bel.size (own_ge h.ob)).grown hg (Nat.le_trans h.bel.size hs) (fun k e => by injection e with e; omega), Nat.le_trans hsz (Nat.le_trans hs hg.size), h.base⟩
  rcases hat with e | e
  · rw [e]; exact h.ne
  · rw [e]
    rcases h.oh.2 with ⟨e1, _⟩ | ⟨g, cap, cur, rfl, _, hgb, _⟩
    · exact .inl (by rw [e1]; rfl)
    · refine .inr fun e2 => ?_
      have h1 : g = W.heap.size := by simpa [Value.ownBlock] using e2
      have := (Array.getElem?_eq_some_iff.1 hgb).1
      omega
end

set_option maxHeartbeats 4000000 in
set_option maxRecDepth 100000 in
theorem sencode_ok (w : World) (v : Value) (l : List Doc) (hv : SL w (Bw w) v l) (hr : Row l) (hsz : (dby 0 l).length ≤ 700000) (hl : l.length ≤ 70000) :
    Calls Try.prog 11 #[v] w fun e w' => ∃ u, e = .returned (.tuple #[u, .int .i64 0]) ∧ Own w' w.heap.size u (senc l) ∧ Ext w w' := by
  obtain ⟨A, c, rfl, hc, hm⟩ := hv.form
  have Hv := Lib.hid hv
  have Hr := Lib.hid hr.from_.1
  have He := Lib.hid (show errS l = 0 by unfold errS; rw [hr.ok]; rfl)
  clear hv hr
  refine (callsIn_wide (n := 4)).1 ?_
  refine callsIn_of_wp_marks Try.func11 rfl trivial ?_ rfl
  simp only [Try.ntmps11, List.size_toArray, List.length_cons, List.length_nil, Nat.reduceAdd, Nat.reduceSub, Array.replicate_succ, Array.replicate_zero, List.push_toArray, List.append_toArray, List.nil_append, List.cons_append]
  gi_wp2_with fail
  refine ⟨trivial, callsIn_wide.2 ((scheck_any w _ l Hv.out).mono ?_)⟩
  rintro e w1 ⟨rfl, hx1⟩
  rw [He.out]
  have Hx1 := Lib.hid hx1
  clear hx1
  gi_wp2_with fail
  refine ⟨trivial, callsIn_wide.2 ((put_any w1 w1.heap.size _ [] l.length (BS.nil_ _ _) (Nat.le_refl _) (by simp) (U64.mk (by omega))).mono ?_)⟩
  rintro e w2 ⟨v2, rfl, hv2, hx2⟩
  rw [List.nil_append] at hv2
  obtain ⟨A2, c2, rfl⟩ := (Own.bs hv2).form
  have Hx2 := Lib.hid (Ext.trans Hx1.out hx2)
  have Hv2 := Lib.hid (Own.base hv2 Hx1.out.size)
  clear hv2 hx2
  gi_wp2_with fail
  refine ⟨trivial, callsIn_wide.2 ((blocks_any _ A _ c).mono ?_)⟩
  rintro e w' ⟨rfl, rfl⟩
  have hB : w.heap.size ≤ w2.heap.size := Hx2.out.size
  generalize hBB : w2.heap.size = B at hB
  gi_wp2_with fail
  have hHdL : ∀ k, 16 * k < l.length + 16 → (enc l.length ++ encs (hns l k)).length ≤ 90000 := by
    intro k hk
    have e1 := enc_len10 (n := l.length) (U64.mk (by omega))
    have e2 := encs_len (hns l k) (hns_small Hr.out (by omega) k)
    rw [hns_len] at e2
    rw [List.length_append]
    omega
  have HHd := Lib.hid hHdL
  clear hHdL
  refine wpIn_rangeFunc_raw2 rfl (by omega) (gf := 47) (lb := #[.pointer (some ⟨B + 1 + 1, 0, none⟩)]) rfl trivial (enters_of Try.func47 (by kernel_rfl) rfl)
    (α := Nat × Value) (encs := fun x => #[.int .i64 (bkL l (x.1 + 1)), x.2]) (Kp := NB (B + 5)) (fun h k => h.trans k) ?hKb (fun _ => rfl)
    (fun _ x W1 => 16 * x.1 < l.length ∧ Own W1 (B + 5) x.2 (bkB l x.1) ∧ ∃ vh vb, EnSt w B (.slice A l.length c) W1 vh vb (enc l.length ++ encs (hns l x.1)) (dby 0 (l.take (16 * x.1))))
    (fun pre W1 => ∃ x : Nat × Value, pre.getLast? = some x ∧ 16 * x.1 < l.length ∧ ∃ vh vb, EnSt w B (.slice A l.length c) W1 vh vb (enc l.length ++ encs (hns l (x.1 + 1))) (dby 0 (l.take (16 * (x.1 + 1)))))
    (fun W1 => ∃ k, l.length ≤ 16 * k ∧ 16 * k < l.length + 16 ∧ ∃ vh vb, EnSt w B (.slice A l.length c) W1 vh vb (enc l.length ++ encs (hns l k)) (dby 0 (l.take (16 * k))))
    ?tI ?tI' ?tId
    (fun x a' _ => a' = { tmps := #[.slice A l.length c, undef, .slice none 0 0, .int .i64 0, .int .i64 0, .pointer (some ⟨B, 0, none⟩), .pointer (some ⟨B + 1, 0, none⟩), .int .i64 (bkL l (x.1 + 1)), x.2, .slice A l.length c, .int .i64 0, .int .i64 0, .bool false, undef, .slice A l.length c, .int .i64 l.length, .int .u64 l.length, .slice A2 (enc l.length).length c2, .slice A l.length c, .func (.func 47) #[] #[.pointer (some ⟨B + 1 + 1, 0, none⟩)], .int .i64 (bkL l (x.1 + 1)), x.2, undef, undef, undef, undef, undef, undef, undef, undef, undef, undef, undef, undef, undef, undef], defers := [] }) (fun _ _ _ _ _ h _ _ => h) ?assign ?body ?iter ?done
  case hKb =>
    intro W1 o o' ho hcl
    simp only [World.size_alloc, hBB] at ho ⊢
    have hg := grownBy_putObj' W1 (B + 1 + 1 + 1 + 1) o'
    exact ⟨hg.size, fun r ob hr hob _ => (hg.block r (Array.getElem?_eq_some_iff.1 hob).1 fun e => by injection e with e; omega).trans hob⟩
  case tI =>
    rintro pre x W1 o o' ⟨hk, hown, vh, vb, h⟩ ho hcl
    simp only [World.size_alloc, hBB] at ho ⊢
    exact ⟨hk, ownsRow_putObj hown _ ho hcl, vh, vb, h.turn o' (by omega) ho hcl⟩
  case tI' =>
    rintro pre W1 o o' ⟨x, hx, hk, vh, vb, h⟩ ho hcl
    simp only [World.size_alloc, hBB] at ho ⊢
    exact ⟨x, hx, hk, vh, vb, h.turn o' (by omega) ho hcl⟩
  case tId =>
    rintro W1 o o' ⟨k, hk, hk2, vh, vb, h⟩ ho hcl
    simp only [World.size_alloc, hBB] at ho ⊢
    exact ⟨k, hk, hk2, vh, vb, h.turn o' (by omega) ho hcl⟩
  case assign =>
    rintro lp pre ⟨k, xv⟩ W K hI hK
    gi_wp2
    exact hK _ _ (KeepsFrom.refl _ _) (NB.refl _ _) hI rfl
  case body =>
    rintro lp pre ⟨k, xv⟩ a' W1 hlw ⟨hk, hown, vh, vb, hst⟩ rfl
    dsimp only at hk hown hst ⊢
    have hHd := HHd.out k (by omega)
    have hbk := bkB_le l k
    have hLk := bkL_le Hr.out (k + 1)
    have hnx := hns_next l k
    have hdb := dby_block l k
    have hbl := dby_take_le l 0 (16 * k)
    generalize hLN : bkL l (k + 1) = LA at hLk hnx ⊢
    obtain ⟨LN, rfl⟩ : ∃ n : Nat, LA = n := ⟨LA.toNat, by omega⟩
    have hdbl : (dby 0 (l.take (16 * (k + 1)))).length ≤ 700000 := Nat.le_trans (dby_take_le l 0 _) hsz
    rw [hdb, List.length_append] at hdbl
    rw [Int.toNat_natCast] at hnx
    have Hnx := Lib.hid hnx
    have Hdb := Lib.hid hdb
    have hbB : (bkB l k).length ≤ 700000 := by omega
    generalize bkB l k = BB at *
    have hN2 : enc l.length ++ encs (hns l (k + 1)) = (enc l.length ++ encs (hns l k)) ++ enc LN ++ enc BB.length := by rw [Hnx.out]; simp only [List.append_assoc]
    have HN2 := Lib.hid hN2
    generalize enc l.length ++ encs (hns l k) = HD at *
    generalize dby 0 (l.take (16 * k)) = BD at *
    obtain ⟨Ab, cb, rfl⟩ := (Own.bs hown).form
    have Hst := Lib.hid hst
    have Hown := Lib.hid hown
    have hw2 : IntKind.u64.wrap (LN : Int) = LN := by rw [IntKind.wrap_u64]; omega
    have hbh := hst.bh.cell
    have eL := enc_len10 (n := LN) (U64.mk (by omega))
    have eB := enc_len10 (n := BB.length) (U64.mk (by omega))
    clear hst hown hnx hdb hbk hLN hN2
    gi_wp2_with fail
    refine ⟨trivial, CallsIn.inRound lp (callsIn_wide.2 ((put_any W1 W1.heap.size vh HD LN (Own.bs Hst.out.oh) (Nat.le_refl _) (by omega) (U64.mk (by omega))).mono ?_))⟩
    rintro e w3 ⟨v3, rfl, hv3, hx3⟩
    have Hv3 := Lib.hid hv3
    have Hx3 := Lib.hid hx3
    have l3 : (HD ++ enc LN).length ≤ 1000000 := by rw [List.length_append]; omega
    clear hv3 hx3 hbh
    gi_wp2_with fail
    refine ⟨trivial, CallsIn.inRound lp (callsIn_wide.2 ((put_any w3 w3.heap.size v3 (HD ++ enc LN) BB.length (Own.bs Hv3.out) (Nat.le_refl _) l3 (U64.mk (by omega))).mono ?_))⟩
    rintro e w4 ⟨v4, rfl, hv4, hx4⟩
    generalize hH4 : HD ++ enc LN ++ enc BB.length = HD4 at hv4
    have Hx4 := Lib.hid (Ext.trans Hx3.out hx4)
    have Hs4 := Lib.hid (Hst.out.ext Hx4.out)
    have Hv4 := Lib.hid hv4
    have bh4 := Hs4.out.bh.cell
    have bf4 := Hs4.out.bh.frozen
    have bb4 := Hs4.out.bb.cell
    have Hne : Hid (v4.ownBlock = none ∨ v4.ownBlock ≠ vb.ownBlock) := Lib.hid (by
      rcases hv4.2 with ⟨e1, _⟩ | ⟨g, cap, cur, rfl, hg1, hgb, _⟩
      · exact .inl (by rw [e1]; rfl)
      · refine .inr fun e => ?_
        rcases Hst.out.ob.2 with ⟨e2, _⟩ | ⟨g2, cap2, cur2, rfl, _, hgb2, _⟩
        · rw [e2] at e; cases e
        · have h1 : g = g2 := by simpa [Value.ownBlock] using e
          have := (Array.getElem?_eq_some_iff.1 hgb2).1
          have := Hx3.out.size
          omega)
    obtain ⟨A4, c4, rfl⟩ := (Own.bs Hv4.out).form
    have Hs5 := Lib.hid (Hs4.out.setHead (Own.base Hv4.out (by have := Hst.out.bel.size; have := Hx3.out.size; omega)) Hne.out)
    have bb5 := Hs5.out.bb.cell
    have Hown5 := Lib.hid (World.ownsRow.kept (Own.ext Hown.out Hx4.out) (grownBy_setCell' w4 B (.slice A4 HD4.length c4)) (box_not Hs4.out.bh (by decide) (Own.ext Hown.out Hx4.out)))
    have l5 : BD.length + BB.length ≤ 100000000 := by omega
    have Hko5 := Lib.hid ((Ext.others Hx4.out).trans (KeepsOthers.setCell w4 ⟨B, 0, none⟩ (.slice A4 HD4.length c4)))
    have Hnb5 : Hid (NB (B + 5) W1 (w4.setCell ⟨B, 0, none⟩ (.slice A4 HD4.length c4))) := Lib.hid ((NB.of_ext Hx4.out).trans (NB.setBox _ _ _ _ (by omega)))
    have hs5 : w.heap.size ≤ (w4.setCell ⟨B, 0, none⟩ (.slice A4 HD4.length c4)).heap.size := Hs5.out.bel.size
    clear hv4 hx4
    gi_wp2_with (gi_at_builtin; refine wpListIn_append_bytes _ rfl (.tmp 30) (.tmp 31) rfl w.heap.size vb BD rfl Hs5.out.ob _ (.slice Ab BB.length cb) BB rfl (Own.bs Hown5.out) l5 hs5 ?_; intro v9 w9 hown9 hg9 hat9; generalize hN9 : BD ++ BB = N9 at hown9; obtain ⟨A9, c9, h9f⟩ := (Own.bs hown9).form; subst h9f; have hs9 := Hs5.out.setBody hown9 hg9 hat9; have b9 : Boxed w9 (B + 1) 23 vb := (NB.of_grown (B := 0) Hs5.out.ob hg9).box Hs5.out.bb (Nat.zero_le _) (by decide); have hb9 := b9.cell; have hf9 := b9.frozen)
    have hnb9 : NB (B + 5) W1 (w9.setCell ⟨B + 1, 0, none⟩ (.slice A9 N9.length c9)) := (Hnb5.out.trans (NB.of_grown Hs5.out.ob hg9)).trans (NB.setBox _ _ _ _ (by omega))
    have hko9 : KeepsOthers W1 (w9.setCell ⟨B + 1, 0, none⟩ (.slice A9 N9.length c9)) := (Hko5.out.trans (KeepsOthers.of_grownBy hg9 (fun j o hj ho => by
      cases hcl : o.isCells with
      | true => rfl
      | false =>
        rcases own_cells Hs5.out.ob ho (fun cs f e => by rw [e] at hcl; cases hcl) with h | h
        · rw [h] at hj; cases hj
        · exact absurd hj h))).trans (KeepsOthers.setCell _ _ _)
    exact ⟨hko9.from _, hnb9, (k, .slice Ab BB.length cb), by simp, hk, _, _, by rw [HN2.out, Hdb.out, hN9, hH4]; exact hs9⟩
  case iter =>
    intro lp Rd W hlw hK hg hsz2 hR hYi
    simp only [World.size_alloc, hBB] at hsz2 hK
    have hb : ∀ k t x, Boxed (((w2.alloc (.cells #[.slice A2 (enc l.length).length c2] 23)).alloc (.cells #[.slice none 0 0] 23)).alloc (.cells #[.slice A l.length c] 22)) k t x → Boxed W k t x :=
      fun k t x h => (hg.block k h.lt (fun e => by cases e)).trans h
    have x5 : Ext w2 (((w2.alloc (.cells #[.slice A2 (enc l.length).length c2] 23)).alloc (.cells #[.slice none 0 0] 23)).alloc (.cells #[.slice A l.length c] 22)) :=
      Ext.al (Ext.al (Ext.al (Below.refl _ _) _) _) _
    have x6 : Ext w2 W := Below.grown (row := none) x5 hg x5.size (fun k e => by cases e)
    have h0 : EnSt w B (.slice A l.length c) W (.slice A2 (enc l.length).length c2) (.slice none 0 0) (enc l.length ++ encs (hns l 0)) (dby 0 (l.take (16 * 0))) := by
      have e1 : enc l.length ++ encs (hns l 0) = enc l.length := by simp [hns, encs]
      rw [e1]
      refine ⟨hb _ _ _ ?_, hb _ _ _ ?_, hb _ _ _ ?_, Own.ext Hv2.out x6, Own.nil_ _ _, ?_, Ext.trans Hx2.out x6, by omega, hB⟩
      · have := (((Boxed.new w2 23 (.slice A2 (enc l.length).length c2)).alloc (.cells #[.slice none 0 0] 23)).alloc (.cells #[.slice A l.length c] 22))
        rw [hBB] at this
        exact this
      · have := ((Boxed.new (w2.alloc (.cells #[.slice A2 (enc l.length).length c2] 23)) 23 (.slice none 0 0)).alloc (.cells #[.slice A l.length c] 22))
        simp only [World.size_alloc, hBB] at this
        exact this
      · have := Boxed.new ((w2.alloc (.cells #[.slice A2 (enc l.length).length c2] 23)).alloc (.cells #[.slice none 0 0] 23)) 22 (.slice A l.length c)
        simp only [World.size_alloc, hBB] at this
        exact this
      · rcases Hv2.out.2 with ⟨e1, _⟩ | ⟨g, cap, cur, e1, _⟩
        · exact .inl (by rw [e1]; rfl)
        · exact .inr (by rw [e1]; simp [Value.ownBlock])
    have hWs : W.heap.size = B + 5 := by omega
    refine (blocks1_in (mm := 4 - 1 - 1) (fun k W => 16 * k < l.length + 16 ∧ (∃ vh vb, EnSt w B (.slice A l.length c) W vh vb (enc l.length ++ encs (hns l k)) (dby 0 (l.take (16 * k)))) ∧ Rd W) lp (B + 1 + 1) c A l w Hv.out Hr.out hsz (by omega) W ?_ ?_ ?_ ?_ ⟨by omega, ⟨_, _, h0⟩, hR⟩).mono ?_
    · intro k
      refine ⟨?_, ?_, ?_⟩
      · rintro W1 W2 ⟨h1, ⟨vh, vb, h2⟩, h3⟩ hx
        exact ⟨h1, ⟨vh, vb, h2.ext hx⟩, hK.others _ _ h3 ((Ext.others hx).from _)⟩
      · rintro W1 r o o' ⟨h1, ⟨vh, vb, h2⟩, h3⟩ hr ho hcl
        exact ⟨h1, ⟨vh, vb, h2.turn o' (by omega) ho hcl⟩, hK.turn _ _ _ h3 (grownBy_putObj' W1 r o') (fun r' e => by injection e with e; omega)⟩
      · rintro W1 r x v ⟨h1, ⟨vh, vb, h2⟩, h3⟩ hr hbx
        exact ⟨h1, ⟨vh, vb, h2.setInt v (by omega) hbx⟩, hK.turn _ _ _ h3 (grownBy_setCell' W1 r v) (fun r' e => by injection e with e; omega)⟩
    · rintro k W1 ⟨_, ⟨vh, vb, h2⟩, _⟩
      exact h2.bel
    · rintro ⟨_, ⟨vh, vb, h2⟩, _⟩
      exact h2.bs
    · rintro k W1 v hk ⟨h1, ⟨vh, vb, h2⟩, h3⟩ hv
      rw [hWs] at hv ⊢
      refine (hYi [] (k, v) W1 ⟨hk, hv, vh, vb, h2⟩ h3).mono ?_
      rintro e W' ⟨he, ⟨x, hx, hk', vh', vb', h'⟩, hr', hn'⟩
      obtain rfl : (k, v) = x := by simpa using hx
      exact ⟨he, ⟨by dsimp only at *; omega, ⟨vh', vb', h'⟩, hr'⟩, hn'⟩
    · rintro e W' ⟨he, k, ⟨h1, ⟨vh, vb, h2⟩, h3⟩, hk⟩
      exact ⟨he, ⟨k, hk, h1, vh, vb, h2⟩, h3⟩
  case done =>
    rintro D W hD ⟨k, hk, hk2, vh, vb, hst⟩ hKD
    obtain rfl : k = nbk l.length := by unfold nbk; omega
    rw [List.take_of_length_le (by omega)] at hst
    have hHd := HHd.out _ hk2
    have hbh := hst.bh.cell
    have hbb := hst.bb.cell
    have Hst := Lib.hid hst
    have HSe : Hid (senc l = (enc l.length ++ encs (hns l (nbk l.length))) ++ dby 0 l) := Lib.hid rfl
    generalize enc l.length ++ encs (hns l (nbk l.length)) = HD at *
    generalize dby 0 l = BD at *
    obtain ⟨Ab, cb, rfl⟩ := (Own.bs hst.ob).form
    have hDw : B + 3 ≤ D := by
      rw [hD]
      simp only [World.size_alloc, hBB]
      omega
    have hws := hst.bel.size
    have l5 : HD.length + BD.length ≤ 100000000 := by omega
    clear hst hD
    gi_wp2_with (gi_at_builtin; refine wpListIn_append_bytes _ rfl (.tmp 33) (.tmp 34) rfl w.heap.size vh HD rfl Hst.out.oh _ (.slice Ab BD.length cb) BD rfl (Own.bs Hst.out.ob) l5 hws ?_; intro v9 w9 hown9 hg9 hat9; generalize hN9 : HD ++ BD = N9 at hown9; obtain ⟨A9, c9, h9f⟩ := (Own.bs hown9).form; subst h9f)
    have hKD9 : w9.heap[D]? = some (.deferred (some [])) := (NB.of_grown (B := 0) Hst.out.oh hg9).2 D _ (Nat.zero_le _) hKD (fun cs f e => by cases e)
    refine ⟨by simp, .inl ⟨_, _, rfl, run_takeDeferred hKD9, ?_⟩⟩
    refine ⟨_, results_tmp2 rfl _ _ _, _, rfl, by rw [HSe.out, hN9]; exact ownsRow_putObj hown9 _ hKD9 rfl, ?_⟩
    have hb9 := Hst.out.bel.grown hg9 Hst.out.bel.size (own_ge Hst.out.oh)
    exact hb9.grown (grownBy_putObj' w9 D (.deferred none)) hb9.size (fun k e => by injection e with e; omega)

end Go.Proofs.Ytnajmpkdeenkbaa
