/-
  stored.blocks: the maker, and the iterator under any body that keeps its boxes.
  Conditions: those of each statement.
-/
import Derived.Test.YtnajmpkdeenkbaaEk
import Derived.Test.YtnajmpkdeenkbaaEl
import Derived.Test.YtnajmpkdeenkbaaEm
import Derived.Test.YtnajmpkdeenkbaaGr
namespace Go.Proofs.Ytnajmpkdeenkbaa
open Go.RowKit Go.Op
attribute [local go_sem] Oper.semAt_some

theorem Ext.others {W W' : World} (hx : Ext W W') : KeepsOthers W W' := ⟨hx.size, fun k _ hk _ => (hx.block k (Array.getElem?_eq_some_iff.1 hk).1).trans hk⟩
theorem own_cells {w : World} {base : Nat} {v : Value} {bs : List UInt8} (h : Own w base v bs) {r : Nat} {o : Obj} (ho : w.heap[r]? = some o) (hc : ∀ cs f, o ≠ .cells cs 5 f) : v.ownBlock = none ∨ v.ownBlock ≠ some r := by
  rcases h.2 with ⟨rfl, _⟩ | ⟨g, cap, cur, rfl, _, hgb, _⟩
  · exact .inl rfl
  · refine .inr fun e => ?_
    obtain rfl : g = r := by simpa [Value.ownBlock] using e
    rw [hgb] at ho
    injection ho with ho
    exact hc _ _ ho.symm
theorem box_not {W : World} {k : Nat} {t : TypeId} {x v : Value} {base : Nat} {bs : List UInt8} (hb : Boxed W k t x) (ht : t ≠ 5) (ho : Own W base v bs) : v.ownBlock = none ∨ v.ownBlock ≠ some k := by
  have := hb.not_row ht ho
  exact .inr fun e => this e.symm
/-- what is no row of bytes, from B on, stays -/
def NB (B : Nat) (W W' : World) : Prop := W.heap.size ≤ W'.heap.size ∧ ∀ r o, B ≤ r → W.heap[r]? = some o → (∀ cs f, o ≠ .cells cs 5 f) → W'.heap[r]? = some o
theorem NB.refl (B : Nat) (W : World) : NB B W W := ⟨Nat.le_refl _, fun _ _ _ h _ => h⟩
theorem NB.trans {B : Nat} {X Y Z : World} (h : NB B X Y) (k : NB B Y Z) : NB B X Z := ⟨Nat.le_trans h.1 k.1, fun r o hr ho hc => k.2 r o hr (h.2 r o hr ho hc) hc⟩
theorem NB.of_ext {B : Nat} {W W' : World} (h : Ext W W') : NB B W W' := ⟨h.size, fun r _ _ ho _ => (h.block r (Array.getElem?_eq_some_iff.1 ho).1).trans ho⟩
theorem NB.from_ {B B' : Nat} {W W' : World} (h : NB B W W') (hB : B ≤ B') : KeepsFrom B' W W' := ⟨h.1, fun k o hk ho hc => h.2 k o (Nat.le_trans hB hk) ho fun cs f e => by rw [e] at hc; cases hc⟩
theorem NB.box {B : Nat} {W W' : World} (h : NB B W W') {k : Nat} {t : TypeId} {v : Value} (hb : Boxed W k t v) (hk : B ≤ k) (ht : t ≠ 5) : Boxed W' k t v :=
  h.2 k _ hk hb fun cs f e => by injection e with _ e _; exact ht e
/-- what the iterator may do to the caller's invariant -/
structure JOk (Y0 : Nat) (JJ : World → Prop) : Prop where
  ext : ∀ W1 W2, JJ W1 → Ext W1 W2 → JJ W2
  put : ∀ W1 r o o', JJ W1 → Y0 ≤ r → W1.heap[r]? = some o → o.isCells = false → JJ (W1.putObj r o')
  set : ∀ W1 r x v, JJ W1 → Y0 ≤ r → Boxed W1 r 3 x → JJ (W1.setCell ⟨r, 0, none⟩ v)
/-- between two blocks -/
structure BkSt (Y0 lo : Nat) (sv : Value) (JJ : World → Prop) (last : Int) (W : World) : Prop where
  by_ : Boxed W Y0 82 (.func (.yield lo) #[] #[])
  bl : Boxed W (Y0 + 1) 3 (.int .i64 last)
  bc : Boxed W (Y0 + 2) 22 sv
  bn : Boxed W (Y0 + 3) 3 (.int .i64 16)
  jj : JJ W
  size : Y0 + 4 ≤ W.heap.size
section
variable {Y0 lo : Nat} {sv : Value} {JJ : World → Prop} {last : Int} {W W' : World}
theorem BkSt.ext (hJ : JOk Y0 JJ) (h : BkSt Y0 lo sv JJ last W) (hx : Ext W W') : BkSt Y0 lo sv JJ last W' := by
  have hk : ∀ k t x, Boxed W k t x → Boxed W' k t x := fun k t x hb => (hx.block k hb.lt).trans hb
  exact ⟨hk _ _ _ h.by_, hk _ _ _ h.bl, hk _ _ _ h.bc, hk _ _ _ h.bn, hJ.ext _ _ h.jj hx, Nat.le_trans h.size hx.size⟩
theorem BkSt.turn (hJ : JOk Y0 JJ) (h : BkSt Y0 lo sv JJ last W) {r : Nat} {o : Obj} (o' : Obj) (hr : Y0 + 4 ≤ r) (ho : W.heap[r]? = some o) (hc : o.isCells = false) : BkSt Y0 lo sv JJ last (W.putObj r o') := by
  have hg := grownBy_putObj' W r o'
  have hk : ∀ k t x, k < Y0 + 4 → Boxed W k t x → Boxed (W.putObj r o') k t x := fun k t x hlt hb => (hg.block k hb.lt (fun e => by injection e with e; omega)).trans hb
  exact ⟨hk _ _ _ (by omega) h.by_, hk _ _ _ (by omega) h.bl, hk _ _ _ (by omega) h.bc, hk _ _ _ (by omega) h.bn, hJ.put _ _ _ _ h.jj (by omega) ho hc, by simpa using h.size⟩
theorem BkSt.setLast (hJ : JOk Y0 JJ) (h : BkSt Y0 lo sv JJ last W) (x : Int) : BkSt Y0 lo sv JJ x (W.setCell ⟨Y0 + 1, 0, none⟩ (.int .i64 x)) := by
  have hg := grownBy_setCell' W (Y0 + 1) (.int .i64 x)
  have hk : ∀ k t y, k ≠ Y0 + 1 → Boxed W k t y → Boxed (W.setCell ⟨Y0 + 1, 0, none⟩ (.int .i64 x)) k t y := fun k t y hne hb => (hg.block k hb.lt (fun e => by injection e with e; exact hne e)).trans hb
  exact ⟨hk _ _ _ (by omega) h.by_, h.bl.set _, hk _ _ _ (by omega) h.bc, hk _ _ _ (by omega) h.bn, hJ.set _ _ _ _ h.jj (by omega) h.bl, Nat.le_trans h.size hg.size⟩
end
theorem blocks_any (w : World) (A : Option Addr) (n c : Nat) : Calls Try.prog 29 #[.slice A n c] w fun e w' => e = .returned (.func (.func 47) #[] #[.pointer (some ⟨w.heap.size, 0, none⟩)]) ∧ w' = w.alloc (.cells #[.slice A n c] 22) := by
  go_enter Try.func29, Try.ntmps29
  go_wp2
  go_ret
  exact ⟨rfl, rfl⟩
/-- an own row -/
def OwnP (b0 : Nat) (bs : List UInt8) : Value → World → Prop := fun v W => Own W b0 v bs
theorem mono_OwnP (b0 : Nat) (bs : List UInt8) : Mono (OwnP b0 bs) := fun _ _ _ h hx => Own.ext h hx
/-- what event.Put hands back -/
def PutP (b0 : Nat) (bs : List UInt8) : Value → World → Prop := fun v W => ∃ u, v = .tuple #[u, .int .i64 0] ∧ Own W b0 u bs
theorem mono_PutP (b0 : Nat) (bs : List UInt8) : Mono (PutP b0 bs) := fun _ _ _ ⟨u, e, h⟩ hx => ⟨u, e, Own.ext h hx⟩

set_option maxHeartbeats 4000000 in
set_option maxRecDepth 100000 in
theorem blocks1_in {mm : Nat} (J : Nat → World → Prop) (lo P0 c : Nat) (A : Option Addr) (l : List Doc) (w0 : World) (hv : SL w0 (Bw w0) (.slice A l.length c) l) (hrow : RowFrom 0 l) (hsz : (dby 0 l).length ≤ 700000) (hlen : l.length ≤ 1000000) (Ws : World)
    (hJ : ∀ k, JOk Ws.heap.size (J k)) (hbel : ∀ k W1, J k W1 → Below w0.heap.size w0 W1) (hbox : J 0 Ws → Boxed Ws P0 22 (.slice A l.length c))
    (hY : ∀ k W1 v, 16 * k < l.length → J k W1 → Own W1 Ws.heap.size v (bkB l k) → YieldAt Fence.wide mm Try.prog lo #[.int .i64 (bkL l (k + 1)), v] W1 fun e W' => e = .returned (.bool true) ∧ J (k + 1) W' ∧ NB Ws.heap.size W1 W')
    (h0 : J 0 Ws) :
    CallsIn Fence.wide 3 Try.prog 47 #[.func (.yield lo) #[] #[], .pointer (some ⟨P0, 0, none⟩)] Ws fun e W' => (∃ v, e = .returned v) ∧ ∃ k, J k W' ∧ l.length ≤ 16 * k := by
  obtain ⟨A', c', e, hc, hm⟩ := hv.form
  simp only [Value.slice.injEq] at e
  obtain ⟨rfl, _, rfl⟩ := e
  have Hv := Lib.hid hv
  have HJ := Lib.hid hJ
  have Hbel := Lib.hid hbel
  have HY := Lib.hid hY
  have Hrow := Lib.hid hrow
  have hb0 := (hbox h0).cell
  have Hb0 := Lib.hid (hbox h0)
  have H0 := Lib.hid h0
  clear hv hJ hbel hY hbox h0 hrow
  refine callsIn_of_wp_marks Try.func47 rfl trivial ?_ rfl
  simp only [Try.ntmps47, List.size_toArray, List.length_cons, List.length_nil, Nat.reduceAdd, Nat.reduceSub, Array.replicate_succ, Array.replicate_zero, List.push_toArray, List.append_toArray, List.nil_append, List.cons_append]
  have hq0 := ((Hb0.out.alloc (.cells #[.func (.yield lo) #[] #[]] 82)).alloc (.cells #[.int .i64 0] 3)).cell
  gi_wp2_with fail
  refine ⟨trivial, callsIn_wide.2 ((chunk_any _ A _ c).mono ?_)⟩
  rintro e w' ⟨rfl, rfl⟩
  clear hb0 hq0
  gi_wp2_with fail
  refine wpIn_rangeFunc_raw2 rfl (by omega) (gf := 61) (lb := #[.pointer (some ⟨Ws.heap.size + 1 + 1, 0, none⟩), .pointer (some ⟨Ws.heap.size + 1 + 1 + 1, 0, none⟩)]) rfl trivial (enters_of Try.func61 (by kernel_rfl) rfl)
    (α := Nat) (encs := fun k => #[piece A l.length 3 k]) (Kp := fun _ _ => True) (fun _ _ => trivial) (fun _ _ _ _ _ => trivial) (fun _ => rfl)
    (fun _ k W1 => 16 * k < l.length ∧ BkSt Ws.heap.size lo (.slice A l.length c) (J k) (bkL l k) W1)
    (fun pre W1 => ∃ k, pre.getLast? = some k ∧ BkSt Ws.heap.size lo (.slice A l.length c) (J (k + 1)) (bkL l (k + 1)) W1)
    (fun W1 => ∃ k, l.length ≤ 16 * k ∧ BkSt Ws.heap.size lo (.slice A l.length c) (J k) (bkL l k) W1)
    ?tI ?tI' ?tId
    (fun k a' _ => a' = { tmps := #[.func (.yield lo) #[] #[], .pointer (some ⟨P0, 0, none⟩), .pointer (some ⟨Ws.heap.size, 0, none⟩), .pointer (some ⟨Ws.heap.size + 1, 0, none⟩), piece A l.length 3 k, undef, undef, undef, .slice A l.length c, .func (.func 61) #[] #[.pointer (some ⟨Ws.heap.size + 1 + 1, 0, none⟩), .pointer (some ⟨Ws.heap.size + 1 + 1 + 1, 0, none⟩)], piece A l.length 3 k, undef, undef, undef, undef, undef, undef, undef, undef, undef, undef, undef, undef, undef, undef, undef, undef, undef, undef, undef, undef, undef, undef, undef, undef, undef, undef, undef, undef], defers := [] }) (fun _ _ _ _ _ h _ _ => h) ?assign ?body ?iter ?done
  case tI =>
    rintro pre k W1 o o' ⟨hk, h⟩ ho hcl
    simp only [World.size_alloc] at ho ⊢
    exact ⟨hk, h.turn (HJ.out k) o' (by omega) ho hcl⟩
  case tI' =>
    rintro pre W1 o o' ⟨k, hk, h⟩ ho hcl
    simp only [World.size_alloc] at ho ⊢
    exact ⟨k, hk, h.turn (HJ.out _) o' (by omega) ho hcl⟩
  case tId =>
    rintro W1 o o' ⟨k, hk, h⟩ ho hcl
    simp only [World.size_alloc] at ho ⊢
    exact ⟨k, hk, h.turn (HJ.out k) o' (by omega) ho hcl⟩
  case assign =>
    intro l pre k W K hI hK
    gi_wp2
    exact hK _ _ (KeepsFrom.refl _ _) trivial hI rfl
  case body =>
    rintro lp pre k a' W1 hlw ⟨hk, hst⟩ rfl
    obtain ⟨ad, rfl⟩ : ∃ ad, A = some ad := by
      obtain ⟨ad, _, h, _⟩ := Hv.out.doc_at (show 0 < l.length by omega)
      exact ⟨ad, h⟩
    obtain ⟨m, hm1, hm0⟩ : ∃ m, m = min 16 (l.length - 16 * k) ∧ 0 < m := ⟨_, rfl, by omega⟩
    have hP : SL w0 (Bw w0) (.slice (some (ad.add (16 * k * 3))) m m) ((l.drop (16 * k)).take m) := Hv.out.mid_ (i := 16 * k) (n := m) (by omega) hm0 (by unfold maxLen; omega)
    have hPe : (l.drop (16 * k)).take m = bkD l k := by
      unfold bkD
      rw [hm1]
      by_cases h : l.length - 16 * k < 16
      · rw [Nat.min_eq_right (by omega), List.take_of_length_le (by rw [List.length_drop]; omega), List.take_of_length_le (by rw [List.length_drop]; omega)]
      · rw [Nat.min_eq_left (by omega)]
    have hPl : ((l.drop (16 * k)).take m).length = m := by rw [List.length_take, List.length_drop]; omega
    rw [hPe] at hP hPl
    have hpc : piece (some ad) l.length 3 k = .slice (some (ad.add (16 * k * 3))) m m := by unfold piece; rw [← hm1]; rfl
    rw [hpc]
    have hrP : RowFrom (bkL l k) (bkD l k) := (Hrow.out.drop (16 * k)).take 16
    have hBB : (dby (bkL l k) (bkD l k)).length ≤ 700000 := Nat.le_trans (bkB_le l k) hsz
    have hL0 := bkL_le Hrow.out k
    have hnx := bkL_next l k
    have hbB : bkB l k = dby (bkL l k) (bkD l k) := rfl
    have Yk := Lib.hid (fun W1 v h1 h2 => HY.out k W1 v hk h1 h2)
    rw [hnx, hbB] at Yk
    have Hnx := Lib.hid hnx
    clear hnx hbB
    have hm16 : m ≤ 16 := by omega
    generalize bkD l k = P at *
    generalize bkL l k = L at *
    clear hPe hpc hm1
    generalize ad.add (16 * k * 3) = a1 at *
    have HP := Lib.hid hP
    have Hst := Lib.hid hst
    have HrP := Lib.hid hrP
    have HPl := Lib.hid hPl
    have hPlm : m ≤ P.length := by omega
    have HJk := Lib.hid (HJ.out k)
    have Hbk := Lib.hid (Hbel.out k)
    clear hP hst hrP hPl
    gi_wp2_with fail
    gi_loopw [5, 13] (fun x i wr => ∃ j : Nat, i = .int .i64 j ∧ j ≤ m ∧ Own wr Ws.heap.size x (dby L (P.take j)) ∧ BkSt Ws.heap.size lo (.slice (some ad) l.length c) (J k) (lastD L (P.take j)) wr ∧ KeepsOthers W1 wr) (fun _ i _ => m - (intOf i).toNat)
    case atStart => exact ⟨0, rfl, Nat.zero_le _, Own.nil_ _ _, Hst.out, KeepsOthers.refl _⟩
    case round =>
      obtain ⟨j, rfl, hj, hown, hst, hko⟩ := hrel
      have Ho := Lib.hid hown
      have Hs := Lib.hid hst
      have Hko := Lib.hid hko
      have hszW := hst.size
      have hbw := Hbk.out _ hst.jj
      clear hown hst hko
      by_cases hlt : j < m
      · obtain ⟨ad1, u, had1, _, hc0, hc1, hc2, hu, h6, h7⟩ := (HP.out.below hbw).doc_at (show j < P.length by omega)
        obtain rfl : a1 = ad1 := by injection had1
        have hjm : (j : Int) < m := by omega
        have hrj := HrP.out.drop j
        rw [List.drop_eq_getElem_cons (show j < P.length by omega)] at hrj
        obtain ⟨r1, r2, r3, r4, _⟩ := hrj.cons
        have hL1 := (HrP.out.take j).last hL0.2
        have hsn := dby_snoc (P.take j) P[j] L
        have hls := lastD_snoc (P.take j) P[j] L
        rw [← take_nextE P (by omega)] at hsn hls
        have hlen := dby_take_le P L j
        clear hrj
        generalize P[j]'(by omega) = N at hc0 hc1 hc2 hu h6 h7 r1 r2 r3 r4 hsn hls
        obtain ⟨s, at_, fs⟩ := N
        dsimp only at hc0 hc1 hc2 hu h6 h7 r1 r2 r3 r4 hsn hls
        obtain ⟨Au, cu, rfl, _⟩ := hu.form
        generalize lastD L (P.take j) = LA at *
        generalize hXB : dby L (P.take j) = XB at *
        obtain ⟨D, hD⟩ : ∃ D : Nat, s - LA - 1 = D := ⟨(s - LA - 1).toNat, by omega⟩
        rw [hD, Int.toNat_natCast] at hsn
        have hxB : XB.length ≤ 700000 := by omega
        have hxD := enc_len10 (n := D) (U64.mk (by omega))
        have hD64 : U64 D := U64.mk (by omega)
        have hD1 : s - LA = (D : Int) + 1 := by omega
        have hw22 : IntKind.i64.wrap (s - LA) = s - LA := by rw [IntKind.wrap_i64]; omega
        have hw23 : IntKind.i64.wrap (D : Int) = D := by rw [IntKind.wrap_i64]; omega
        have hw24 : IntKind.u64.wrap (D : Int) = D := by rw [IntKind.wrap_u64]; omega
        have Q0 := Lib.hid (cell_new wr #[.int .i64 s, .int .i64 at_, .slice Au fs.length cu] 45 0 (v := .int .i64 s) rfl)
        have Q1 := Lib.hid (cell_new wr #[.int .i64 s, .int .i64 at_, .slice Au fs.length cu] 45 1 (v := .int .i64 at_) rfl)
        have Q2 := Lib.hid (cell_new wr #[.int .i64 s, .int .i64 at_, .slice Au fs.length cu] 45 2 (v := .slice Au fs.length cu) rfl)
        have Hx0 := Lib.hid (Ext.of_alloc wr (.cells #[.int .i64 s, .int .i64 at_, .slice Au fs.length cu] 45))
        have Hs1 := Lib.hid (Hs.out.ext HJk.out Hx0.out)
        have QL := Lib.hid Hs1.out.bl.cell
        have Hu := Lib.hid ((hu.more (S' := Bw wr) (fun k hk => by have := hbw.size; simp [Bw] at hk ⊢; omega)).up Hx0.out)
        have hb5 : BytesP XB u5 (wr.alloc (.cells #[.int .i64 s, .int .i64 at_, .slice Au fs.length cu] 45)) := BytesP.of_own (Own.ext Ho.out Hx0.out)
        have Hb5 := Lib.hid hb5
        clear hu hb5 had1
        gi_wp2_with fail
        clear hc0 hc1 hc2
        refine wpIn_region_list2 [BytesP XB, Is (.pointer (some ⟨wr.heap.size, 0, none⟩)), Is (.int .i64 s), Is (.int .i64 LA), Is (.int .i64 ((D : Int) + 1)), Is (.int .i64 D), Is (.int .u64 D), BytesP (XB ++ enc D), Is (.pointer (some ⟨wr.heap.size, 1, none⟩)), Is (.agg #[.int .i64 at_, .slice Au fs.length cu]), PutP wr.heap.size (XB ++ enc D ++ evby (at_, fs)), PutP wr.heap.size (XB ++ enc D ++ evby (at_, fs)), OwnP wr.heap.size (XB ++ enc D ++ evby (at_, fs)), Is (.int .i64 0), OwnP wr.heap.size (XB ++ enc D ++ evby (at_, fs))] (by kernel_rfl) (by kernel_rfl) (by kernel_rfl) ?_ (Steps.all ?_) ?_
        · intro p hp
          simp only [List.mem_cons, List.not_mem_nil, or_false] at hp
          rcases hp with rfl | rfl | rfl | rfl | rfl | rfl | rfl | rfl | rfl | rfl | rfl | rfl | rfl | rfl | rfl
          all_goals first | exact mono_bytes _ | exact mono_is _ | exact mono_PutP _ _ | exact mono_OwnP _ _
        · refine Steps.cons_ (step_mk (BytesP XB) rfl fun a W hx hE hO => ?_) ?_
          · have h5 : (BytesP XB) (a.eval (.tmp 5)) W := old_is (v := u5) (hO 5 (by kernel_rfl)) (mono_at (mono_bytes _) Hb5.out ((Ext.drew _).trans hx))
            exact yes_none rfl (do_move rfl h5)
          refine Steps.cons_ (step_mk (Is (.pointer (some ⟨wr.heap.size, 0, none⟩))) rfl fun a W hx hE hO => ?_) ?_
          · have h7 : a.eval (.tmp 7) = .pointer (some ⟨wr.heap.size, 0, none⟩) := hO 7 (by kernel_rfl)
            refine yes_none rfl (do_run (by simp only [execOp, h7] <;> simp [go_sem, ]) rfl)
          refine Steps.cons_ (step_mk (Is (.int .i64 s)) rfl fun a W hx hE hO => ?_) ?_
          · have h19 : a.eval (.tmp 19) = (.pointer (some ⟨wr.heap.size, 0, none⟩)) := hE 1 (by kernel_rfl) 19 rfl
            refine yes_none rfl ?_
            have q0 := Ext.keeps (Ext.trans (Ext.drew _) hx) Q0.out; exact do_run (by simp only [execOp, h19] <;> simp [go_sem, q0]) rfl
          refine Steps.cons_ (step_mk (Is (.int .i64 LA)) rfl fun a W hx hE hO => ?_) ?_
          · have h3 : a.eval (.tmp 3) = .pointer (some ⟨Ws.heap.size + 1, 0, none⟩) := hO 3 (by kernel_rfl)
            refine yes_none rfl ?_
            have q0 := Ext.keeps (Ext.trans (Ext.drew _) hx) QL.out; exact do_run (by simp only [execOp, h3] <;> simp [go_sem, q0]) rfl
          refine Steps.cons_ (step_mk (Is (.int .i64 ((D : Int) + 1))) rfl fun a W hx hE hO => ?_) ?_
          · have h20 : a.eval (.tmp 20) = (.int .i64 s) := hE 2 (by kernel_rfl) 20 rfl
            have h21 : a.eval (.tmp 21) = (.int .i64 LA) := hE 3 (by kernel_rfl) 21 rfl
            refine yes_none rfl ?_
            exact do_bin (v := .int .i64 ((D : Int) + 1)) rfl h20 h21 (by rw [← hD1]; simp [go_sem, hw22]) rfl
          refine Steps.cons_ (step_mk (Is (.int .i64 D)) rfl fun a W hx hE hO => ?_) ?_
          · have h22 : a.eval (.tmp 22) = (.int .i64 ((D : Int) + 1)) := hE 4 (by kernel_rfl) 22 rfl
            refine yes_none rfl ?_
            exact do_bin (v := .int .i64 D) rfl h22 rfl (by simp [go_sem, hw23]) rfl
          refine Steps.cons_ (step_mk (Is (.int .u64 D)) rfl fun a W hx hE hO => ?_) ?_
          · have h23 : a.eval (.tmp 23) = (.int .i64 D) := hE 5 (by kernel_rfl) 23 rfl
            refine yes_none rfl ?_
            exact do_run (by simp only [execOp, h23] <;> simp [go_sem, hw24]) rfl
          refine Steps.cons_ (step_mk (BytesP (XB ++ enc D)) rfl fun a W hx hE hO => ?_) ?_
          · have h18 : (BytesP XB) (a.eval (.tmp 18)) W := hE 0 (by kernel_rfl) 18 rfl
            have h24 : a.eval (.tmp 24) = (.int .u64 D) := hE 6 (by kernel_rfl) 24 rfl
            refine yes_none rfl (do_call rfl Try.func28 (by kernel_rfl) (by kernel_rfl) (args := #[a.eval (.tmp 18), (.int .u64 D)]) (by simp only [List.map_toArray, List.map_cons, List.map_nil, h24]) ?_)
            exact (put_any W W.heap.size _ XB D h18 (Nat.le_refl _) (by omega) hD64).mono fun e w' ⟨v', he, ho, hx⟩ => ⟨v', he, hx, BytesP.of_own ho⟩
          refine Steps.cons_ (step_mk (Is (.pointer (some ⟨wr.heap.size, 1, none⟩))) rfl fun a W hx hE hO => ?_) ?_
          · have h7 : a.eval (.tmp 7) = .pointer (some ⟨wr.heap.size, 0, none⟩) := hO 7 (by kernel_rfl)
            refine yes_none rfl (do_run (by simp only [execOp, h7] <;> simp [go_sem, ]) rfl)
          refine Steps.cons_ (step_mk (Is (.agg #[.int .i64 at_, .slice Au fs.length cu])) rfl fun a W hx hE hO => ?_) ?_
          · have h26 : a.eval (.tmp 26) = (.pointer (some ⟨wr.heap.size, 1, none⟩)) := hE 8 (by kernel_rfl) 26 rfl
            refine yes_none rfl ?_
            have q1 := Ext.keeps (Ext.trans (Ext.drew _) hx) Q1.out; have q2 := Ext.keeps (Ext.trans (Ext.drew _) hx) Q2.out; exact do_run (by simp only [execOp, h26] <;> simp [go_sem, q1, q2]) rfl
          refine Steps.cons_ (step_mk (PutP wr.heap.size (XB ++ enc D ++ evby (at_, fs))) rfl fun a W hx hE hO => ?_) ?_
          · have h25 : (BytesP (XB ++ enc D)) (a.eval (.tmp 25)) W := hE 7 (by kernel_rfl) 25 rfl
            have h27 : a.eval (.tmp 27) = (.agg #[.int .i64 at_, .slice Au fs.length cu]) := hE 9 (by kernel_rfl) 27 rfl
            refine yes_none rfl (do_call rfl Try.func49 (by kernel_rfl) (by kernel_rfl) (args := #[a.eval (.tmp 25), (.agg #[.int .i64 at_, .slice Au fs.length cu])]) (by simp only [List.map_toArray, List.map_cons, List.map_nil, h27]) ?_)
            exact (evPut_any W W.heap.size _ (XB ++ enc D) at_ _ fs h25 (Nat.le_refl _) (Hu.out.up (Ext.trans (Ext.drew _) hx)) (by rw [List.length_append]; omega) r3 r4).mono fun e w' ⟨v', he, ho, hx2⟩ => ⟨_, he, hx2, ⟨v', rfl, Own.base ho (by have := hx.size; simp at this; omega)⟩⟩
          refine Steps.cons_ (step_mk (PutP wr.heap.size (XB ++ enc D ++ evby (at_, fs))) rfl fun a W hx hE hO => ?_) ?_
          · have h28 : (PutP wr.heap.size (XB ++ enc D ++ evby (at_, fs))) (a.eval (.tmp 28)) W := hE 10 (by kernel_rfl) 28 rfl
            exact yes_none rfl (do_move rfl h28)
          refine Steps.cons_ (step_mk (OwnP wr.heap.size (XB ++ enc D ++ evby (at_, fs))) rfl fun a W hx hE hO => ?_) ?_
          · have h17 : (PutP wr.heap.size (XB ++ enc D ++ evby (at_, fs))) (a.eval (.tmp 17)) W := hE 11 (by kernel_rfl) 17 rfl
            refine yes_none rfl ?_
            obtain ⟨v', he, ho⟩ := h17; exact do_run (v := v') (by simp only [execOp, he] <;> simp [go_sem]) ho
          refine Steps.cons_ (step_mk (Is (.int .i64 0)) rfl fun a W hx hE hO => ?_) ?_
          · have h17 : (PutP wr.heap.size (XB ++ enc D ++ evby (at_, fs))) (a.eval (.tmp 17)) W := hE 11 (by kernel_rfl) 17 rfl
            refine yes_none rfl ?_
            obtain ⟨v', he, ho⟩ := h17; exact do_run (by simp only [execOp, he] <;> simp [go_sem]) rfl
          refine Steps.cons_ (step_mk (OwnP wr.heap.size (XB ++ enc D ++ evby (at_, fs))) rfl fun a W hx hE hO => ?_) ?_
          · have h29 : (OwnP wr.heap.size (XB ++ enc D ++ evby (at_, fs))) (a.eval (.tmp 29)) W := hE 12 (by kernel_rfl) 29 rfl
            exact yes_none rfl (do_assign rfl h29)
          exact Steps.nil_
        · intro a W hx hd hsz hE hO
          have h5 : (OwnP wr.heap.size (XB ++ enc D ++ evby (at_, fs))) (a.eval (.tmp 5)) W := hE 14 (of_decide_eq_true (by kernel_rfl)) 5 rfl
          have hmix := act_mix [false, false, false, false, false, true, false, false, false, false, false, false, false, false, false, false, false, true, true, true, true, true, true, true, true, true, true, true, true, true, true, false, false, false, false, false, false, false, false] (by kernel_rfl) hsz hd hO
          simp only [mixA, Nat.reduceAdd, Nat.zero_add] at hmix
          rw [hmix]
          generalize a.eval (.tmp 17) = u17
          generalize a.eval (.tmp 18) = u18
          generalize a.eval (.tmp 19) = u19
          generalize a.eval (.tmp 20) = u20
          generalize a.eval (.tmp 21) = u21
          generalize a.eval (.tmp 22) = u22
          generalize a.eval (.tmp 23) = u23
          generalize a.eval (.tmp 24) = u24
          generalize a.eval (.tmp 25) = u25
          generalize a.eval (.tmp 26) = u26
          generalize a.eval (.tmp 27) = u27
          generalize a.eval (.tmp 28) = u28
          generalize a.eval (.tmp 29) = u29
          generalize a.eval (.tmp 30) = u30
          clear hmix hd hsz hE hO
          generalize a.eval (.tmp 5) = v5 at h5 ⊢
          have Hs2 := Lib.hid (Hs1.out.ext HJk.out hx)
          have Ho2 := Lib.hid (Own.base (show Own W wr.heap.size v5 _ from h5) (show Ws.heap.size ≤ wr.heap.size by omega))
          have q0 := Ext.keeps hx Q0.out
          have ql := Hs2.out.bl.cell
          have qf := Hs2.out.bl.frozen
          have Hko2 := Lib.hid ((Hko.out.trans (Ext.others Hx0.out)).trans (Ext.others hx))
          clear h5 hx
          gi_wp2_with fail
          go_roundw
          case rel => exact ⟨j + 1, rfl, by omega, by rw [hsn]; exact World.ownsRow.kept Ho2.out (grownBy_setCell' _ _ _) (box_not Hs2.out.bl (by decide) Ho2.out), by rw [hls]; exact Hs2.out.setLast HJk.out s, Hko2.out.trans (KeepsOthers.setCell _ _ _)⟩
          case measure => simp only [intOf]; omega
      · obtain rfl : j = m := by omega
        have hjm : ¬((j : Int) < j) := by omega
        have hPk : P.take j = P := List.take_of_length_le (by have := HPl.out; omega)
        rw [hPk] at Ho Hs
        have qy := Hs.out.by_.cell
        have ql := Hs.out.bl.cell
        obtain ⟨fn, tmps, assign, body, hy, hR⟩ := YieldAt.round (lp := lp) (m' := 0) (Yk.out wr u5 Hs.out.jj Ho.out)
        clear hPk
        gi_wp2
        all_goals refine hR.mono ?_
        all_goals rintro e W3 ⟨rfl, hJ3, hNB⟩
        all_goals gi_wp2
        all_goals exact ⟨KeepsFrom.trans (Hko.out.from _) (hNB.from_ (by simp only [World.size_alloc]; omega)), trivial, k, by simp, by rw [Hnx.out]; exact ⟨hNB.box Hs.out.by_ (by omega) (by decide), hNB.box Hs.out.bl (by omega) (by decide), hNB.box Hs.out.bc (by omega) (by decide), hNB.box Hs.out.bn (by omega) (by decide), hJ3, Nat.le_trans hszW hNB.1⟩⟩
  case iter =>
    intro lp Rd W hlw hK hg hsz2 hR hYi
    simp only [World.size_alloc] at hsz2 hK
    have hb : ∀ k t x, Boxed ((((Ws.alloc (.cells #[.func (.yield lo) #[] #[]] 82)).alloc (.cells #[.int .i64 0] 3)).alloc (.cells #[.slice A l.length c] 22)).alloc (.cells #[.int .i64 16] 3)) k t x → Boxed W k t x :=
      fun k t x h => (hg.block k h.lt (fun e => by cases e)).trans h
    have x5 : Ext Ws ((((Ws.alloc (.cells #[.func (.yield lo) #[] #[]] 82)).alloc (.cells #[.int .i64 0] 3)).alloc (.cells #[.slice A l.length c] 22)).alloc (.cells #[.int .i64 16] 3)) :=
      Ext.al (Ext.al (Ext.al (Ext.al (Below.refl _ _) _) _) _) _
    have x6 : Ext Ws W := Below.grown (row := none) x5 hg x5.size (fun k e => by cases e)
    have h0 : BkSt Ws.heap.size lo (.slice A l.length c) (J 0) (bkL l 0) W := by
      refine ⟨hb _ _ _ ?_, hb _ _ _ ?_, hb _ _ _ ?_, hb _ _ _ ?_, (HJ.out 0).ext _ _ H0.out x6, by omega⟩
      · exact (((Boxed.new Ws 82 (.func (.yield lo) #[] #[])).alloc _).alloc _).alloc _
      · have := ((Boxed.new (Ws.alloc (.cells #[.func (.yield lo) #[] #[]] 82)) 3 (.int .i64 0)).alloc (.cells #[.slice A l.length c] 22)).alloc (.cells #[.int .i64 16] 3)
        simp only [World.size_alloc] at this
        exact this
      · have := (Boxed.new ((Ws.alloc (.cells #[.func (.yield lo) #[] #[]] 82)).alloc (.cells #[.int .i64 0] 3)) 22 (.slice A l.length c)).alloc (.cells #[.int .i64 16] 3)
        simp only [World.size_alloc] at this
        exact this
      · have := Boxed.new (((Ws.alloc (.cells #[.func (.yield lo) #[] #[]] 82)).alloc (.cells #[.int .i64 0] 3)).alloc (.cells #[.slice A l.length c] 22)) 3 (.int .i64 16)
        simp only [World.size_alloc] at this
        exact this
    refine (chunk1_in (fun k W => BkSt Ws.heap.size lo (.slice A l.length c) (J k) (bkL l k) W ∧ Rd W) lp (Ws.heap.size + 2) A l.length c ?_ hc (by omega) hm ?_ ?_ ?_ W ⟨h0, hR⟩).mono ?_
    · intro h
      obtain ⟨ad, _, h, _⟩ := Hv.out.doc_at h
      exact ⟨ad, h⟩
    · rintro k W ⟨h, _⟩
      exact ⟨h.bc, h.bn⟩
    · rintro k W ⟨h, hr⟩
      exact ⟨h.ext (HJ.out k) (Ext.drew W), hK.others _ _ hr ((Ext.drew W).others.from _)⟩
    · rintro k W1 hk ⟨h, hr⟩
      refine (hYi [] k W1 ⟨hk, h⟩ hr).mono ?_
      rintro e W' ⟨he, ⟨k', hk', h'⟩, hr', _⟩
      obtain rfl : k = k' := by simpa using hk'
      exact ⟨he, h', hr'⟩
    · rintro e W' ⟨he, k, ⟨h, hr⟩, hk⟩
      exact ⟨he, ⟨k, hk, h⟩, hr⟩
  case done =>
    rintro D W hD ⟨k, hk, hst⟩ hKD
    have Hst := Lib.hid hst
    have hDw : Ws.heap.size + 4 ≤ D := by
      rw [hD]
      simp only [World.size_alloc]
      omega
    clear hst hD
    gi_wp2
    refine ⟨by simp, .inl ⟨_, _, rfl, run_takeDeferred hKD, ?_⟩⟩
    exact ⟨_, results_none rfl _ _ _, ⟨_, rfl⟩, k, (HJ.out k).put _ _ _ _ Hst.out.jj (by omega) hKD rfl, hk⟩

end Go.Proofs.Ytnajmpkdeenkbaa
