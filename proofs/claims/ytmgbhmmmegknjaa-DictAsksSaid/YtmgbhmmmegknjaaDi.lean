/-
  Contract of dict.bytes.
  Conditions: entries that may be, not more than 5000.
-/
import Derived.Test.YtmgbhmmmegknjaaDh
import Derived.Test.YtmgbhmmmegknjaaDd
import Derived.Test.YtmgbhmmmegknjaaGr
namespace Go.Proofs.Ytmgbhmmmegknjaa
open Go.RowKit Go.Op
attribute [local go_sem] Oper.semAt_some

theorem Ext.others {W W' : World} (hx : Ext W W') : KeepsOthers W W' := ⟨hx.size, fun k _ hk _ => (hx.block k (Array.getElem?_eq_some_iff.1 hk).1).trans hk⟩
theorem own_cells {w : World} {base : Nat} {v : Value} {bs : List UInt8} (h : Own w base v bs) {r : Nat} {o : Obj} (ho : w.heap[r]? = some o) (hc : ∀ cs f, o ≠ .cells cs 5 f) : v.ownBlock = none ∨ v.ownBlock ≠ some r := by
  rcases h.2 with ⟨rfl, _⟩ | ⟨g, cap, cur, rfl, _, hgb, _⟩
  · exact .inl rfl
  · refine .inr fun e => ?_
    obtain rfl : g = r := by simpa [Value.ownBlock] using e
    rw [hgb] at ho
    injection ho with ho
    exact hc _ _ ho.symm
theorem box_not {W : World} {k : Nat} {t : TypeId} {x v : Value} {base : Nat} {bs : List UInt8} (hb : Boxed W k t x) (ht : t ≠ 5) (ho : Own W base v bs) : v.ownBlock = none ∨ v.ownBlock ≠ some k := by
  have := hb.not_row ht ho
  exact .inr fun e => this e.symm
/-- what holds between two rounds of bytes -/
structure BySt (w : World) (B : Nat) (v : Value) (W : World) (vh : Value) (hd : List UInt8) : Prop where
  bh : Boxed W B 23 vh
  bs : Boxed W (B + 1) 22 v
  bn : Boxed W (B + 2) 3 (.int .i64 16)
  oh : Own W w.heap.size vh hd
  bel : Below w.heap.size w W
  size : B + 3 ≤ W.heap.size
  base : w.heap.size ≤ B
section
variable {w : World} {B : Nat} {v : Value} {W W' : World} {vh : Value} {hd : List UInt8}
theorem BySt.ext (h : BySt w B v W vh hd) (hx : Ext W W') : BySt w B v W' vh hd := by
  have hk : ∀ k t x, Boxed W k t x → Boxed W' k t x := fun k t x hb => (hx.block k hb.lt).trans hb
  exact ⟨hk _ _ _ h.bh, hk _ _ _ h.bs, hk _ _ _ h.bn, Own.ext h.oh hx, h.bel.trans (hx.mono h.bel.size), Nat.le_trans h.size hx.size, h.base⟩
/-- a block that is no box and no row of bytes is turned -/
theorem BySt.turn (h : BySt w B v W vh hd) {r : Nat} {o : Obj} (o' : Obj) (hr : B + 3 ≤ r) (ho : W.heap[r]? = some o) (hc : o.isCells = false) : BySt w B v (W.putObj r o') vh hd := by
  have hg := grownBy_putObj' W r o'
  have hk : ∀ k t x, k < B + 3 → Boxed W k t x → Boxed (W.putObj r o') k t x := fun k t x hlt hb => (hg.block k hb.lt (fun e => by injection e with e; omega)).trans hb
  have hn : ∀ cs f, o ≠ .cells cs 5 f := fun cs f e => by rw [e] at hc; cases hc
  have := h.base
  exact ⟨hk _ _ _ (by omega) h.bh, hk _ _ _ (by omega) h.bs, hk _ _ _ (by omega) h.bn, World.ownsRow.kept h.oh hg (own_cells h.oh ho hn),
    h.bel.grown hg h.bel.size (fun k e => by injection e with e; omega), by simpa using h.size, h.base⟩
/-- 'b = ..' a row -/
theorem BySt.setHead (h : BySt w B v W vh hd) {u : Value} {us : List UInt8} (hu : Own W w.heap.size u us) : BySt w B v (W.setCell ⟨B, 0, none⟩ u) u us := by
  have hg := grownBy_setCell' W B u
  have hk : ∀ k t x, k ≠ B → Boxed W k t x → Boxed (W.setCell ⟨B, 0, none⟩ u) k t x := fun k t x hne hb => (hg.block k hb.lt (fun e => by injection e with e; exact hne e)).trans hb
  have := h.base
  exact ⟨h.bh.set _, hk _ _ _ (by omega) h.bs, hk _ _ _ (by omega) h.bn, World.ownsRow.kept hu hg (box_not h.bh (by decide) hu),
    h.bel.grown hg h.bel.size (fun k e => by injection e with e; omega), Nat.le_trans h.size hg.size, h.base⟩
end
theorem wpListIn_idx3 {F : Fence} {nn : Nat} {ops : Array Oper} {rest : List Oper} {o : Oper} {a : Act} {Q : Exit → Act → World → Prop} (w : World) (hgd : o.guard = none) (s i : Operand) (ho : o.op = .index 72 s i) (x y z : Int) (j : Nat)
    (hs : a.eval s = .agg #[.int .i64 x, .int .i64 y, .int .i64 z]) (hi : a.eval i = .int .i64 j) (hj : j < 3) (h : wpListIn F nn Try.prog ops Q rest (a.put o.dst (.int .i64 (nth3 x y z j))) w) : wpListIn F nn Try.prog ops Q (o :: rest) a w := by
  refine wpListIn_plain hgd fun K hK => ?_
  unfold Oper.wpIn
  have hrun := run_idx3 w x y z j hj
  refine ⟨?_, ?_⟩
  · simp [Oper.about, ho]
  · rw [Oper.semAt_plain F _ _ (by rw [ho]; intro c hc; cases hc)]
    simp [execOp, ho, hs, hi, hrun, Result.andThen]
    exact hK _ _ h
/-- an entry's three numbers -/
def nby (x y z : Int) : Nat → List UInt8
  | 0 => []
  | 1 => enc x.toNat
  | 2 => enc x.toNat ++ enc y.toNat
  | _ => enc x.toNat ++ enc y.toNat ++ enc z.toNat

set_option maxHeartbeats 4000000 in
set_option maxRecDepth 100000 in
theorem bytes_ok (w : World) (v : Value) (l : List Ent) (hv : SL w (Bw w) v l) (hok : esOk l = true) (hl : l.length ≤ 5000) :
    Calls Try.prog 25 #[v] w fun e w' => ∃ u, e = .returned u ∧ Own w' w.heap.size u (denc l) ∧ Ext w w' := by
  obtain ⟨hup, _⟩ := esOk_spec hok
  have hmem := upw_mem hup
  obtain ⟨A, c, rfl, hc, hm⟩ := hv.form
  have Hv := Lib.hid hv
  have Hmem := Lib.hid hmem
  clear hv hmem hup hok
  refine (callsIn_wide (n := 3)).1 ?_
  refine callsIn_of_wp_marks Try.func25 rfl trivial ?_ rfl
  simp only [Try.ntmps25, List.size_toArray, List.length_cons, List.length_nil, Nat.reduceAdd, Nat.reduceSub, Array.replicate_succ, Array.replicate_zero, List.push_toArray, List.append_toArray, List.nil_append, List.cons_append]
  gi_wp2_with fail
  refine ⟨trivial, callsIn_wide.2 ((put_any w w.heap.size _ [] l.length (BS.nil_ _ _) (Nat.le_refl _) (by simp) (U64.mk (by omega))).mono ?_)⟩
  rintro e w2 ⟨v2, rfl, hv2, hx2⟩
  rw [List.nil_append] at hv2
  obtain ⟨A2, c2, rfl⟩ := (Own.bs hv2).form
  gi_wp2_with fail
  refine ⟨trivial, callsIn_wide.2 ((chunk_any _ A _ c).mono ?_)⟩
  rintro e w' ⟨rfl, rfl⟩
  have hB : w.heap.size ≤ w2.heap.size := hx2.size
  have Hx2 := Lib.hid hx2
  have Hv2 := Lib.hid hv2
  clear hx2 hv2
  generalize hBB : w2.heap.size = B at hB
  gi_wp2_with fail
  refine wpIn_rangeFunc_raw rfl (by omega) (gf := 52) (lb := #[.pointer (some ⟨B + 1, 0, none⟩), .pointer (some ⟨B + 1 + 1, 0, none⟩)]) rfl trivial (enters_of Try.func52 (by kernel_rfl) rfl)
    (α := Nat) (encs := fun k => #[piece A l.length 4 k]) (Kp := fun _ _ => True) (fun _ _ => trivial) (fun _ _ _ _ _ _ _ _ => trivial) (fun _ => rfl)
    (fun _ k W => 16 * k < l.length ∧ ∃ vh, BySt w B (.slice A l.length c) W vh (enc l.length ++ dblk k l))
    (fun pre W => ∃ k, pre.getLast? = some k ∧ ∃ vh, BySt w B (.slice A l.length c) W vh (enc l.length ++ dblk (k + 1) l))
    (fun W => ∃ k, l.length ≤ 16 * k ∧ ∃ vh, BySt w B (.slice A l.length c) W vh (enc l.length ++ dblk k l))
    ?tI ?tI' ?tId
    (fun k a' _ => a' = { tmps := #[.slice A l.length c, undef, .slice none 0 0, .pointer (some ⟨B, 0, none⟩), piece A l.length 4 k, undef, undef, undef, undef, undef, undef, undef, .slice A l.length c, .int .i64 l.length, .int .u64 l.length, .slice A2 (enc l.length).length c2, .slice A l.length c, .func (.func 52) #[] #[.pointer (some ⟨B + 1, 0, none⟩), .pointer (some ⟨B + 1 + 1, 0, none⟩)], piece A l.length 4 k, undef, undef, undef, undef, undef, undef, undef, undef, undef, undef, undef, undef, undef, undef, undef, undef, undef, undef, undef, undef, undef, undef, undef, undef, undef, undef, undef, undef, undef, undef, undef, undef, undef, undef, undef, undef, undef, undef, undef, undef, undef, undef, undef, undef, undef, undef], defers := [] }) (fun _ _ _ _ _ h _ _ => h) ?assign ?body ?iter ?done
  case tI =>
    rintro pre k W o o' ⟨hk, vh, h⟩ ho hc
    simp only [World.size_alloc, hBB] at ho ⊢
    exact ⟨hk, vh, h.turn o' (by omega) ho hc⟩
  case tI' =>
    rintro pre W o o' ⟨k, hk, vh, h⟩ ho hc
    simp only [World.size_alloc, hBB] at ho ⊢
    exact ⟨k, hk, vh, h.turn o' (by omega) ho hc⟩
  case tId =>
    rintro W o o' ⟨k, hk, vh, h⟩ ho hc
    simp only [World.size_alloc, hBB] at ho ⊢
    exact ⟨k, hk, vh, h.turn o' (by omega) ho hc⟩
  case assign =>
    intro l pre k W K hI hK
    gi_wp2
    exact hK _ _ (KeepsFrom.refl _ _) trivial hI rfl
  case body =>
    rintro lp pre k a' W hlw ⟨hk, vh, hst⟩ rfl
    obtain ⟨ad, rfl⟩ : ∃ ad, A = some ad := by
      obtain ⟨ad, h, _⟩ := Hv.out.ent_at (show 0 < l.length by omega)
      exact ⟨ad, h⟩
    obtain ⟨m, hm, hm0⟩ : ∃ m, m = min 16 (l.length - 16 * k) ∧ 0 < m := ⟨_, rfl, by omega⟩
    have hP : SL w (Bw w) (.slice (some (ad.add (16 * k * 4))) m m) ((l.drop (16 * k)).take m) := Hv.out.mid_ (i := 16 * k) (n := m) (by omega) hm0 (by unfold maxLen; omega)
    have hPe : (l.drop (16 * k)).take m = (l.drop (16 * k)).take 16 := by
      rw [hm]
      by_cases h : l.length - 16 * k < 16
      · rw [Nat.min_eq_right (by omega), List.take_of_length_le (by rw [List.length_drop]; omega), List.take_of_length_le (by rw [List.length_drop]; omega)]
      · rw [Nat.min_eq_left (by omega)]
    have hPl : ((l.drop (16 * k)).take m).length = m := by rw [List.length_take, List.length_drop]; omega
    have hpc : piece (some ad) l.length 4 k = .slice (some (ad.add (16 * k * 4))) m m := by unfold piece; rw [← hm]; rfl
    rw [hpc]
    have hbs := dblk_snoc k l hk
    rw [← hPe] at hbs
    have hPm : ∀ e ∈ (l.drop (16 * k)).take m, eOk e = true := fun e he => Hmem.out e (List.mem_of_mem_drop (List.mem_of_mem_take he))
    have hHd : (enc l.length ++ dblk k l).length ≤ 700000 := by
      have e1 := enc_len10 (n := l.length) (U64.mk (by omega))
      have := dblk_len k l Hmem.out (by omega)
      rw [List.length_append]
      omega
    have hm16 : m ≤ 16 := by omega
    have hb1 : enc l.length ++ dblk (k + 1) l = (enc l.length ++ dblk k l) ++ enc (esby [] ((l.drop (16 * k)).take m)).length ++ esby [] ((l.drop (16 * k)).take m) := by rw [hbs]; simp only [List.append_assoc]
    clear hbs
    generalize hPP : (l.drop (16 * k)).take m = P at hP hPl hPm hb1
    generalize enc l.length ++ dblk k l = HD at hst hHd hb1
    clear hPP hpc hPe hm
    generalize ad.add (16 * k * 4) = a1 at hP ⊢
    have HP := Lib.hid hP
    have Hst := Lib.hid hst
    have HPm := Lib.hid hPm
    have Hb1 := Lib.hid hb1
    have HPl := Lib.hid hPl
    have hPlm : m ≤ P.length := by omega
    clear hP hst hPm hb1 hPl
    gi_wp2_with fail
    gi_loopw [5, 6, 21] (fun x la i wr => ∃ j : Nat, i = .int .i64 j ∧ j ≤ m ∧ la = .string ⟨(tlast [] (P.take j)).toArray⟩ ∧ Own wr (B + 3) x (esby [] (P.take j)) ∧ Ext W wr) (fun _ _ i _ => m - (intOf i).toNat)
    case atStart => exact ⟨0, rfl, Nat.zero_le _, rfl, Own.nil_ _ _, Below.refl _ _⟩
    case round =>
      obtain ⟨j, rfl, hj, rfl, hown, hx⟩ := hrel
      have Ho := Lib.hid hown
      have Hx := Lib.hid hx
      have hszB := Nat.le_trans Hst.out.size hx.size
      have hbw := Hst.out.bel.trans (hx.mono Hst.out.bel.size)
      clear hown hx
      by_cases hlt : j < m
      · obtain ⟨ad1, had1, _, hc0, hc1, hc2, hc3, h1, h2, h3, h4⟩ := (HP.out.below hbw).ent_at (show j < P.length by omega)
        obtain rfl : a1 = ad1 := by injection had1
        have hjm : (j : Int) < m := by omega
        have hok := HPm.out P[j] (List.getElem_mem (by omega))
        have hsn := esby_snoc (P.take j) P[j] []
        have hnx := tlast_snoc (P.take j) P[j] []
        rw [← take_nextE P (by omega)] at hsn hnx
        have hlen := esby_len (P.take j) [] (fun e he => HPm.out e (List.mem_of_mem_take he))
        have htl : (tlast [] (P.take j)).length ≤ 65 := by
          rcases j with _ | q
          · simp [tlast]
          · rw [take_nextE P (by omega), tlast_snoc]
            exact (eOk_spec (HPm.out P[q] (List.getElem_mem (by omega)))).1
        rw [List.length_take] at hlen
        have hlen' : (esby [] (P.take j)).length ≤ 115000 := by omega
        generalize P[j]'(by omega) = N at hc0 hc1 hc2 hc3 h1 h2 h3 h4 hok hsn hnx
        obtain ⟨⟨t⟩, x, y, z⟩ := N
        dsimp only at hc0 hc1 hc2 hc3 h1 h2 h3 h4 hsn hnx
        obtain ⟨ht, hpx, hpy, hpz⟩ := eOk_spec hok
        dsimp only at ht hpx hpy hpz
        obtain ⟨X, rfl⟩ : ∃ n : Nat, x = n := ⟨x.toNat, by omega⟩
        obtain ⟨Y, rfl⟩ : ∃ n : Nat, y = n := ⟨y.toNat, by omega⟩
        obtain ⟨Z, rfl⟩ : ∃ n : Nat, z = n := ⟨z.toNat, by omega⟩
        generalize tlast [] (P.take j) = L at htl hsn
        generalize esby [] (P.take j) = PB at hsn hlen' Ho
        have hK := (sh_le L t).2
        have hby : eby L (⟨t⟩, (X : Int), (Y : Int), (Z : Int)) = enc (sh L t) ++ (enc (t.drop (sh L t)).length ++ t.drop (sh L t)) ++ (enc (X : Int).toNat ++ (enc (Y : Int).toNat ++ enc (Z : Int).toNat)) := rfl
        rw [hby] at hsn
        generalize hKe : sh L t = K at hK hsn
        have HKe := Lib.hid hKe
        have Hsn := Lib.hid hsn
        have Hnx := Lib.hid hnx
        have eK := enc_len10 (n := K) (U64.mk (by omega))
        have eX := enc_len10 (n := X) (U64.mk (by omega))
        have eY := enc_len10 (n := Y) (U64.mk (by omega))
        have eZ := enc_len10 (n := Z) (U64.mk (by omega))
        have lT : (t.drop K).length ≤ 65 := by rw [List.length_drop]; omega
        have eT := enc_len10 (n := (t.drop K).length) (U64.mk (by omega))
        have HSZ : Hid ((ByteArray.mk (t.drop K).toArray).size = (t.drop K).length) := Lib.hid (by show (t.drop K).toArray.size = _; simp)
        have HEX : Hid ((ByteArray.mk t.toArray).extract K t.length = ⟨(t.drop K).toArray⟩) := Lib.hid (by rw [ByteArray.extract_mk, List.take_of_length_le (by rw [List.length_drop]; omega)])
        have Q0 := Lib.hid (cell_new wr #[.string ⟨t.toArray⟩, .int .i64 X, .int .i64 Y, .int .i64 Z] 42 0 (v := .string ⟨t.toArray⟩) rfl)
        have Q1 := Lib.hid (cell_new wr #[.string ⟨t.toArray⟩, .int .i64 X, .int .i64 Y, .int .i64 Z] 42 1 (v := .int .i64 X) rfl)
        have Q2 := Lib.hid (cell_new wr #[.string ⟨t.toArray⟩, .int .i64 X, .int .i64 Y, .int .i64 Z] 42 2 (v := .int .i64 Y) rfl)
        have Q3 := Lib.hid (cell_new wr #[.string ⟨t.toArray⟩, .int .i64 X, .int .i64 Y, .int .i64 Z] 42 3 (v := .int .i64 Z) rfl)
        have Hx0 := Lib.hid (Ext.of_alloc wr (.cells #[.string ⟨t.toArray⟩, .int .i64 X, .int .i64 Y, .int .i64 Z] 42))
        clear hKe hsn hnx hby h1 h2 h3 h4 had1
        gi_wp2_with fail
        refine ⟨trivial, CallsIn.inRound lp (callsIn_wide.2 ((shared_any _ L t (by omega) (by omega)).mono ?_))⟩
        rintro e w3 ⟨rfl, hx3⟩
        rw [HKe.out]
        have q0 := Ext.keeps hx3 Q0.out
        have X3 := Lib.hid (Ext.trans Hx0.out hx3)
        have Hq3 := Lib.hid hx3
        clear hx3 hc0 hc1 hc2 hc3
        gi_wp2_with fail
        refine ⟨trivial, CallsIn.inRound lp (callsIn_wide.2 ((put_any w3 w3.heap.size _ PB K (Own.bs (Own.ext Ho.out X3.out)) (Nat.le_refl _) (by omega) (U64.mk (by omega))).mono ?_))⟩
        rintro e w4 ⟨v4, rfl, hv4, hx4⟩
        have X4 := Lib.hid (Ext.trans X3.out hx4)
        have Hq4 := Lib.hid (Ext.trans Hq3.out hx4)
        have q0 := Ext.keeps Hq4.out Q0.out
        have Hv4 := Lib.hid (Own.base hv4 (show B + 3 ≤ w3.heap.size by have := X3.out.size; omega))
        clear hv4 hx4
        have l4 : (PB ++ enc K).length ≤ 1000000 := by rw [List.length_append]; omega
        gi_wp2_with fail
        rw [HEX.out]
        refine ⟨trivial, CallsIn.inRound lp (callsIn_wide.2 ((puttext_any w4 w4.heap.size _ _ ⟨(t.drop K).toArray⟩ (Own.bs Hv4.out) (Nat.le_refl _) l4 (by rw [HSZ.out]; omega)).mono ?_))⟩
        rintro e w5 ⟨v5, rfl, hv5, hx5⟩
        rw [HSZ.out, sl_mk] at hv5
        have X5 := Lib.hid (Ext.trans X4.out hx5)
        have Hq5 := Lib.hid (Ext.trans Hq4.out hx5)
        have q0 := Ext.keeps Hq5.out Q0.out
        have q1 := Ext.keeps Hq5.out Q1.out
        have q2 := Ext.keeps Hq5.out Q2.out
        have q3 := Ext.keeps Hq5.out Q3.out
        have hv5' := Own.base hv5 (show B + 3 ≤ w4.heap.size by have := X4.out.size; omega)
        have hl5 : (PB ++ enc K ++ enc (t.drop K).length ++ t.drop K).length ≤ 116000 := by simp only [List.length_append]; omega
        generalize hB5 : PB ++ enc K ++ enc (t.drop K).length ++ t.drop K = B5 at hv5' hl5
        have HB5 := Lib.hid hB5
        have Hv5 := Lib.hid hv5'
        clear hv5 hv5' hx5 hB5
        gi_wp2_with fail
        have hX6 : (X : Int) ≤ 67108864 := hpx.2
        have hY6 : (Y : Int) ≤ 67108864 := hpy.2
        have hZ6 : (Z : Int) ≤ 67108864 := hpz.2
        have n0 : nby X Y Z 0 = [] := rfl
        gi_loopw [5, 46] (fun x i wi => ∃ q : Nat, i = .int .i64 q ∧ q ≤ 3 ∧ Own wi (B + 3) x (B5 ++ nby X Y Z q) ∧ Ext w5 wi) (fun _ i _ => 3 - (intOf i).toNat)
        case atStart => exact ⟨0, rfl, by omega, by rw [n0, List.append_nil]; exact Hv5.out, Below.refl _ _⟩
        case round =>
          rename World => wi
          obtain ⟨q, rfl, hq, hown, hx⟩ := hrel
          have Hoi := Lib.hid hown
          have Hxi := Lib.hid hx
          have hszi := hx.size
          have hszw := X5.out.size
          clear hown hx n0
          rcases (by omega : q = 0 ∨ q = 1 ∨ q = 2 ∨ q = 3) with rfl | rfl | rfl | rfl
          · have hl : (B5 ++ nby X Y Z 0).length ≤ 1000000 := by simp only [nby, List.length_append, List.length_nil]; omega
            gi_wp2_with ((with_reducible (refine wpListIn_idx3 _ rfl (.tmp 45) (.tmp 46) rfl X Y Z 0 ?_ ?_ ?_ ?_)); exact rfl; exact rfl; exact (by decide); simp only [nth3])
            refine ⟨trivial, CallsIn.inRound lp (callsIn_wide.2 ((put_any wi wi.heap.size _ _ X (Own.bs Hoi.out) (Nat.le_refl _) hl (U64.mk (by omega))).mono ?_))⟩
            rintro e w6 ⟨v6, rfl, hv6, hx6⟩
            have Hv6 := Lib.hid (Own.base hv6 (show B + 3 ≤ wi.heap.size by omega))
            have Hx6 := Lib.hid (Ext.trans Hxi.out hx6)
            clear hv6 hx6
            gi_wp2_with fail
            go_roundw
            case rel => exact ⟨1, rfl, by omega, by simpa [nby] using Hv6.out, Hx6.out⟩
            case measure => simp only [intOf]; decide
          · have hl : (B5 ++ nby X Y Z 1).length ≤ 1000000 := by simp only [nby, List.length_append, Int.toNat_natCast]; omega
            gi_wp2_with ((with_reducible (refine wpListIn_idx3 _ rfl (.tmp 45) (.tmp 46) rfl X Y Z 1 ?_ ?_ ?_ ?_)); exact rfl; exact rfl; exact (by decide); simp only [nth3])
            refine ⟨trivial, CallsIn.inRound lp (callsIn_wide.2 ((put_any wi wi.heap.size _ _ Y (Own.bs Hoi.out) (Nat.le_refl _) hl (U64.mk (by omega))).mono ?_))⟩
            rintro e w6 ⟨v6, rfl, hv6, hx6⟩
            have Hv6 := Lib.hid (Own.base hv6 (show B + 3 ≤ wi.heap.size by omega))
            have Hx6 := Lib.hid (Ext.trans Hxi.out hx6)
            clear hv6 hx6
            gi_wp2_with fail
            go_roundw
            case rel => exact ⟨2, rfl, by omega, by simpa [nby] using Hv6.out, Hx6.out⟩
            case measure => simp only [intOf]; decide
          · have hl : (B5 ++ nby X Y Z 2).length ≤ 1000000 := by simp only [nby, List.length_append, Int.toNat_natCast]; omega
            gi_wp2_with ((with_reducible (refine wpListIn_idx3 _ rfl (.tmp 45) (.tmp 46) rfl X Y Z 2 ?_ ?_ ?_ ?_)); exact rfl; exact rfl; exact (by decide); simp only [nth3])
            refine ⟨trivial, CallsIn.inRound lp (callsIn_wide.2 ((put_any wi wi.heap.size _ _ Z (Own.bs Hoi.out) (Nat.le_refl _) hl (U64.mk (by omega))).mono ?_))⟩
            rintro e w6 ⟨v6, rfl, hv6, hx6⟩
            have Hv6 := Lib.hid (Own.base hv6 (show B + 3 ≤ wi.heap.size by omega))
            have Hx6 := Lib.hid (Ext.trans Hxi.out hx6)
            clear hv6 hx6
            gi_wp2_with fail
            go_roundw
            case rel => exact ⟨3, rfl, by omega, by simpa [nby] using Hv6.out, Hx6.out⟩
            case measure => simp only [intOf]; decide
          · have hfin : B5 ++ nby X Y Z 3 = esby [] (P.take (j + 1)) := by
              rw [Hsn.out, ← HB5.out]
              simp only [nby, List.append_assoc]
            rw [hfin] at Hoi
            have q0 := Ext.keeps (Ext.trans Hq5.out Hxi.out) Q0.out
            have X6 := Lib.hid (Ext.trans (Ext.trans Hx.out X5.out) Hxi.out)
            clear hfin
            gi_wp2_with fail
            go_roundw
            case rel => exact ⟨j + 1, rfl, by omega, by rw [Hnx.out], Hoi.out, X6.out⟩
            case measure => simp only [intOf]; omega
      · obtain rfl : j = m := by omega
        have hjm : ¬((j : Int) < j) := by omega
        rw [List.take_of_length_le (by have := HPl.out; omega)] at Ho
        have hPn := esby_len P [] HPm.out
        have hPn2 : (esby [] P).length ≤ 2000 := by have := HPl.out; omega
        have Hs := Lib.hid (Hst.out.ext Hx.out)
        generalize esby [] P = PB at Ho hPn2 Hb1
        obtain ⟨Ap, cp, rfl⟩ := (Own.bs Ho.out).form
        have hbh := Hs.out.bh.cell
        clear hPn
        gi_wp2_with fail
        refine ⟨trivial, CallsIn.inRound lp (callsIn_wide.2 ((put_any wr wr.heap.size vh HD PB.length (Own.bs Hs.out.oh) (Nat.le_refl _) (by omega) (U64.mk (by omega))).mono ?_))⟩
        rintro e w6 ⟨v6, rfl, hv6, hx6⟩
        have e6 := enc_len10 (n := PB.length) (U64.mk (by omega))
        have Hv6 := Lib.hid hv6
        have Hp6 := Lib.hid (Own.ext Ho.out hx6)
        have Hx6 := Lib.hid hx6
        have hl6 : (HD ++ enc PB.length).length + PB.length ≤ 100000000 := by rw [List.length_append]; omega
        clear hv6 hx6 hbh
        gi_wp2_with (gi_at_builtin; refine wpListIn_append_bytes _ rfl (.tmp 61) (.tmp 62) rfl wr.heap.size v6 _ rfl Hv6.out _ (.slice Ap PB.length cp) PB rfl (Own.bs Hp6.out) hl6 Hx6.out.size ?_; intro v9 w9 hown9 hg9 hat9; have hx9 := (GrowO.append hg9 hat9).ext Hx6.out rfl (own_ge Hv6.out); have hs9 := Hs.out.ext hx9; obtain ⟨A9, c9, h9f⟩ := (Own.bs hown9).form; subst h9f; have hb9 := hs9.bh.cell; have hf9 := hs9.bh.frozen)
        have hs10 := hs9.setHead (Own.base hown9 (Nat.le_trans Hst.out.bel.size Hx.out.size))
        exact ⟨((Ext.trans Hx.out hx9).others.trans (KeepsOthers.setCell _ _ _)).from _, trivial, k, by simp, _, by rw [Hb1.out]; simpa only [List.length_append, Nat.add_assoc] using hs10⟩
  case iter =>
    intro lp Rd W hlw hK hg hsz hR hY
    simp only [World.size_alloc, hBB] at hsz hK
    have hb : ∀ k t x, Boxed (((w2.alloc (.cells #[.slice A2 (enc l.length).length c2] 23)).alloc (.cells #[.slice A l.length c] 22)).alloc (.cells #[.int .i64 16] 3)) k t x → Boxed W k t x :=
      fun k t x h => (hg.block k h.lt (fun e => by cases e)).trans h
    have x5 : Ext w2 (((w2.alloc (.cells #[.slice A2 (enc l.length).length c2] 23)).alloc (.cells #[.slice A l.length c] 22)).alloc (.cells #[.int .i64 16] 3)) :=
      Ext.al (Ext.al (Ext.al (Below.refl _ _) _) _) _
    have x6 : Ext w2 W := Below.grown (row := none) x5 hg x5.size (fun k e => by cases e)
    have h0 : BySt w B (.slice A l.length c) W (.slice A2 (enc l.length).length c2) (enc l.length ++ dblk 0 l) := by
      have e1 : enc l.length ++ dblk 0 l = enc l.length := by simp [dblk]
      rw [e1]
      refine ⟨hb _ _ _ ?_, hb _ _ _ ?_, hb _ _ _ ?_, Own.ext Hv2.out x6, Ext.trans Hx2.out x6, by omega, hB⟩
      · have := (((Boxed.new w2 23 (.slice A2 (enc l.length).length c2)).alloc (.cells #[.slice A l.length c] 22)).alloc (.cells #[.int .i64 16] 3))
        rw [hBB] at this
        exact this
      · have := ((Boxed.new (w2.alloc (.cells #[.slice A2 (enc l.length).length c2] 23)) 22 (.slice A l.length c)).alloc (.cells #[.int .i64 16] 3))
        simp only [World.size_alloc, hBB] at this
        exact this
      · have := Boxed.new ((w2.alloc (.cells #[.slice A2 (enc l.length).length c2] 23)).alloc (.cells #[.slice A l.length c] 22)) 3 (.int .i64 16)
        simp only [World.size_alloc, hBB] at this
        exact this
    refine (chunk1_in (fun k W => (∃ vh, BySt w B (.slice A l.length c) W vh (enc l.length ++ dblk k l)) ∧ Rd W) lp (B + 1) A l.length c ?_ hc (by omega) hm ?_ ?_ ?_ W ⟨⟨_, h0⟩, hR⟩).mono ?_
    · intro h
      obtain ⟨ad, h, _⟩ := Hv.out.ent_at h
      exact ⟨ad, h⟩
    · rintro k W ⟨⟨vh, h⟩, _⟩
      exact ⟨h.bs, h.bn⟩
    · rintro k W ⟨⟨vh, h⟩, hr⟩
      exact ⟨⟨vh, h.ext (Ext.drew W)⟩, hK.others _ _ hr ((Ext.drew W).others.from _)⟩
    · rintro k W1 hk ⟨⟨vh, h⟩, hr⟩
      refine (hY [] k W1 ⟨hk, vh, h⟩ hr).mono ?_
      rintro e W' ⟨he, ⟨k', hk', vh', h'⟩, hr', _⟩
      obtain rfl : k = k' := by simpa using hk'
      exact ⟨he, ⟨vh', h'⟩, hr'⟩
    · rintro e W' ⟨he, k, ⟨⟨vh, h⟩, hr⟩, hk⟩
      exact ⟨he, ⟨k, hk, vh, h⟩, hr⟩
  case done =>
    rintro D W hD ⟨k, hk, vh, hst⟩ hKD
    rw [dblk_fuel k l.length l (by omega) (by omega)] at hst
    have hbh := hst.bh.cell
    have Hst := Lib.hid hst
    have hDw : w.heap.size ≤ D := by
      rw [hD]
      simp only [World.size_alloc, hBB]
      omega
    clear hst hD
    gi_wp2
    refine ⟨by simp, .inl ⟨_, _, rfl, run_takeDeferred hKD, ?_⟩⟩
    refine ⟨_, results_tmp rfl _ _ _, vh, rfl, ownsRow_putObj Hst.out.oh _ hKD rfl, ?_⟩
    exact Hst.out.bel.grown (grownBy_putObj' W D (.deferred none)) Hst.out.bel.size (fun k e => by injection e with e; omega)

end Go.Proofs.Ytmgbhmmmegknjaa
