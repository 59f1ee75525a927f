/-
  Contracts of dict.Encode, dict.Open.
  Conditions: not more than 5000 entries; at most 4000 bytes.
-/
import Derived.Test.YtmgbhmmmegknjaaDk
import Derived.Test.YtmgbhmmmegknjaaDi
import Derived.Test.YtmgbhmmmegknjaaStep
namespace Go.Proofs.Ytmgbhmmmegknjaa
open Go.RowKit Go.Op

set_option maxHeartbeats 800000 in
theorem encode_bad (w : World) (v : Value) (l : List Ent) (hv : SL w (Bw w) v l) (hl : l.length ≤ 1000000) (hok : esOk l = false) :
    Calls Try.prog 9 #[v] w fun e w' => e = .returned (.tuple #[.slice none 0 0, .int .i64 110]) ∧ Ext w w' := by
  have Hok := Lib.hid hok
  clear hok
  go_enter Try.func9, Try.ntmps9
  go_wp2_with fail
  refine (may_any w v l hv hl).mono ?_
  rintro e w1 ⟨rfl, hx1⟩
  rw [Hok.out]
  go_wp2
  go_ret2
  exact ⟨rfl, hx1⟩

set_option maxHeartbeats 800000 in
theorem encode_ok (w : World) (v : Value) (l : List Ent) (hv : SL w (Bw w) v l) (hok : esOk l = true) (hl : l.length ≤ 5000) :
    Calls Try.prog 9 #[v] w fun e w' => ∃ u, e = .returned (.tuple #[u, .int .i64 0]) ∧ Own w' w.heap.size u (denc l) ∧ Ext w w' := by
  have Hok := Lib.hid hok
  have Hv := Lib.hid hv
  clear hok hv
  go_enter Try.func9, Try.ntmps9
  go_wp2_with fail
  refine (may_any w v l Hv.out (by omega)).mono ?_
  rintro e w1 ⟨rfl, hx1⟩
  rw [Hok.out]
  have Hx1 := Lib.hid hx1
  clear hx1
  go_wp2_with fail
  refine (bytes_ok w1 v l (Hv.out.up Hx1.out) Hok.out hl).mono ?_
  rintro e w2 ⟨u, rfl, ho, hx2⟩
  have Ho := Lib.hid ho
  have Hx2 := Lib.hid hx2
  clear ho hx2
  go_wp2
  go_ret2
  exact ⟨u, rfl, Own.base Ho.out Hx1.out.size, Ext.trans Hx1.out Hx2.out⟩

section
variable {α : Type} [Rep α]
theorem step_append_l {P : Program} {ops : Array Oper} {o : Oper} {a : Act} (w : World) {K : Act → World → Prop} {Q : Exit → Act → World → Prop} {E : Prop} (hgd : o.guard = none) (s x : Operand) (t : TypeId)
    (ho : o.op = .call { callee := .builtin .append, args := #[s, x], argTypes := #[t, t] })
    (base : Nat) (e : TypeId) (S : Nat → Prop) (z : Value) (bytes : Nat) (ht : P.underlying t = some (.slice e)) (hi : (P.info? e).map (fun i => (i.zero, i.size, i.bytes)) = some (some z, Rep.n α, bytes)) (hzs : z.cells.size = Rep.n α) (hsz : 0 < Rep.n α)
    (v : Value) (l : List α) (hs : a.eval s = v) (hown : OwnL w base e S v l)
    (B : Nat) (u : Value) (m : List α) (news : List Value) (hx : a.eval x = u) (hr : SV w B (Rep.n α) u m.length news) (hm : Reps w (fun k => S k ∧ k < w.heap.size ∧ some k ≠ v.ownBlock) news m)
    (h63 : l.length + m.length ≤ 1000000000) (hby : bytes ≤ 100000) (hbase : base ≤ w.heap.size)
    (h : ∀ v' w', OwnL w' base e S v' (l ++ m) → w.grownBy w' v.ownBlock → (v'.ownBlock = v.ownBlock ∨ v'.ownBlock = some w.heap.size) → K (a.put o.dst v') w') :
    if Region.wanted o (yielded ops a.tmps) = true then Oper.wp P o a w K Q else E := by
  have hw : Region.wanted o (yielded ops a.tmps) = true := by simp [Region.wanted, hgd]
  rw [if_pos hw]
  obtain ⟨xs, h1, h2⟩ := hown
  obtain ⟨i0, hi0, hz0, hz1, hz2⟩ := info_parts hi
  obtain ⟨A, c, rfl, _, _, _, hr⟩ := hr
  have hb : (l.length + m.length) * bytes ≤ 1000000000 * 100000 := Nat.mul_le_mul h63 hby
  obtain ⟨v', w', hrun, r1, r2, r3⟩ := run_append_rd (P := P) w base t o.type e i0 z (Rep.n α) bytes ht hi0 hz0 hz1 hz2 hzs hsz v l.length xs h1 B A m.length c news hr hm.one (by simp only [maxLen]; omega) (by omega) hbase
  unfold Oper.wp execOp
  simp only [ho, resolve, invoke, builtin, Sem.run_bind, Sem.run_pure, Result.andThen_ok, List.map_toArray, List.map_cons, List.map_nil, hs, hx, hrun]
  exact h v' w' (OwnL.appended h2 hm r1 r2 r3) r2 r3
end

theorem OwnL.kpt {α : Type} [Rep α] {w w' : World} {base : Nat} {e : TypeId} {S T : Nat → Prop} {v : Value} {l : List α} (h : OwnL w base e S v l) (hk : Kept T w w') (hT : ∀ k, T k → k < base ∨ w.heap.size ≤ k) (hS : ∀ k, S k → base ≤ k) : OwnL w' base e S v l := by
  obtain ⟨xs, h1, h2⟩ := h
  refine ⟨xs, ⟨h1.1, ?_⟩, (h2.keep (Sm.of_kept hk fun k hk' => ⟨hk'.2.1, fun ht => ?_⟩)).more fun k hk' => ⟨hk'.1, Nat.lt_of_lt_of_le hk'.2.1 hk.size, hk'.2.2⟩⟩
  · rcases h1.2 with hn | ⟨g, cap, cur, rfl, hb, hgg, rest⟩
    · exact .inl hn
    · refine .inr ⟨g, cap, cur, rfl, hb, ?_, rest⟩
      have hlt := (Array.getElem?_eq_some_iff.1 hgg).1
      rw [hk.block g hlt fun ht => by rcases hT g ht with h | h <;> omega]
      exact hgg
  · have := hS k hk'.1
    rcases hT k ht with h | h
    · omega
    · have := hk'.2.1
      omega
theorem EBox.c4 {W : World} {E : Nat} {t : List UInt8} {x y z : Int} (h : EBox W E (⟨t⟩, x, y, z)) : W.cell? ⟨E, 0, none⟩ = some (.string ⟨t.toArray⟩) ∧ W.cell? ⟨E, 1, none⟩ = some (.int .i64 x) ∧ W.cell? ⟨E, 2, none⟩ = some (.int .i64 y) ∧ W.cell? ⟨E, 3, none⟩ = some (.int .i64 z) := by
  obtain ⟨h0, h1, h2, h3, _⟩ := h.cell
  exact ⟨h0, h1, h2, h3⟩
theorem rdN_dec {most : Nat} {st : RSt} (h : (rdN most st).2.2 = false) : st.2 = false ∧ (rdN most st).2.1.length + 1 ≤ st.1.length := by
  have h1 := rdN_le most st
  refine ⟨?_, h1.2.2.2 h⟩
  cases hb : st.2 with
  | false => rfl
  | true => rw [h1.2.2.1 hb, hb] at h; cases h
theorem rdT_dec {st : RSt} (h : (rdT st).2.2 = false) : st.2 = false ∧ (rdT st).2.1.length + 1 ≤ st.1.length := by
  unfold rdT at h ⊢
  split at h
  · rename_i hb; rw [hb] at h; cases h
  · rename_i hb
    rw [if_neg hb]
    cases hn : txt 65 st.1 with
    | none => rw [hn] at h; cases h
    | some x =>
      obtain ⟨s, r⟩ := x
      have := txt_len hn
      exact ⟨by simpa using hb, this.1⟩
theorem rdC_dec {last : List UInt8} {a : Nat × RSt} (h : (rdC last a).2.2 = false) : a.2.2 = false ∧ (rdC last a).2 = a.2 := by
  unfold rdC at h ⊢
  split at h
  · cases h
  · rename_i hb
    rw [if_neg hb]
    exact ⟨h, rfl⟩
/-- an entry takes five bytes at least -/
theorem rdE_dec (last : List UInt8) (st : RSt) (h : (rdE last st).2.2 = false) : (rdE last st).2.1.length + 5 ≤ st.1.length := by
  unfold rdE rdE3 at h ⊢
  simp only at h ⊢
  obtain ⟨a1, a2⟩ := rdN_dec h
  obtain ⟨b1, b2⟩ := rdN_dec a1
  obtain ⟨c1, c2⟩ := rdN_dec b1
  obtain ⟨d1, d2⟩ := rdT_dec c1
  obtain ⟨e1, e2⟩ := rdC_dec d1
  obtain ⟨f1, f2⟩ := rdN_dec e1
  rw [e2] at d2 c2 b2 a2 ⊢
  omega
theorem rdE_130 (last : List UInt8) (st : RSt) : (rdE last st).1.1.b.length ≤ 130 := by
  have h1 := (rdN_le 65 st).1
  have h2 : (rdC last (rdN 65 st)).1 ≤ (rdN 65 st).1 := by
    unfold rdC
    split
    · exact Nat.zero_le _
    · exact Nat.le_refl _
  have h3 := (rdT_le (rdC last (rdN 65 st)).2).1
  unfold rdE rdE3
  simp only [List.length_append, List.length_take]
  omega
theorem headP_le (L i : Nat) (last : List UInt8) (st : RSt) : (headP L i last st).2.1.length ≤ st.1.length ∧ (headP L i last st).1.length ≤ last.length := by
  unfold headP
  split
  · exact ⟨(rdN_le L st).2.1, Nat.zero_le _⟩
  · exact ⟨Nat.le_refl _, Nat.le_refl _⟩
/-- a dictionary's own block -/
def DBox (W : World) (D : Nat) (v : Value) (made : Bool) : Prop := W.heap[D]? = some (.cells #[v, .bool made] 54 (0, 0))
theorem DBox.cell {W : World} {D : Nat} {v : Value} {made : Bool} (h : DBox W D v made) : W.cell? ⟨D, 0, none⟩ = some v ∧ W.cell? ⟨D, 1, none⟩ = some (.bool made) := by
  simp [World.cell?, show W.heap[D]? = _ from h]
theorem DBox.lt {W : World} {D : Nat} {v : Value} {made : Bool} (h : DBox W D v made) : D < W.heap.size := (Array.getElem?_eq_some_iff.1 h).1
theorem DBox.ext {W W' : World} {D : Nat} {v : Value} {made : Bool} (h : DBox W D v made) (hx : Ext W W') : DBox W' D v made := (hx.block D h.lt).trans h
/-- a dictionary -/
def DictAt (W : World) (d : Value) (l : List Ent) : Prop := ∃ D v, d = .pointer (some ⟨D, 0, none⟩) ∧ DBox W D v true ∧ SL W (Bw W) v l
theorem DictAt.ext {W W' : World} {d : Value} {l : List Ent} (h : DictAt W d l) (hx : Ext W W') : DictAt W' d l := by
  obtain ⟨D, v, h1, h2, h3⟩ := h
  exact ⟨D, v, h1, h2.ext hx, h3.up hx⟩
/-- a dictionary in blocks from n0 on -/
def DictN (n0 : Nat) (W : World) (d : Value) (l : List Ent) : Prop := ∃ D v, d = .pointer (some ⟨D, 0, none⟩) ∧ n0 ≤ D ∧ DBox W D v true ∧ SL W (fun k => n0 ≤ k ∧ k < W.heap.size) v l
theorem DictN.at_ {n0 : Nat} {W : World} {d : Value} {l : List Ent} (h : DictN n0 W d l) : DictAt W d l := by
  obtain ⟨D, v, h1, _, h2, h3⟩ := h
  exact ⟨D, v, h1, h2, h3.more fun k hk => hk.2⟩
theorem DictN.kept {n0 : Nat} {T : Nat → Prop} {W W' : World} {d : Value} {l : List Ent} (h : DictN n0 W d l) (hk : Kept T W W') (hT : ∀ k, T k → k < n0) : DictN n0 W' d l := by
  obtain ⟨D, v, h1, h2, h3, h4⟩ := h
  exact ⟨D, v, h1, h2, (hk.block D h3.lt fun ht => by have := hT D ht; omega).trans h3, (h4.keep (Sm.of_kept hk fun k hk' => ⟨hk'.2, fun ht => by have := hT k ht; omega⟩)).more fun k hk' => ⟨hk'.1, Nat.lt_of_lt_of_le hk'.2 hk.size⟩⟩
/-- entries lead nowhere -/
theorem reps_ents {w w' : World} {S S' : Nat → Prop} : ∀ {l : List Ent} {xs : List Value}, Reps w S xs l → Reps w' S' xs l
  | [], _, h => h
  | _ :: _, _, h => by
    obtain ⟨cs, rest, e, h1, h2⟩ := h
    exact ⟨cs, rest, e, h1, reps_ents h2⟩
/-- what Open gives -/
def OpenIs (n0 : Nat) (W : World) (bs : List UInt8) (d : Value) (E : Int) : Prop := (∃ l, esOk l = true ∧ denc l = bs ∧ l.length ≤ 5000 ∧ E = 0 ∧ DictN n0 W d l) ∨ ((∀ m, esOk m = true → denc m ≠ bs) ∧ E = 110 ∧ d = .pointer none)

set_option maxHeartbeats 8000000 in
set_option maxRecDepth 100000 in
theorem open_any (w : World) (v : Value) (bs : List UInt8) (hv : BS w w.heap.size v bs) (hl : bs.length ≤ 20000) :
    Calls Try.prog 11 #[v] w fun e w' => ∃ d E, e = .returned (.tuple #[d, .int .i64 E]) ∧ OpenIs w.heap.size w' bs d E ∧ Ext w w' := by
  obtain ⟨A, c, rfl⟩ := hv.form
  have Hv := Lib.hid hv
  clear hv
  go_enter Try.func11, Try.ntmps11
  go_wp2_with fail
  refine (number_any w.heap.size bs.length _ w.heap.size (bs, false) 262144 (by omega) (by decide) ?h0).mono ?_
  case h0 =>
    exact ⟨⟨_, RBox.new w _ _, Hv.out.ext (Nat.le_refl _) (Ext.of_alloc _ _)⟩, Nat.le_refl _, Nat.le_refl _⟩
  rintro e w1 ⟨rfl, hs1, hk1⟩
  have hb1 : Below w.heap.size w w1 := Below.trans (Ext.of_alloc w _) (hk1.below (by simp) (fun k hk => by omega))
  have hm1 := Mt.start bs
  have hn := rdN_le 262144 (bs, false)
  generalize (rdN 262144 (bs, false)).1 = n at hm1 hn
  generalize (rdN 262144 (bs, false)).2 = st1 at hm1 hn hs1
  have hn1 := hn.1
  have hst1 : st1.1.length ≤ bs.length := hn.2.1
  have Hs1 := Lib.hid hs1
  have Hb1 := Lib.hid hb1
  have Hm1 := Lib.hid hm1
  clear hs1 hb1 hk1 hm1 hn
  go_wp2_with fail
  go_loopw [6, 7, 8] (fun vl la i wr => ∃ (k : Nat) (L : List Ent) (last : List UInt8) (st : RSt), i = .int .i64 k ∧ k ≤ n ∧ OwnL wr (w.heap.size + 1) 42 (fun _ => False) vl L ∧ L.length = k ∧ la = .string ⟨last.toArray⟩ ∧ last.length ≤ 130 ∧
    RdSt w.heap.size bs.length wr w.heap.size st ∧ Below w.heap.size w wr ∧ Mt bs n k L last st ∧ 5 * k ≤ bs.length + 5 ∧ (st.2 = false → 5 * k + st.1.length ≤ bs.length)) (fun _ _ i _ => n - (intOf i).toNat)
  case atStart => exact ⟨0, [], [], st1, rfl, Nat.zero_le _, OwnL.nil_ _ _ _ _, rfl, rfl, Nat.zero_le _, Hs1.out, Hb1.out, Hm1.out, by omega, fun _ => by omega⟩
  case round =>
    rename World => wq
    obtain ⟨k, L, last, st, rfl, hk, hol, hLk, rfl, hla, hs, hb, hmt, hkb, hkd⟩ := hrel
    obtain ⟨vr, hrb, hrv⟩ := hs.ex
    have hc1 := hrb.cell.2.1
    have Hol := Lib.hid hol
    have Hs := Lib.hid hs
    have Hb := Lib.hid hb
    have Hmt := Lib.hid hmt
    have HLk := Lib.hid hLk
    have Hkd := Lib.hid hkd
    have hge := hs.lt
    clear hol hs hb hmt hLk hkd hrb hrv
    obtain ⟨bq, bad⟩ := st
    dsimp only at hc1 Hkd
    by_cases hlt : k < n
    · have hlt' : (k : Int) < n := by omega
      cases bad with
      | false =>
        obtain ⟨Al, cl, rfl, hcl, hml⟩ := Hol.out.form
        have hszq := hge
        have hdec := rdE_dec (headP bs.length k last (bq, false)).1 (headP bs.length k last (bq, false)).2
        have hhl := headP_le bs.length k last (bq, false)
        have hel := And.intro (rdE_130 (headP bs.length k last (bq, false)).1 (headP bs.length k last (bq, false)).2) (rdE_le (headP bs.length k last (bq, false)).1 (headP bs.length k last (bq, false)).2).2
        have hmt := Hmt.out.next hlt bs.length (Nat.le_refl _) (by omega)
        have hyes : k % 16 = 0 → headP bs.length k last (bq, false) = ([], (rdN bs.length (bq, false)).2) := fun h => if_pos h
        have hno : ¬k % 16 = 0 → headP bs.length k last (bq, false) = (last, (bq, false)) := fun h => if_neg h
        generalize headP bs.length k last (bq, false) = H at hdec hhl hel hmt hyes hno
        obtain ⟨H1, H2⟩ := H
        dsimp only at hdec hhl hel hmt hyes hno
        have hkd := Hkd.out rfl
        have Hyes := Lib.hid hyes
        have Hno := Lib.hid hno
        have Hmt2 := Lib.hid hmt
        have hH1 := hhl.2
        have hH2 := hhl.1
        have Hdec := Lib.hid hdec
        have Hel := Lib.hid hel
        clear hdec hhl hel hmt hyes hno Hmt Hkd
        go_upto_if 29 with (fail)
        go_cut [7] (fun s7 wx => s7 = .string ⟨H1.toArray⟩ ∧ RdSt w.heap.size bs.length wx w.heap.size H2 ∧ Kept (fun j => j = w.heap.size) wq wx)
        case first =>
          by_cases h16 : k % 16 = 0
          · have t16 : ((k : Int) % 16 == 0) = true := by rw [beq_iff_eq]; omega
            go_wp2_with fail
            refine (number_any w.heap.size bs.length wq w.heap.size (bq, false) bs.length (by omega) (by omega) Hs.out).mono ?_
            rintro e w2 ⟨rfl, hs2, hk2⟩
            have Hs2 := Lib.hid hs2
            have Hk2 := Lib.hid hk2
            clear hs2 hk2
            go_wp2_with fail
            go_meet
            have e := Hyes.out h16
            injection e with e1 e2
            subst e1 e2
            exact ⟨rfl, Hs2.out, Hk2.out⟩
          · have t16 : ((k : Int) % 16 == 0) = false := by rw [beq_eq_false_iff_ne]; omega
            go_wp2_with fail
            go_meet
            have e := Hno.out h16
            injection e with e1 e2
            subst e1 e2
            exact ⟨rfl, Hs.out, Kept.refl _ _⟩
        case rest =>
          obtain ⟨rfl, hs2, hk2⟩ := hcut
          have Hs2 := Lib.hid hs2
          have Hk2 := Lib.hid hk2
          have hszc := hk2.size
          clear hs2 hk2 Hyes Hno
          go_wp2_with fail
          refine (entry_any w.heap.size bs.length _ w.heap.size H2 H1 (by omega) (by omega) Hs2.out).mono ?_
          rintro e w4 ⟨rfl, hs4, hk4⟩
          generalize rdE H1 H2 = Z at hs4 Hdec Hel Hmt2
          obtain ⟨⟨⟨t⟩, x, y, z⟩, st4⟩ := Z
          have hk4' := Hk2.out.trans hk4
          have hol4 : OwnL w4 (w.heap.size + 1) 42 (fun _ => False) (.slice Al L.length cl) L := Hol.out.kpt hk4' (fun k hk => by omega) (fun k hk => hk.elim)
          have Hol4 := Lib.hid hol4
          have Hs4 := Lib.hid hs4
          have Hk4 := Lib.hid hk4'
          have hsz4 := hk4'.size
          have hgl := hol4.ge
          have hx5 : Ext w4 (((w4.alloc (.cells #[.string ⟨t.toArray⟩, .int .i64 x, .int .i64 y, .int .i64 z] 42)).alloc (.cells #[.string ⟨t.toArray⟩, .int .i64 x, .int .i64 y, .int .i64 z] 42)).drew) := Ext.trans (Ext.al (Ext.of_alloc _ _) _) (Ext.drew _)
          have Hx5 := Lib.hid hx5
          simp only [entV]
          clear hs4 hk4 hk4' hol4 hgl hx5
          go_wp2_with fail
          have HE4 : Hid (EBox (w4.alloc (.cells #[.string ⟨t.toArray⟩, .int .i64 x, .int .i64 y, .int .i64 z] 42)).drew w4.heap.size (⟨t⟩, x, y, z)) := Lib.hid (heap_alloc_new w4 _)
          have HE5 : Hid (EBox (((w4.alloc (.cells #[.string ⟨t.toArray⟩, .int .i64 x, .int .i64 y, .int .i64 z] 42)).alloc (.cells #[.string ⟨t.toArray⟩, .int .i64 x, .int .i64 y, .int .i64 z] 42)).drew) w4.heap.size (⟨t⟩, x, y, z)) := Lib.hid (((Ext.trans (Ext.of_alloc _ _) (Ext.drew _)).block w4.heap.size (by simp)).trans (heap_alloc_new w4 _))
          have Hsv : Hid (SV (((w4.alloc (.cells #[.string ⟨t.toArray⟩, .int .i64 x, .int .i64 y, .int .i64 z] 42)).alloc (.cells #[.string ⟨t.toArray⟩, .int .i64 x, .int .i64 y, .int .i64 z] 42)).drew) (w4.heap.size + 1 + 1) 4 (.slice (some ⟨w4.heap.size + 1, 0, none⟩) 1 1) 1 [.string ⟨t.toArray⟩, .int .i64 x, .int .i64 y, .int .i64 z]) := Lib.hid (by
            have := SV.one_ (w4.alloc (.cells #[.string ⟨t.toArray⟩, .int .i64 x, .int .i64 y, .int .i64 z] 42)) #[.string ⟨t.toArray⟩, .int .i64 x, .int .i64 y, .int .i64 z] 42 4 rfl
            rw [World.size_alloc] at this
            exact this)
          have hbnd := Hel.out
          have hrep : ∀ W : World, Reps (α := Ent) W (fun j => False ∧ j < W.heap.size ∧ some j ≠ (Value.slice Al L.length cl).ownBlock) [.string ⟨t.toArray⟩, .int .i64 x, .int .i64 y, .int .i64 z] [(⟨t⟩, x, y, z)] := fun W => Reps.single (rep_ent (by unfold maxLen; omega) (I6.mk (by omega)) (I6.mk (by omega)) (I6.mk (by omega)))
          have Hrep := Lib.hid hrep
          have hlto : ∀ j, (Value.slice Al L.length cl).ownBlock = some j → j < w4.heap.size := fun j hj => by
            obtain ⟨xs, h1, _⟩ := Hol4.out
            exact (World.ownsRow.lt h1 j hj).2
          have Hlto := Lib.hid hlto
          have hLl : L.length + 1 ≤ 1000000000 := by have := HLk.out; omega
          clear hrep hlto hbnd
          go_region_held3 (fun w' => w'.cell? ⟨w4.heap.size, 0, none⟩ = some (.string ⟨t.toArray⟩) ∧ w'.cell? ⟨w4.heap.size, 1, none⟩ = some (.int .i64 x) ∧ w'.cell? ⟨w4.heap.size, 2, none⟩ = some (.int .i64 y) ∧ w'.cell? ⟨w4.heap.size, 3, none⟩ = some (.int .i64 z))
            (first
              | exact hb6.c4
              | exact HE5.out.c4
              | exact HE4.out.c4
              | fail)
            (first
              | (refine step_append_l _ (by rfl) (.tmp 37) (.tmp 39) 22 (by rfl) (w.heap.size + 1) 42 (fun _ => False) (.agg #[.string ⟨#[]⟩, .int .i64 0, .int .i64 0, .int .i64 0]) 40 Try.underlying22 info_ent rfl (by decide) _ L (by rfl) (Hol4.out.ext Hx5.out) _ _ [(⟨t⟩, x, y, z)] _ (by rfl) Hsv.out (Hrep.out _) hLl (by decide) (by have := Hx5.out.size; omega) ?_
                 intro v6 w6 hown6 hg6 hat6
                 have hb6 : EBox w6 w4.heap.size (⟨t⟩, x, y, z) := (hg6.block w4.heap.size HE5.out.lt (fun e => by have := Hlto.out _ e.symm; omega)).trans HE5.out
                 have hk6 : Kept (fun j => w.heap.size + 1 ≤ j) w4 w6 := (Ext.kept Hx5.out _).trans (grown_kept hg6 fun r hr _ => Hol4.out.ge r hr))
              | fail)
          go_wp2_with fail
          go_roundw
          case rel =>
            have hlen := hown6.sl.form
            refine ⟨k + 1, L ++ [(⟨t⟩, x, y, z)], t, st4, rfl, by omega, hown6, by rw [List.length_append, HLk.out]; rfl, rfl, Hel.out.1, Hs4.out.kept hk6 (fun j hj => by omega), ?_, Hmt2.out, by omega, fun h => by have := Hdec.out h; omega⟩
            exact Below.trans Hb.out (Below.trans (Hk4.out.below (by omega) (fun j hj => by omega)) (hk6.below (by omega) (fun j hj => by omega)))
          case measure => simp only [intOf]; omega
      | true =>
        obtain ⟨Al, cl, rfl, hcl, hml⟩ := Hol.out.form
        have Hsl := Lib.hid Hol.out.sl
        have Hso := Lib.hid (Hol.out.sl_own fun _ _ _ _ h => reps_ents h)
        have Hbp : Hid (BytesP bs (.slice A bs.length c) wq) := Lib.hid ((Hv.out.below Hb.out).more Hb.out.size)
        have Hc1 := Lib.hid hc1
        have hLm : L.length ≤ 1000000 := by have := HLk.out; omega
        have hL5 : L.length ≤ 5000 := by have := HLk.out; omega
        have Hnot := Lib.hid (Hmt.out.bad rfl)
        go_wp2_with fail
        refine wp_region_list2 [Is (.pointer (some ⟨w.heap.size, 0, none⟩)), Is (.pointer (some ⟨w.heap.size, 0, none⟩)), Is (.pointer (some ⟨w.heap.size, 1, none⟩)), Is (.bool true), Is (.bool true), Is undef, Is undef, Is undef, Is (.bool true), Is (.bool true), Is undef, Is undef, Is undef, Is undef, Is undef, Is undef, Is (.bool true)] (by kernel_rfl) (by kernel_rfl) (by kernel_rfl) ?_ (Steps.all ?_) ?_
        · intro p hp
          simp only [List.mem_cons, List.not_mem_nil, or_false] at hp
          rcases hp with rfl | rfl | rfl | rfl | rfl | rfl | rfl | rfl | rfl | rfl | rfl | rfl | rfl | rfl | rfl | rfl | rfl
          all_goals first | exact mono_is _
        · refine Steps.cons_ (step_mk (Is (.pointer (some ⟨w.heap.size, 0, none⟩))) rfl fun a W hx hE hO => ?_) ?_
          · have h4 : a.eval (.tmp 4) = .pointer (some ⟨w.heap.size, 0, none⟩) := hO 4 (by kernel_rfl)
            exact yes_none rfl (do_move rfl h4)
          refine Steps.cons_ (step_mk (Is (.pointer (some ⟨w.heap.size, 0, none⟩))) rfl fun a W hx hE hO => ?_) ?_
          · have h43 : a.eval (.tmp 43) = (.pointer (some ⟨w.heap.size, 0, none⟩)) := hE 0 (by kernel_rfl) 43 rfl
            refine yes_none rfl (do_run (by simp only [execOp, h43] <;> simp [go_sem, ]) rfl)
          refine Steps.cons_ (step_mk (Is (.pointer (some ⟨w.heap.size, 1, none⟩))) rfl fun a W hx hE hO => ?_) ?_
          · have h44 : a.eval (.tmp 44) = (.pointer (some ⟨w.heap.size, 0, none⟩)) := hE 1 (by kernel_rfl) 44 rfl
            refine yes_none rfl (do_run (by simp only [execOp, h44] <;> simp [go_sem, ]) rfl)
          refine Steps.cons_ (step_mk (Is (.bool true)) rfl fun a W hx hE hO => ?_) ?_
          · have h45 : a.eval (.tmp 45) = (.pointer (some ⟨w.heap.size, 1, none⟩)) := hE 2 (by kernel_rfl) 45 rfl
            refine yes_none rfl ?_
            have q0 := Ext.keeps (Ext.trans (Ext.drew _) hx) Hc1.out; exact do_run (by simp only [execOp, h45] <;> simp [go_sem, q0]) rfl
          refine Steps.cons_ (step_mk (Is (.bool true)) rfl fun a W hx hE hO => ?_) ?_
          · have h46 : a.eval (.tmp 46) = (.bool true) := hE 3 (by kernel_rfl) 46 rfl
            exact yes_none rfl (do_move rfl h46)
          refine Steps.cons_ (step_mk (Is undef) rfl fun a W hx hE hO => ?_) ?_
          · have h47 : a.eval (.tmp 47) = (.bool true) := hE 4 (by kernel_rfl) 47 rfl
            have h6 : a.eval (.tmp 6) = .slice Al L.length cl := hO 6 (by kernel_rfl)
            exact no_is (j := 4) (d := 47) (b := false) rfl rfl h47 rfl
          refine Steps.cons_ (step_mk (Is undef) rfl fun a W hx hE hO => ?_) ?_
          · have h47 : a.eval (.tmp 47) = (.bool true) := hE 4 (by kernel_rfl) 47 rfl
            have h48 : a.eval (.tmp 48) = undef := hE 5 (by kernel_rfl) 48 rfl
            exact no_is (j := 4) (d := 47) (b := false) rfl rfl h47 rfl
          refine Steps.cons_ (step_mk (Is undef) rfl fun a W hx hE hO => ?_) ?_
          · have h47 : a.eval (.tmp 47) = (.bool true) := hE 4 (by kernel_rfl) 47 rfl
            have h49 : a.eval (.tmp 49) = undef := hE 6 (by kernel_rfl) 49 rfl
            exact no_is (j := 4) (d := 47) (b := false) rfl rfl h47 rfl
          refine Steps.cons_ (step_mk (Is (.bool true)) rfl fun a W hx hE hO => ?_) ?_
          · have h47 : a.eval (.tmp 47) = (.bool true) := hE 4 (by kernel_rfl) 47 rfl
            have h50 : a.eval (.tmp 50) = undef := hE 7 (by kernel_rfl) 50 rfl
            exact yes_none rfl (do_pick rfl h47 rfl)
          refine Steps.cons_ (step_mk (Is (.bool true)) rfl fun a W hx hE hO => ?_) ?_
          · have h51 : a.eval (.tmp 51) = (.bool true) := hE 8 (by kernel_rfl) 51 rfl
            exact yes_none rfl (do_move rfl h51)
          refine Steps.cons_ (step_mk (Is undef) rfl fun a W hx hE hO => ?_) ?_
          · have h52 : a.eval (.tmp 52) = (.bool true) := hE 9 (by kernel_rfl) 52 rfl
            have h6 : a.eval (.tmp 6) = .slice Al L.length cl := hO 6 (by kernel_rfl)
            exact no_is (j := 9) (d := 52) (b := false) rfl rfl h52 rfl
          refine Steps.cons_ (step_mk (Is undef) rfl fun a W hx hE hO => ?_) ?_
          · have h52 : a.eval (.tmp 52) = (.bool true) := hE 9 (by kernel_rfl) 52 rfl
            have h53 : a.eval (.tmp 53) = undef := hE 10 (by kernel_rfl) 53 rfl
            exact no_is (j := 9) (d := 52) (b := false) rfl rfl h52 rfl
          refine Steps.cons_ (step_mk (Is undef) rfl fun a W hx hE hO => ?_) ?_
          · have h52 : a.eval (.tmp 52) = (.bool true) := hE 9 (by kernel_rfl) 52 rfl
            have h54 : a.eval (.tmp 54) = undef := hE 11 (by kernel_rfl) 54 rfl
            exact no_is (j := 9) (d := 52) (b := false) rfl rfl h52 rfl
          refine Steps.cons_ (step_mk (Is undef) rfl fun a W hx hE hO => ?_) ?_
          · have h52 : a.eval (.tmp 52) = (.bool true) := hE 9 (by kernel_rfl) 52 rfl
            have h0 : (BytesP bs) (a.eval (.tmp 0)) W := old_is (v := .slice A bs.length c) (hO 0 (by kernel_rfl)) (mono_at (mono_bytes _) Hbp.out ((Ext.drew _).trans hx))
            exact no_is (j := 9) (d := 52) (b := false) rfl rfl h52 rfl
          refine Steps.cons_ (step_mk (Is undef) rfl fun a W hx hE hO => ?_) ?_
          · have h52 : a.eval (.tmp 52) = (.bool true) := hE 9 (by kernel_rfl) 52 rfl
            have h56 : a.eval (.tmp 56) = undef := hE 13 (by kernel_rfl) 56 rfl
            exact no_is (j := 9) (d := 52) (b := false) rfl rfl h52 rfl
          refine Steps.cons_ (step_mk (Is undef) rfl fun a W hx hE hO => ?_) ?_
          · have h52 : a.eval (.tmp 52) = (.bool true) := hE 9 (by kernel_rfl) 52 rfl
            have h55 : a.eval (.tmp 55) = undef := hE 12 (by kernel_rfl) 55 rfl
            have h57 : a.eval (.tmp 57) = undef := hE 14 (by kernel_rfl) 57 rfl
            exact no_is (j := 9) (d := 52) (b := false) rfl rfl h52 rfl
          refine Steps.cons_ (step_mk (Is (.bool true)) rfl fun a W hx hE hO => ?_) ?_
          · have h52 : a.eval (.tmp 52) = (.bool true) := hE 9 (by kernel_rfl) 52 rfl
            have h58 : a.eval (.tmp 58) = undef := hE 15 (by kernel_rfl) 58 rfl
            exact yes_none rfl (do_pick rfl h52 rfl)
          exact Steps.nil_
        · intro a W hx hd hsz hE hO
          have h59 : a.eval (.tmp 59) = (.bool true) := hE 16 (of_decide_eq_true (by kernel_rfl)) 59 rfl
          have hmix := act_mix [false, false, false, false, false, false, false, false, false, false, false, false, false, false, false, false, false, false, false, false, false, false, false, false, false, false, false, false, false, false, false, false, false, false, false, false, false, false, false, false, false, false, false, true, true, true, true, true, true, true, true, true, true, true, true, true, true, true, true, true, false, false, false] (by kernel_rfl) hsz hd hO
          simp only [mixA, Nat.reduceAdd, Nat.zero_add] at hmix
          rw [hmix]
          rw [h59]
          generalize a.eval (.tmp 43) = u43
          generalize a.eval (.tmp 44) = u44
          generalize a.eval (.tmp 45) = u45
          generalize a.eval (.tmp 46) = u46
          generalize a.eval (.tmp 47) = u47
          generalize a.eval (.tmp 48) = u48
          generalize a.eval (.tmp 49) = u49
          generalize a.eval (.tmp 50) = u50
          generalize a.eval (.tmp 51) = u51
          generalize a.eval (.tmp 52) = u52
          generalize a.eval (.tmp 53) = u53
          generalize a.eval (.tmp 54) = u54
          generalize a.eval (.tmp 55) = u55
          generalize a.eval (.tmp 56) = u56
          generalize a.eval (.tmp 57) = u57
          generalize a.eval (.tmp 58) = u58
          clear hmix hd hsz hE hO
          go_wp2
          go_ret2
          exact ⟨_, _, rfl, .inr ⟨Hnot.out, rfl, rfl⟩, Below.trans Hb.out (hx.mono Hb.out.size)⟩
    · have hlt' : ¬(k : Int) < n := by omega
      obtain rfl : k = n := by omega
      obtain ⟨Al, cl, rfl, hcl, hml⟩ := Hol.out.form
      have Hsl := Lib.hid Hol.out.sl
      have Hso := Lib.hid (Hol.out.sl_own fun _ _ _ _ h => reps_ents h)
      have Hbp : Hid (BytesP bs (.slice A bs.length c) wq) := Lib.hid ((Hv.out.below Hb.out).more Hb.out.size)
      have Hc1 := Lib.hid hc1
      have hLm : L.length ≤ 1000000 := by have := HLk.out; omega
      have hL5 : L.length ≤ 5000 := by have := HLk.out; omega
      clear hc1
      cases bad with
      | true =>
        have Hnot := Lib.hid (Hmt.out.bad rfl)
        go_wp2_with fail
        refine wp_region_list2 [Is (.pointer (some ⟨w.heap.size, 0, none⟩)), Is (.pointer (some ⟨w.heap.size, 0, none⟩)), Is (.pointer (some ⟨w.heap.size, 1, none⟩)), Is (.bool true), Is (.bool true), Is undef, Is undef, Is undef, Is (.bool true), Is (.bool true), Is undef, Is undef, Is undef, Is undef, Is undef, Is undef, Is (.bool true)] (by kernel_rfl) (by kernel_rfl) (by kernel_rfl) ?_ (Steps.all ?_) ?_
        · intro p hp
          simp only [List.mem_cons, List.not_mem_nil, or_false] at hp
          rcases hp with rfl | rfl | rfl | rfl | rfl | rfl | rfl | rfl | rfl | rfl | rfl | rfl | rfl | rfl | rfl | rfl | rfl
          all_goals first | exact mono_is _
        · refine Steps.cons_ (step_mk (Is (.pointer (some ⟨w.heap.size, 0, none⟩))) rfl fun a W hx hE hO => ?_) ?_
          · have h4 : a.eval (.tmp 4) = .pointer (some ⟨w.heap.size, 0, none⟩) := hO 4 (by kernel_rfl)
            exact yes_none rfl (do_move rfl h4)
          refine Steps.cons_ (step_mk (Is (.pointer (some ⟨w.heap.size, 0, none⟩))) rfl fun a W hx hE hO => ?_) ?_
          · have h43 : a.eval (.tmp 43) = (.pointer (some ⟨w.heap.size, 0, none⟩)) := hE 0 (by kernel_rfl) 43 rfl
            refine yes_none rfl (do_run (by simp only [execOp, h43] <;> simp [go_sem, ]) rfl)
          refine Steps.cons_ (step_mk (Is (.pointer (some ⟨w.heap.size, 1, none⟩))) rfl fun a W hx hE hO => ?_) ?_
          · have h44 : a.eval (.tmp 44) = (.pointer (some ⟨w.heap.size, 0, none⟩)) := hE 1 (by kernel_rfl) 44 rfl
            refine yes_none rfl (do_run (by simp only [execOp, h44] <;> simp [go_sem, ]) rfl)
          refine Steps.cons_ (step_mk (Is (.bool true)) rfl fun a W hx hE hO => ?_) ?_
          · have h45 : a.eval (.tmp 45) = (.pointer (some ⟨w.heap.size, 1, none⟩)) := hE 2 (by kernel_rfl) 45 rfl
            refine yes_none rfl ?_
            have q0 := Ext.keeps (Ext.trans (Ext.drew _) hx) Hc1.out; exact do_run (by simp only [execOp, h45] <;> simp [go_sem, q0]) rfl
          refine Steps.cons_ (step_mk (Is (.bool true)) rfl fun a W hx hE hO => ?_) ?_
          · have h46 : a.eval (.tmp 46) = (.bool true) := hE 3 (by kernel_rfl) 46 rfl
            exact yes_none rfl (do_move rfl h46)
          refine Steps.cons_ (step_mk (Is undef) rfl fun a W hx hE hO => ?_) ?_
          · have h47 : a.eval (.tmp 47) = (.bool true) := hE 4 (by kernel_rfl) 47 rfl
            have h6 : a.eval (.tmp 6) = .slice Al L.length cl := hO 6 (by kernel_rfl)
            exact no_is (j := 4) (d := 47) (b := false) rfl rfl h47 rfl
          refine Steps.cons_ (step_mk (Is undef) rfl fun a W hx hE hO => ?_) ?_
          · have h47 : a.eval (.tmp 47) = (.bool true) := hE 4 (by kernel_rfl) 47 rfl
            have h48 : a.eval (.tmp 48) = undef := hE 5 (by kernel_rfl) 48 rfl
            exact no_is (j := 4) (d := 47) (b := false) rfl rfl h47 rfl
          refine Steps.cons_ (step_mk (Is undef) rfl fun a W hx hE hO => ?_) ?_
          · have h47 : a.eval (.tmp 47) = (.bool true) := hE 4 (by kernel_rfl) 47 rfl
            have h49 : a.eval (.tmp 49) = undef := hE 6 (by kernel_rfl) 49 rfl
            exact no_is (j := 4) (d := 47) (b := false) rfl rfl h47 rfl
          refine Steps.cons_ (step_mk (Is (.bool true)) rfl fun a W hx hE hO => ?_) ?_
          · have h47 : a.eval (.tmp 47) = (.bool true) := hE 4 (by kernel_rfl) 47 rfl
            have h50 : a.eval (.tmp 50) = undef := hE 7 (by kernel_rfl) 50 rfl
            exact yes_none rfl (do_pick rfl h47 rfl)
          refine Steps.cons_ (step_mk (Is (.bool true)) rfl fun a W hx hE hO => ?_) ?_
          · have h51 : a.eval (.tmp 51) = (.bool true) := hE 8 (by kernel_rfl) 51 rfl
            exact yes_none rfl (do_move rfl h51)
          refine Steps.cons_ (step_mk (Is undef) rfl fun a W hx hE hO => ?_) ?_
          · have h52 : a.eval (.tmp 52) = (.bool true) := hE 9 (by kernel_rfl) 52 rfl
            have h6 : a.eval (.tmp 6) = .slice Al L.length cl := hO 6 (by kernel_rfl)
            exact no_is (j := 9) (d := 52) (b := false) rfl rfl h52 rfl
          refine Steps.cons_ (step_mk (Is undef) rfl fun a W hx hE hO => ?_) ?_
          · have h52 : a.eval (.tmp 52) = (.bool true) := hE 9 (by kernel_rfl) 52 rfl
            have h53 : a.eval (.tmp 53) = undef := hE 10 (by kernel_rfl) 53 rfl
            exact no_is (j := 9) (d := 52) (b := false) rfl rfl h52 rfl
          refine Steps.cons_ (step_mk (Is undef) rfl fun a W hx hE hO => ?_) ?_
          · have h52 : a.eval (.tmp 52) = (.bool true) := hE 9 (by kernel_rfl) 52 rfl
            have h54 : a.eval (.tmp 54) = undef := hE 11 (by kernel_rfl) 54 rfl
            exact no_is (j := 9) (d := 52) (b := false) rfl rfl h52 rfl
          refine Steps.cons_ (step_mk (Is undef) rfl fun a W hx hE hO => ?_) ?_
          · have h52 : a.eval (.tmp 52) = (.bool true) := hE 9 (by kernel_rfl) 52 rfl
            have h0 : (BytesP bs) (a.eval (.tmp 0)) W := old_is (v := .slice A bs.length c) (hO 0 (by kernel_rfl)) (mono_at (mono_bytes _) Hbp.out ((Ext.drew _).trans hx))
            exact no_is (j := 9) (d := 52) (b := false) rfl rfl h52 rfl
          refine Steps.cons_ (step_mk (Is undef) rfl fun a W hx hE hO => ?_) ?_
          · have h52 : a.eval (.tmp 52) = (.bool true) := hE 9 (by kernel_rfl) 52 rfl
            have h56 : a.eval (.tmp 56) = undef := hE 13 (by kernel_rfl) 56 rfl
            exact no_is (j := 9) (d := 52) (b := false) rfl rfl h52 rfl
          refine Steps.cons_ (step_mk (Is undef) rfl fun a W hx hE hO => ?_) ?_
          · have h52 : a.eval (.tmp 52) = (.bool true) := hE 9 (by kernel_rfl) 52 rfl
            have h55 : a.eval (.tmp 55) = undef := hE 12 (by kernel_rfl) 55 rfl
            have h57 : a.eval (.tmp 57) = undef := hE 14 (by kernel_rfl) 57 rfl
            exact no_is (j := 9) (d := 52) (b := false) rfl rfl h52 rfl
          refine Steps.cons_ (step_mk (Is (.bool true)) rfl fun a W hx hE hO => ?_) ?_
          · have h52 : a.eval (.tmp 52) = (.bool true) := hE 9 (by kernel_rfl) 52 rfl
            have h58 : a.eval (.tmp 58) = undef := hE 15 (by kernel_rfl) 58 rfl
            exact yes_none rfl (do_pick rfl h52 rfl)
          exact Steps.nil_
        · intro a W hx hd hsz hE hO
          have h59 : a.eval (.tmp 59) = (.bool true) := hE 16 (of_decide_eq_true (by kernel_rfl)) 59 rfl
          have hmix := act_mix [false, false, false, false, false, false, false, false, false, false, false, false, false, false, false, false, false, false, false, false, false, false, false, false, false, false, false, false, false, false, false, false, false, false, false, false, false, false, false, false, false, false, false, true, true, true, true, true, true, true, true, true, true, true, true, true, true, true, true, true, false, false, false] (by kernel_rfl) hsz hd hO
          simp only [mixA, Nat.reduceAdd, Nat.zero_add] at hmix
          rw [hmix]
          rw [h59]
          generalize a.eval (.tmp 43) = u43
          generalize a.eval (.tmp 44) = u44
          generalize a.eval (.tmp 45) = u45
          generalize a.eval (.tmp 46) = u46
          generalize a.eval (.tmp 47) = u47
          generalize a.eval (.tmp 48) = u48
          generalize a.eval (.tmp 49) = u49
          generalize a.eval (.tmp 50) = u50
          generalize a.eval (.tmp 51) = u51
          generalize a.eval (.tmp 52) = u52
          generalize a.eval (.tmp 53) = u53
          generalize a.eval (.tmp 54) = u54
          generalize a.eval (.tmp 55) = u55
          generalize a.eval (.tmp 56) = u56
          generalize a.eval (.tmp 57) = u57
          generalize a.eval (.tmp 58) = u58
          clear hmix hd hsz hE hO
          go_wp2
          go_ret2
          exact ⟨_, _, rfl, .inr ⟨Hnot.out, rfl, rfl⟩, Below.trans Hb.out (hx.mono Hb.out.size)⟩
      | false =>
        cases hok : esOk L with
        | false =>
          have Hok := Lib.hid hok
          have Hnot := Lib.hid (Hmt.out.done (.inl hok))
          clear hok
          go_wp2_with fail
          refine wp_region_list2 [Is (.pointer (some ⟨w.heap.size, 0, none⟩)), Is (.pointer (some ⟨w.heap.size, 0, none⟩)), Is (.pointer (some ⟨w.heap.size, 1, none⟩)), Is (.bool false), Is (.bool false), Is (.slice Al L.length cl), Is (.bool false), Is (.bool true), Is (.bool true), Is (.bool true), Is undef, Is undef, Is undef, Is undef, Is undef, Is undef, Is (.bool true)] (by kernel_rfl) (by kernel_rfl) (by kernel_rfl) ?_ (Steps.all ?_) ?_
          · intro p hp
            simp only [List.mem_cons, List.not_mem_nil, or_false] at hp
            rcases hp with rfl | rfl | rfl | rfl | rfl | rfl | rfl | rfl | rfl | rfl | rfl | rfl | rfl | rfl | rfl | rfl | rfl
            all_goals first | exact mono_is _
          · refine Steps.cons_ (step_mk (Is (.pointer (some ⟨w.heap.size, 0, none⟩))) rfl fun a W hx hE hO => ?_) ?_
            · have h4 : a.eval (.tmp 4) = .pointer (some ⟨w.heap.size, 0, none⟩) := hO 4 (by kernel_rfl)
              exact yes_none rfl (do_move rfl h4)
            refine Steps.cons_ (step_mk (Is (.pointer (some ⟨w.heap.size, 0, none⟩))) rfl fun a W hx hE hO => ?_) ?_
            · have h43 : a.eval (.tmp 43) = (.pointer (some ⟨w.heap.size, 0, none⟩)) := hE 0 (by kernel_rfl) 43 rfl
              refine yes_none rfl (do_run (by simp only [execOp, h43] <;> simp [go_sem, ]) rfl)
            refine Steps.cons_ (step_mk (Is (.pointer (some ⟨w.heap.size, 1, none⟩))) rfl fun a W hx hE hO => ?_) ?_
            · have h44 : a.eval (.tmp 44) = (.pointer (some ⟨w.heap.size, 0, none⟩)) := hE 1 (by kernel_rfl) 44 rfl
              refine yes_none rfl (do_run (by simp only [execOp, h44] <;> simp [go_sem, ]) rfl)
            refine Steps.cons_ (step_mk (Is (.bool false)) rfl fun a W hx hE hO => ?_) ?_
            · have h45 : a.eval (.tmp 45) = (.pointer (some ⟨w.heap.size, 1, none⟩)) := hE 2 (by kernel_rfl) 45 rfl
              refine yes_none rfl ?_
              have q0 := Ext.keeps (Ext.trans (Ext.drew _) hx) Hc1.out; exact do_run (by simp only [execOp, h45] <;> simp [go_sem, q0]) rfl
            refine Steps.cons_ (step_mk (Is (.bool false)) rfl fun a W hx hE hO => ?_) ?_
            · have h46 : a.eval (.tmp 46) = (.bool false) := hE 3 (by kernel_rfl) 46 rfl
              exact yes_none rfl (do_move rfl h46)
            refine Steps.cons_ (step_mk (Is (.slice Al L.length cl)) rfl fun a W hx hE hO => ?_) ?_
            · have h47 : a.eval (.tmp 47) = (.bool false) := hE 4 (by kernel_rfl) 47 rfl
              have h6 : a.eval (.tmp 6) = .slice Al L.length cl := hO 6 (by kernel_rfl)
              exact yes_is (j := 4) (d := 47) (b := false) rfl rfl h47 (do_move rfl h6)
            refine Steps.cons_ (step_mk (Is (.bool false)) rfl fun a W hx hE hO => ?_) ?_
            · have h47 : a.eval (.tmp 47) = (.bool false) := hE 4 (by kernel_rfl) 47 rfl
              have h48 : a.eval (.tmp 48) = (.slice Al L.length cl) := hE 5 (by kernel_rfl) 48 rfl
              refine yes_is (j := 4) (d := 47) (b := false) rfl rfl h47 (do_call rfl Try.func24 (by kernel_rfl) (by kernel_rfl) (args := #[(.slice Al L.length cl)]) (by simp only [List.map_toArray, List.map_cons, List.map_nil, h48]) ?_)
              exact (may_any W _ L (Hsl.out.up (Ext.trans (Ext.drew wq) hx)) hLm).mono fun e w' ⟨he, hx⟩ => ⟨_, he, hx, by rw [Hok.out]; rfl⟩
            refine Steps.cons_ (step_mk (Is (.bool true)) rfl fun a W hx hE hO => ?_) ?_
            · have h47 : a.eval (.tmp 47) = (.bool false) := hE 4 (by kernel_rfl) 47 rfl
              have h49 : a.eval (.tmp 49) = (.bool false) := hE 6 (by kernel_rfl) 49 rfl
              refine yes_is (j := 4) (d := 47) (b := false) rfl rfl h47 (do_run (by simp only [execOp, h49] <;> simp [go_sem]) rfl)
            refine Steps.cons_ (step_mk (Is (.bool true)) rfl fun a W hx hE hO => ?_) ?_
            · have h47 : a.eval (.tmp 47) = (.bool false) := hE 4 (by kernel_rfl) 47 rfl
              have h50 : a.eval (.tmp 50) = (.bool true) := hE 7 (by kernel_rfl) 50 rfl
              exact yes_none rfl (do_pick_no rfl h47 h50)
            refine Steps.cons_ (step_mk (Is (.bool true)) rfl fun a W hx hE hO => ?_) ?_
            · have h51 : a.eval (.tmp 51) = (.bool true) := hE 8 (by kernel_rfl) 51 rfl
              exact yes_none rfl (do_move rfl h51)
            refine Steps.cons_ (step_mk (Is undef) rfl fun a W hx hE hO => ?_) ?_
            · have h52 : a.eval (.tmp 52) = (.bool true) := hE 9 (by kernel_rfl) 52 rfl
              have h6 : a.eval (.tmp 6) = .slice Al L.length cl := hO 6 (by kernel_rfl)
              exact no_is (j := 9) (d := 52) (b := false) rfl rfl h52 rfl
            refine Steps.cons_ (step_mk (Is undef) rfl fun a W hx hE hO => ?_) ?_
            · have h52 : a.eval (.tmp 52) = (.bool true) := hE 9 (by kernel_rfl) 52 rfl
              have h53 : a.eval (.tmp 53) = undef := hE 10 (by kernel_rfl) 53 rfl
              exact no_is (j := 9) (d := 52) (b := false) rfl rfl h52 rfl
            refine Steps.cons_ (step_mk (Is undef) rfl fun a W hx hE hO => ?_) ?_
            · have h52 : a.eval (.tmp 52) = (.bool true) := hE 9 (by kernel_rfl) 52 rfl
              have h54 : a.eval (.tmp 54) = undef := hE 11 (by kernel_rfl) 54 rfl
              exact no_is (j := 9) (d := 52) (b := false) rfl rfl h52 rfl
            refine Steps.cons_ (step_mk (Is undef) rfl fun a W hx hE hO => ?_) ?_
            · have h52 : a.eval (.tmp 52) = (.bool true) := hE 9 (by kernel_rfl) 52 rfl
              have h0 : (BytesP bs) (a.eval (.tmp 0)) W := old_is (v := .slice A bs.length c) (hO 0 (by kernel_rfl)) (mono_at (mono_bytes _) Hbp.out ((Ext.drew _).trans hx))
              exact no_is (j := 9) (d := 52) (b := false) rfl rfl h52 rfl
            refine Steps.cons_ (step_mk (Is undef) rfl fun a W hx hE hO => ?_) ?_
            · have h52 : a.eval (.tmp 52) = (.bool true) := hE 9 (by kernel_rfl) 52 rfl
              have h56 : a.eval (.tmp 56) = undef := hE 13 (by kernel_rfl) 56 rfl
              exact no_is (j := 9) (d := 52) (b := false) rfl rfl h52 rfl
            refine Steps.cons_ (step_mk (Is undef) rfl fun a W hx hE hO => ?_) ?_
            · have h52 : a.eval (.tmp 52) = (.bool true) := hE 9 (by kernel_rfl) 52 rfl
              have h55 : a.eval (.tmp 55) = undef := hE 12 (by kernel_rfl) 55 rfl
              have h57 : a.eval (.tmp 57) = undef := hE 14 (by kernel_rfl) 57 rfl
              exact no_is (j := 9) (d := 52) (b := false) rfl rfl h52 rfl
            refine Steps.cons_ (step_mk (Is (.bool true)) rfl fun a W hx hE hO => ?_) ?_
            · have h52 : a.eval (.tmp 52) = (.bool true) := hE 9 (by kernel_rfl) 52 rfl
              have h58 : a.eval (.tmp 58) = undef := hE 15 (by kernel_rfl) 58 rfl
              exact yes_none rfl (do_pick rfl h52 rfl)
            exact Steps.nil_
          · intro a W hx hd hsz hE hO
            have h59 : a.eval (.tmp 59) = (.bool true) := hE 16 (of_decide_eq_true (by kernel_rfl)) 59 rfl
            have hmix := act_mix [false, false, false, false, false, false, false, false, false, false, false, false, false, false, false, false, false, false, false, false, false, false, false, false, false, false, false, false, false, false, false, false, false, false, false, false, false, false, false, false, false, false, false, true, true, true, true, true, true, true, true, true, true, true, true, true, true, true, true, true, false, false, false] (by kernel_rfl) hsz hd hO
            simp only [mixA, Nat.reduceAdd, Nat.zero_add] at hmix
            rw [hmix]
            rw [h59]
            generalize a.eval (.tmp 43) = u43
            generalize a.eval (.tmp 44) = u44
            generalize a.eval (.tmp 45) = u45
            generalize a.eval (.tmp 46) = u46
            generalize a.eval (.tmp 47) = u47
            generalize a.eval (.tmp 48) = u48
            generalize a.eval (.tmp 49) = u49
            generalize a.eval (.tmp 50) = u50
            generalize a.eval (.tmp 51) = u51
            generalize a.eval (.tmp 52) = u52
            generalize a.eval (.tmp 53) = u53
            generalize a.eval (.tmp 54) = u54
            generalize a.eval (.tmp 55) = u55
            generalize a.eval (.tmp 56) = u56
            generalize a.eval (.tmp 57) = u57
            generalize a.eval (.tmp 58) = u58
            clear hmix hd hsz hE hO
            go_wp2
            go_ret2
            exact ⟨_, _, rfl, .inr ⟨Hnot.out, rfl, rfl⟩, Below.trans Hb.out (hx.mono Hb.out.size)⟩
        | true =>
          have Hok := Lib.hid hok
          by_cases hne : denc L = bs
          · have HNE := Lib.hid hne
            clear hok hne
            go_wp2_with fail
            refine wp_region_list2 [Is (.pointer (some ⟨w.heap.size, 0, none⟩)), Is (.pointer (some ⟨w.heap.size, 0, none⟩)), Is (.pointer (some ⟨w.heap.size, 1, none⟩)), Is (.bool false), Is (.bool false), Is (.slice Al L.length cl), Is (.bool true), Is (.bool false), Is (.bool false), Is (.bool false), Is (.slice Al L.length cl), BytesP (denc L), Is (.string ⟨((denc L)).toArray⟩), BytesP bs, Is (.string ⟨(bs).toArray⟩), Is (.bool false), Is (.bool false)] (by kernel_rfl) (by kernel_rfl) (by kernel_rfl) ?_ (Steps.all ?_) ?_
            · intro p hp
              simp only [List.mem_cons, List.not_mem_nil, or_false] at hp
              rcases hp with rfl | rfl | rfl | rfl | rfl | rfl | rfl | rfl | rfl | rfl | rfl | rfl | rfl | rfl | rfl | rfl | rfl
              all_goals first | exact mono_is _ | exact mono_bytes _
            · refine Steps.cons_ (step_mk (Is (.pointer (some ⟨w.heap.size, 0, none⟩))) rfl fun a W hx hE hO => ?_) ?_
              · have h4 : a.eval (.tmp 4) = .pointer (some ⟨w.heap.size, 0, none⟩) := hO 4 (by kernel_rfl)
                exact yes_none rfl (do_move rfl h4)
              refine Steps.cons_ (step_mk (Is (.pointer (some ⟨w.heap.size, 0, none⟩))) rfl fun a W hx hE hO => ?_) ?_
              · have h43 : a.eval (.tmp 43) = (.pointer (some ⟨w.heap.size, 0, none⟩)) := hE 0 (by kernel_rfl) 43 rfl
                refine yes_none rfl (do_run (by simp only [execOp, h43] <;> simp [go_sem, ]) rfl)
              refine Steps.cons_ (step_mk (Is (.pointer (some ⟨w.heap.size, 1, none⟩))) rfl fun a W hx hE hO => ?_) ?_
              · have h44 : a.eval (.tmp 44) = (.pointer (some ⟨w.heap.size, 0, none⟩)) := hE 1 (by kernel_rfl) 44 rfl
                refine yes_none rfl (do_run (by simp only [execOp, h44] <;> simp [go_sem, ]) rfl)
              refine Steps.cons_ (step_mk (Is (.bool false)) rfl fun a W hx hE hO => ?_) ?_
              · have h45 : a.eval (.tmp 45) = (.pointer (some ⟨w.heap.size, 1, none⟩)) := hE 2 (by kernel_rfl) 45 rfl
                refine yes_none rfl ?_
                have q0 := Ext.keeps (Ext.trans (Ext.drew _) hx) Hc1.out; exact do_run (by simp only [execOp, h45] <;> simp [go_sem, q0]) rfl
              refine Steps.cons_ (step_mk (Is (.bool false)) rfl fun a W hx hE hO => ?_) ?_
              · have h46 : a.eval (.tmp 46) = (.bool false) := hE 3 (by kernel_rfl) 46 rfl
                exact yes_none rfl (do_move rfl h46)
              refine Steps.cons_ (step_mk (Is (.slice Al L.length cl)) rfl fun a W hx hE hO => ?_) ?_
              · have h47 : a.eval (.tmp 47) = (.bool false) := hE 4 (by kernel_rfl) 47 rfl
                have h6 : a.eval (.tmp 6) = .slice Al L.length cl := hO 6 (by kernel_rfl)
                exact yes_is (j := 4) (d := 47) (b := false) rfl rfl h47 (do_move rfl h6)
              refine Steps.cons_ (step_mk (Is (.bool true)) rfl fun a W hx hE hO => ?_) ?_
              · have h47 : a.eval (.tmp 47) = (.bool false) := hE 4 (by kernel_rfl) 47 rfl
                have h48 : a.eval (.tmp 48) = (.slice Al L.length cl) := hE 5 (by kernel_rfl) 48 rfl
                refine yes_is (j := 4) (d := 47) (b := false) rfl rfl h47 (do_call rfl Try.func24 (by kernel_rfl) (by kernel_rfl) (args := #[(.slice Al L.length cl)]) (by simp only [List.map_toArray, List.map_cons, List.map_nil, h48]) ?_)
                exact (may_any W _ L (Hsl.out.up (Ext.trans (Ext.drew wq) hx)) hLm).mono fun e w' ⟨he, hx⟩ => ⟨_, he, hx, by rw [Hok.out]; rfl⟩
              refine Steps.cons_ (step_mk (Is (.bool false)) rfl fun a W hx hE hO => ?_) ?_
              · have h47 : a.eval (.tmp 47) = (.bool false) := hE 4 (by kernel_rfl) 47 rfl
                have h49 : a.eval (.tmp 49) = (.bool true) := hE 6 (by kernel_rfl) 49 rfl
                refine yes_is (j := 4) (d := 47) (b := false) rfl rfl h47 (do_run (by simp only [execOp, h49] <;> simp [go_sem]) rfl)
              refine Steps.cons_ (step_mk (Is (.bool false)) rfl fun a W hx hE hO => ?_) ?_
              · have h47 : a.eval (.tmp 47) = (.bool false) := hE 4 (by kernel_rfl) 47 rfl
                have h50 : a.eval (.tmp 50) = (.bool false) := hE 7 (by kernel_rfl) 50 rfl
                exact yes_none rfl (do_pick_no rfl h47 h50)
              refine Steps.cons_ (step_mk (Is (.bool false)) rfl fun a W hx hE hO => ?_) ?_
              · have h51 : a.eval (.tmp 51) = (.bool false) := hE 8 (by kernel_rfl) 51 rfl
                exact yes_none rfl (do_move rfl h51)
              refine Steps.cons_ (step_mk (Is (.slice Al L.length cl)) rfl fun a W hx hE hO => ?_) ?_
              · have h52 : a.eval (.tmp 52) = (.bool false) := hE 9 (by kernel_rfl) 52 rfl
                have h6 : a.eval (.tmp 6) = .slice Al L.length cl := hO 6 (by kernel_rfl)
                exact yes_is (j := 9) (d := 52) (b := false) rfl rfl h52 (do_move rfl h6)
              refine Steps.cons_ (step_mk (BytesP (denc L)) rfl fun a W hx hE hO => ?_) ?_
              · have h52 : a.eval (.tmp 52) = (.bool false) := hE 9 (by kernel_rfl) 52 rfl
                have h53 : a.eval (.tmp 53) = (.slice Al L.length cl) := hE 10 (by kernel_rfl) 53 rfl
                refine yes_is (j := 9) (d := 52) (b := false) rfl rfl h52 (do_call rfl Try.func25 (by kernel_rfl) (by kernel_rfl) (args := #[(.slice Al L.length cl)]) (by simp only [List.map_toArray, List.map_cons, List.map_nil, h53]) ?_)
                exact (bytes_ok W _ L (Hsl.out.up (Ext.trans (Ext.drew wq) hx)) Hok.out hL5).mono fun e w' ⟨v', he, ho, hx⟩ => ⟨v', he, hx, ho.bs⟩
              refine Steps.cons_ (step_mk (Is (.string ⟨((denc L)).toArray⟩)) rfl fun a W hx hE hO => ?_) ?_
              · have h52 : a.eval (.tmp 52) = (.bool false) := hE 9 (by kernel_rfl) 52 rfl
                have h54 : (BytesP (denc L)) (a.eval (.tmp 54)) W := hE 11 (by kernel_rfl) 54 rfl
                refine yes_is (j := 9) (d := 52) (b := false) rfl rfl h52 ?_
                exact do_string rfl Try.underlying23 Try.underlying5 Try.underlying9 h54 rfl
              refine Steps.cons_ (step_mk (BytesP bs) rfl fun a W hx hE hO => ?_) ?_
              · have h52 : a.eval (.tmp 52) = (.bool false) := hE 9 (by kernel_rfl) 52 rfl
                have h0 : (BytesP bs) (a.eval (.tmp 0)) W := old_is (v := .slice A bs.length c) (hO 0 (by kernel_rfl)) (mono_at (mono_bytes _) Hbp.out ((Ext.drew _).trans hx))
                exact yes_is (j := 9) (d := 52) (b := false) rfl rfl h52 (do_move rfl h0)
              refine Steps.cons_ (step_mk (Is (.string ⟨(bs).toArray⟩)) rfl fun a W hx hE hO => ?_) ?_
              · have h52 : a.eval (.tmp 52) = (.bool false) := hE 9 (by kernel_rfl) 52 rfl
                have h56 : (BytesP bs) (a.eval (.tmp 56)) W := hE 13 (by kernel_rfl) 56 rfl
                refine yes_is (j := 9) (d := 52) (b := false) rfl rfl h52 ?_
                exact do_string rfl Try.underlying23 Try.underlying5 Try.underlying9 h56 rfl
              refine Steps.cons_ (step_mk (Is (.bool false)) rfl fun a W hx hE hO => ?_) ?_
              · have h52 : a.eval (.tmp 52) = (.bool false) := hE 9 (by kernel_rfl) 52 rfl
                have h55 : a.eval (.tmp 55) = (.string ⟨((denc L)).toArray⟩) := hE 12 (by kernel_rfl) 55 rfl
                have h57 : a.eval (.tmp 57) = (.string ⟨(bs).toArray⟩) := hE 14 (by kernel_rfl) 57 rfl
                refine yes_is (j := 9) (d := 52) (b := false) rfl rfl h52 ?_
                exact do_bin (v := .bool false) rfl h55 h57 (by simp [go_sem, HNE.out]) rfl
              refine Steps.cons_ (step_mk (Is (.bool false)) rfl fun a W hx hE hO => ?_) ?_
              · have h52 : a.eval (.tmp 52) = (.bool false) := hE 9 (by kernel_rfl) 52 rfl
                have h58 : a.eval (.tmp 58) = (.bool false) := hE 15 (by kernel_rfl) 58 rfl
                exact yes_none rfl (do_pick_no rfl h52 h58)
              exact Steps.nil_
            · intro a W hx hd hsz hE hO
              have h59 : a.eval (.tmp 59) = (.bool false) := hE 16 (of_decide_eq_true (by kernel_rfl)) 59 rfl
              have hmix := act_mix [false, false, false, false, false, false, false, false, false, false, false, false, false, false, false, false, false, false, false, false, false, false, false, false, false, false, false, false, false, false, false, false, false, false, false, false, false, false, false, false, false, false, false, true, true, true, true, true, true, true, true, true, true, true, true, true, true, true, true, true, false, false, false] (by kernel_rfl) hsz hd hO
              simp only [mixA, Nat.reduceAdd, Nat.zero_add] at hmix
              rw [hmix]
              rw [h59]
              generalize a.eval (.tmp 43) = u43
              generalize a.eval (.tmp 44) = u44
              generalize a.eval (.tmp 45) = u45
              generalize a.eval (.tmp 46) = u46
              generalize a.eval (.tmp 47) = u47
              generalize a.eval (.tmp 48) = u48
              generalize a.eval (.tmp 49) = u49
              generalize a.eval (.tmp 50) = u50
              generalize a.eval (.tmp 51) = u51
              generalize a.eval (.tmp 52) = u52
              generalize a.eval (.tmp 53) = u53
              generalize a.eval (.tmp 54) = u54
              generalize a.eval (.tmp 55) = u55
              generalize a.eval (.tmp 56) = u56
              generalize a.eval (.tmp 57) = u57
              generalize a.eval (.tmp 58) = u58
              clear hmix hd hsz hE hO
              go_wp2
              go_ret2
              refine ⟨_, _, rfl, .inl ⟨L, Hok.out, HNE.out, hL5, rfl, W.heap.size, _, rfl, Nat.le_trans Hb.out.size hx.size, heap_alloc_new W _, ((Hso.out.keep (Sm.of_ext (Ext.trans hx (Ext.of_alloc _ _)) fun k hk => hk.2)).more fun k hk => ⟨by omega, Nat.lt_of_lt_of_le hk.2 (Ext.trans hx (Ext.of_alloc W _)).size⟩)⟩, Below.trans Hb.out ((Ext.trans hx (Ext.of_alloc _ _)).mono Hb.out.size)⟩
          · have HNE := Lib.hid hne
            have Hnot := Lib.hid (Hmt.out.done (.inr hne))
            clear hok hne
            go_wp2_with fail
            refine wp_region_list2 [Is (.pointer (some ⟨w.heap.size, 0, none⟩)), Is (.pointer (some ⟨w.heap.size, 0, none⟩)), Is (.pointer (some ⟨w.heap.size, 1, none⟩)), Is (.bool false), Is (.bool false), Is (.slice Al L.length cl), Is (.bool true), Is (.bool false), Is (.bool false), Is (.bool false), Is (.slice Al L.length cl), BytesP (denc L), Is (.string ⟨((denc L)).toArray⟩), BytesP bs, Is (.string ⟨(bs).toArray⟩), Is (.bool true), Is (.bool true)] (by kernel_rfl) (by kernel_rfl) (by kernel_rfl) ?_ (Steps.all ?_) ?_
            · intro p hp
              simp only [List.mem_cons, List.not_mem_nil, or_false] at hp
              rcases hp with rfl | rfl | rfl | rfl | rfl | rfl | rfl | rfl | rfl | rfl | rfl | rfl | rfl | rfl | rfl | rfl | rfl
              all_goals first | exact mono_is _ | exact mono_bytes _
            · refine Steps.cons_ (step_mk (Is (.pointer (some ⟨w.heap.size, 0, none⟩))) rfl fun a W hx hE hO => ?_) ?_
              · have h4 : a.eval (.tmp 4) = .pointer (some ⟨w.heap.size, 0, none⟩) := hO 4 (by kernel_rfl)
                exact yes_none rfl (do_move rfl h4)
              refine Steps.cons_ (step_mk (Is (.pointer (some ⟨w.heap.size, 0, none⟩))) rfl fun a W hx hE hO => ?_) ?_
              · have h43 : a.eval (.tmp 43) = (.pointer (some ⟨w.heap.size, 0, none⟩)) := hE 0 (by kernel_rfl) 43 rfl
                refine yes_none rfl (do_run (by simp only [execOp, h43] <;> simp [go_sem, ]) rfl)
              refine Steps.cons_ (step_mk (Is (.pointer (some ⟨w.heap.size, 1, none⟩))) rfl fun a W hx hE hO => ?_) ?_
              · have h44 : a.eval (.tmp 44) = (.pointer (some ⟨w.heap.size, 0, none⟩)) := hE 1 (by kernel_rfl) 44 rfl
                refine yes_none rfl (do_run (by simp only [execOp, h44] <;> simp [go_sem, ]) rfl)
              refine Steps.cons_ (step_mk (Is (.bool false)) rfl fun a W hx hE hO => ?_) ?_
              · have h45 : a.eval (.tmp 45) = (.pointer (some ⟨w.heap.size, 1, none⟩)) := hE 2 (by kernel_rfl) 45 rfl
                refine yes_none rfl ?_
                have q0 := Ext.keeps (Ext.trans (Ext.drew _) hx) Hc1.out; exact do_run (by simp only [execOp, h45] <;> simp [go_sem, q0]) rfl
              refine Steps.cons_ (step_mk (Is (.bool false)) rfl fun a W hx hE hO => ?_) ?_
              · have h46 : a.eval (.tmp 46) = (.bool false) := hE 3 (by kernel_rfl) 46 rfl
                exact yes_none rfl (do_move rfl h46)
              refine Steps.cons_ (step_mk (Is (.slice Al L.length cl)) rfl fun a W hx hE hO => ?_) ?_
              · have h47 : a.eval (.tmp 47) = (.bool false) := hE 4 (by kernel_rfl) 47 rfl
                have h6 : a.eval (.tmp 6) = .slice Al L.length cl := hO 6 (by kernel_rfl)
                exact yes_is (j := 4) (d := 47) (b := false) rfl rfl h47 (do_move rfl h6)
              refine Steps.cons_ (step_mk (Is (.bool true)) rfl fun a W hx hE hO => ?_) ?_
              · have h47 : a.eval (.tmp 47) = (.bool false) := hE 4 (by kernel_rfl) 47 rfl
                have h48 : a.eval (.tmp 48) = (.slice Al L.length cl) := hE 5 (by kernel_rfl) 48 rfl
                refine yes_is (j := 4) (d := 47) (b := false) rfl rfl h47 (do_call rfl Try.func24 (by kernel_rfl) (by kernel_rfl) (args := #[(.slice Al L.length cl)]) (by simp only [List.map_toArray, List.map_cons, List.map_nil, h48]) ?_)
                exact (may_any W _ L (Hsl.out.up (Ext.trans (Ext.drew wq) hx)) hLm).mono fun e w' ⟨he, hx⟩ => ⟨_, he, hx, by rw [Hok.out]; rfl⟩
              refine Steps.cons_ (step_mk (Is (.bool false)) rfl fun a W hx hE hO => ?_) ?_
              · have h47 : a.eval (.tmp 47) = (.bool false) := hE 4 (by kernel_rfl) 47 rfl
                have h49 : a.eval (.tmp 49) = (.bool true) := hE 6 (by kernel_rfl) 49 rfl
                refine yes_is (j := 4) (d := 47) (b := false) rfl rfl h47 (do_run (by simp only [execOp, h49] <;> simp [go_sem]) rfl)
              refine Steps.cons_ (step_mk (Is (.bool false)) rfl fun a W hx hE hO => ?_) ?_
              · have h47 : a.eval (.tmp 47) = (.bool false) := hE 4 (by kernel_rfl) 47 rfl
                have h50 : a.eval (.tmp 50) = (.bool false) := hE 7 (by kernel_rfl) 50 rfl
                exact yes_none rfl (do_pick_no rfl h47 h50)
              refine Steps.cons_ (step_mk (Is (.bool false)) rfl fun a W hx hE hO => ?_) ?_
              · have h51 : a.eval (.tmp 51) = (.bool false) := hE 8 (by kernel_rfl) 51 rfl
                exact yes_none rfl (do_move rfl h51)
              refine Steps.cons_ (step_mk (Is (.slice Al L.length cl)) rfl fun a W hx hE hO => ?_) ?_
              · have h52 : a.eval (.tmp 52) = (.bool false) := hE 9 (by kernel_rfl) 52 rfl
                have h6 : a.eval (.tmp 6) = .slice Al L.length cl := hO 6 (by kernel_rfl)
                exact yes_is (j := 9) (d := 52) (b := false) rfl rfl h52 (do_move rfl h6)
              refine Steps.cons_ (step_mk (BytesP (denc L)) rfl fun a W hx hE hO => ?_) ?_
              · have h52 : a.eval (.tmp 52) = (.bool false) := hE 9 (by kernel_rfl) 52 rfl
                have h53 : a.eval (.tmp 53) = (.slice Al L.length cl) := hE 10 (by kernel_rfl) 53 rfl
                refine yes_is (j := 9) (d := 52) (b := false) rfl rfl h52 (do_call rfl Try.func25 (by kernel_rfl) (by kernel_rfl) (args := #[(.slice Al L.length cl)]) (by simp only [List.map_toArray, List.map_cons, List.map_nil, h53]) ?_)
                exact (bytes_ok W _ L (Hsl.out.up (Ext.trans (Ext.drew wq) hx)) Hok.out hL5).mono fun e w' ⟨v', he, ho, hx⟩ => ⟨v', he, hx, ho.bs⟩
              refine Steps.cons_ (step_mk (Is (.string ⟨((denc L)).toArray⟩)) rfl fun a W hx hE hO => ?_) ?_
              · have h52 : a.eval (.tmp 52) = (.bool false) := hE 9 (by kernel_rfl) 52 rfl
                have h54 : (BytesP (denc L)) (a.eval (.tmp 54)) W := hE 11 (by kernel_rfl) 54 rfl
                refine yes_is (j := 9) (d := 52) (b := false) rfl rfl h52 ?_
                exact do_string rfl Try.underlying23 Try.underlying5 Try.underlying9 h54 rfl
              refine Steps.cons_ (step_mk (BytesP bs) rfl fun a W hx hE hO => ?_) ?_
              · have h52 : a.eval (.tmp 52) = (.bool false) := hE 9 (by kernel_rfl) 52 rfl
                have h0 : (BytesP bs) (a.eval (.tmp 0)) W := old_is (v := .slice A bs.length c) (hO 0 (by kernel_rfl)) (mono_at (mono_bytes _) Hbp.out ((Ext.drew _).trans hx))
                exact yes_is (j := 9) (d := 52) (b := false) rfl rfl h52 (do_move rfl h0)
              refine Steps.cons_ (step_mk (Is (.string ⟨(bs).toArray⟩)) rfl fun a W hx hE hO => ?_) ?_
              · have h52 : a.eval (.tmp 52) = (.bool false) := hE 9 (by kernel_rfl) 52 rfl
                have h56 : (BytesP bs) (a.eval (.tmp 56)) W := hE 13 (by kernel_rfl) 56 rfl
                refine yes_is (j := 9) (d := 52) (b := false) rfl rfl h52 ?_
                exact do_string rfl Try.underlying23 Try.underlying5 Try.underlying9 h56 rfl
              refine Steps.cons_ (step_mk (Is (.bool true)) rfl fun a W hx hE hO => ?_) ?_
              · have h52 : a.eval (.tmp 52) = (.bool false) := hE 9 (by kernel_rfl) 52 rfl
                have h55 : a.eval (.tmp 55) = (.string ⟨((denc L)).toArray⟩) := hE 12 (by kernel_rfl) 55 rfl
                have h57 : a.eval (.tmp 57) = (.string ⟨(bs).toArray⟩) := hE 14 (by kernel_rfl) 57 rfl
                refine yes_is (j := 9) (d := 52) (b := false) rfl rfl h52 ?_
                exact do_bin (v := .bool true) rfl h55 h57 (by simp [go_sem, HNE.out]) rfl
              refine Steps.cons_ (step_mk (Is (.bool true)) rfl fun a W hx hE hO => ?_) ?_
              · have h52 : a.eval (.tmp 52) = (.bool false) := hE 9 (by kernel_rfl) 52 rfl
                have h58 : a.eval (.tmp 58) = (.bool true) := hE 15 (by kernel_rfl) 58 rfl
                exact yes_none rfl (do_pick_no rfl h52 h58)
              exact Steps.nil_
            · intro a W hx hd hsz hE hO
              have h59 : a.eval (.tmp 59) = (.bool true) := hE 16 (of_decide_eq_true (by kernel_rfl)) 59 rfl
              have hmix := act_mix [false, false, false, false, false, false, false, false, false, false, false, false, false, false, false, false, false, false, false, false, false, false, false, false, false, false, false, false, false, false, false, false, false, false, false, false, false, false, false, false, false, false, false, true, true, true, true, true, true, true, true, true, true, true, true, true, true, true, true, true, false, false, false] (by kernel_rfl) hsz hd hO
              simp only [mixA, Nat.reduceAdd, Nat.zero_add] at hmix
              rw [hmix]
              rw [h59]
              generalize a.eval (.tmp 43) = u43
              generalize a.eval (.tmp 44) = u44
              generalize a.eval (.tmp 45) = u45
              generalize a.eval (.tmp 46) = u46
              generalize a.eval (.tmp 47) = u47
              generalize a.eval (.tmp 48) = u48
              generalize a.eval (.tmp 49) = u49
              generalize a.eval (.tmp 50) = u50
              generalize a.eval (.tmp 51) = u51
              generalize a.eval (.tmp 52) = u52
              generalize a.eval (.tmp 53) = u53
              generalize a.eval (.tmp 54) = u54
              generalize a.eval (.tmp 55) = u55
              generalize a.eval (.tmp 56) = u56
              generalize a.eval (.tmp 57) = u57
              generalize a.eval (.tmp 58) = u58
              clear hmix hd hsz hE hO
              go_wp2
              go_ret2
              exact ⟨_, _, rfl, .inr ⟨Hnot.out, rfl, rfl⟩, Below.trans Hb.out (hx.mono Hb.out.size)⟩

end Go.Proofs.Ytmgbhmmmegknjaa
