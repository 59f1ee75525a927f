/-
  Contracts of event.put, Put and the reference's Bytes.
  Conditions: events that may be; at most 900,000 bytes ahead.
-/
import Derived.Test.YtbnjhpknagkiaaaEc
import Derived.Test.YtbnjhpknagkiaaaGr
import Derived.Deep.RegionHeld3
import Derived.Deep.DrawnRows
import Derived.Deep.AppendLies
namespace Go.Proofs.Ytbnjhpknagkiaaa
open Go.RowKit Go.Op

section
variable (w : World) {ops : Array Oper} {o : Oper} {a : Act}
theorem step_append_bytes {K : Act → World → Prop} {Q : Exit → Act → World → Prop} {E : Prop} (hgd : o.guard = none) (s x : Operand)
    (ho : o.op = .call { callee := .builtin .append, args := #[s, x], argTypes := #[25, 25] })
    (base : Nat) (v : Value) (xs : List UInt8) (hs : a.eval s = v) (hown : Own w base v xs)
    (B : Nat) (u : Value) (ys : List UInt8) (hx : a.eval x = u) (hr : BS w B u ys)
    (hlen : xs.length + ys.length ≤ 100000000) (hbase : base ≤ w.heap.size)
    (h : ∀ v' w', Own w' base v' (xs ++ ys) → w.grownBy w' v.ownBlock → (v'.ownBlock = v.ownBlock ∨ v'.ownBlock = some w.heap.size) → K (a.put o.dst v') w') :
    if Region.wanted o (yielded ops a.tmps) = true then Oper.wp Try.prog o a w K Q else E := by
  have hw : Region.wanted o (yielded ops a.tmps) = true := by simp [Region.wanted, hgd]
  rw [if_pos hw]
  obtain ⟨i0, hi0, hz0, hz1, hz2⟩ := info_parts info_u8
  obtain ⟨A, c, rfl, _, _, _, hr⟩ := hr
  obtain ⟨v', w', hrun, h2, h3, h4⟩ := run_append_rd (P := Try.prog) w base 25 o.type _ i0 _ 1 1 Try.underlying25 hi0 hz0 hz1 hz2 rfl (by omega) v _ _ hown B A _ c _ hr (bv_one ys) (by simp only [maxLen]; omega) (by omega) hbase
  unfold Oper.wp execOp
  simp only [ho, resolve, invoke, builtin, Sem.run_bind, Sem.run_pure, Result.andThen_ok, List.map_toArray, List.map_cons, List.map_nil, hs, hx, hrun]
  refine h v' w' ?_ h3 h4
  unfold Own
  rw [bv_append, List.length_append]
  exact h2
end

theorem fsby_take {l : List Fld} (h : ∀ f ∈ l, fldE f = 0) (k : Nat) : (fsby (l.take k)).length ≤ 4150 * l.length := by
  have := fsby_len (l := l.take k) fun f hf => h f (List.mem_of_mem_take hf)
  rw [List.length_take] at this
  have h2 : min k l.length ≤ l.length := Nat.min_le_right _ _
  have h3 : 4150 * min k l.length ≤ 4150 * l.length := Nat.mul_le_mul_left _ h2
  omega
theorem fsby_next {l : List Fld} {k : Nat} (hk : k < l.length) : fsby (l.take (k + 1)) = fsby (l.take k) ++ fby l[k] := by rw [take_nextE l hk, fsby_snoc]

set_option maxHeartbeats 4000000 in
set_option maxRecDepth 100000 in
theorem evput_any (w : World) (B : Nat) (vb : Value) (bs : List UInt8) (at_ : Int) (v : Value) (l : List Fld) (hb : BS w B vb bs) (hB : B ≤ w.heap.size) (hv : SL w (Bw w) v l) (hl : bs.length ≤ 800000) (hok : evE (at_, l) = 0) (hi : I64 at_) :
    Calls Try.prog 41 #[vb, .agg #[.int .i64 at_, v]] w fun e w' => ∃ v', e = .returned v' ∧ Own w' w.heap.size v' (bs ++ evby (at_, l)) ∧ Ext w w' := by
  obtain ⟨A, c, rfl, hc, hm⟩ := hv.form
  obtain ⟨hl16, hfl⟩ := evE_spec hok
  dsimp only at hl16 hfl
  have hf := fldsE_spec hfl
  have Hv := Lib.hid hv
  have Hf := Lib.hid hf
  have hx0 : Ext w (w.alloc (.cells #[.int .i64 at_, .slice A l.length c] 40)) := Ext.of_alloc _ _
  have Hx0 := Lib.hid hx0
  have Hb0 := Lib.hid (BS.ext hb hB hx0)
  have hS : ∀ W, Ext (w.alloc (.cells #[.int .i64 at_, .slice A l.length c] 40)) W → W.cell? ⟨w.heap.size, 0, none⟩ = some (.int .i64 at_) ∧ W.cell? ⟨w.heap.size, 1, none⟩ = some (.slice A l.length c) := fun W h =>
    ⟨Ext.keeps h (cell_new w #[.int .i64 at_, .slice A l.length c] 40 0 (v := .int .i64 at_) rfl), Ext.keeps h (cell_new w #[.int .i64 at_, .slice A l.length c] 40 1 (v := .slice A l.length c) rfl)⟩
  have HS := Lib.hid hS
  have e1 := enc_len10 (zig_64 hi)
  have hU : U64 l.length := U64.mk (by omega)
  have e2 := enc_len10 hU
  have s1 : (bs ++ enc (zig at_)).length ≤ 1000000 := by rw [List.length_append]; omega
  have s0 : bs.length ≤ 1000000 := by omega
  have hBa : B ≤ (w.alloc (.cells #[.int .i64 at_, .slice A l.length c] 40)).drew.heap.size := by simp; omega
  have hl16i : (l.length : Int) ≤ 16 := by omega
  have hwr : IntKind.u64.wrap (l.length : Int) = (l.length : Int) := by rw [IntKind.wrap_u64]; omega
  clear hv hf hx0 hS hfl hok hb
  go_enter Try.func41, Try.ntmps41
  go_wp2_with fail
  go_region_held3 (fun W => W.cell? ⟨w.heap.size, 0, none⟩ = some (.int .i64 at_) ∧ W.cell? ⟨w.heap.size, 1, none⟩ = some (.slice A l.length c))
    (first
      | exact HS.out _ x3
      | exact HS.out _ x2
      | exact HS.out _ (Ext.drew _)
      | fail)
    (first
      | (go_at_call 40
         refine (put_any w2 w2.heap.size v2 _ l.length (Own.bs ho2) (Nat.le_refl _) s1 hU).mono ?_
         rintro e w3 ⟨v3, rfl, ho3, hx3⟩
         have x3 := Ext.trans x2 hx3)
      | (go_at_call 64
         refine (putint_any _ B _ bs at_ (BS.ext Hb0.out (Nat.le_trans hB Hx0.out.size) (Ext.drew _)) hBa s0 hi).mono ?_
         rintro e w2 ⟨v2, rfl, ho2, hx2⟩
         have x2 := Ext.trans (Ext.drew _) hx2)
      | fail)
  have ho3' := Own.base ho3 (show w.heap.size ≤ w2.heap.size from Nat.le_trans Hx0.out.size x2.size)
  have hc3 := (HS.out _ x3).2
  have Ho3 := Lib.hid ho3'
  have Hx3 := Lib.hid (Ext.trans Hx0.out x3)
  have hP : (bs ++ enc (zig at_) ++ enc l.length).length ≤ 800020 := by rw [List.length_append, List.length_append]; omega
  generalize hPP : bs ++ enc (zig at_) ++ enc l.length = PP at Ho3 hP
  have HPP := Lib.hid hPP
  clear ho2 hx2 x2 ho3 hx3 x3 ho3' hPP
  go_wp2_with fail
  go_loopw [0, 19] (fun b i wr => ∃ k : Nat, i = .int .i64 k ∧ k ≤ l.length ∧ Own wr w.heap.size b (PP ++ fsby (l.take k)) ∧ Ext w wr) (fun _ i _ => l.length - (intOf i).toNat)
  case atStart => exact ⟨0, rfl, Nat.zero_le _, by simpa [fsby] using Ho3.out, Hx3.out⟩
  case round =>
    obtain ⟨k, rfl, hk, ho, hx⟩ := hrel
    have Ho := Lib.hid ho
    have Hx := Lib.hid hx
    have hlen := fsby_take Hf.out k
    by_cases hlt : k < l.length
    · have hklt : (k : Int) < l.length := by omega
      obtain ⟨ad, rfl, _, d0, d1, _⟩ := (Hv.out.up hx).fld_at hlt
      have hfk := fldE_spec (Hf.out l[k] (List.getElem_mem hlt))
      have hnx := fsby_next hlt
      generalize l[k] = N at d0 d1 hfk hnx
      obtain ⟨⟨n⟩, ⟨t⟩⟩ := N
      dsimp only at d0 d1 hfk
      obtain ⟨_, hn32, ht4⟩ := hfk
      have hby : fby (⟨n⟩, ⟨t⟩) = enc n.length ++ n ++ (enc t.length ++ t) := rfl
      rw [hby] at hnx
      generalize fsby (l.take k) = FB at Ho hlen hnx
      have Hnx := Lib.hid hnx
      have en := enc_len10 (n := n.length) (U64.mk (by omega))
      have et := enc_len10 (n := t.length) (U64.mk (by omega))
      have zn : (ByteArray.mk n.toArray).size = n.length := by show n.toArray.size = _; simp
      have zt : (ByteArray.mk t.toArray).size = t.length := by show t.toArray.size = _; simp
      have Zn := Lib.hid zn
      have Zt := Lib.hid zt
      have s2 : (PP ++ FB).length ≤ 1000000 := by rw [List.length_append]; omega
      have s3 : (PP ++ FB ++ enc n.length ++ n).length ≤ 1000000 := by simp only [List.length_append]; omega
      have s4 : (ByteArray.mk n.toArray).size ≤ 1000000 := by rw [zn]; omega
      have s5 : (ByteArray.mk t.toArray).size ≤ 1000000 := by rw [zt]; omega
      have hS : ∀ W, Ext (wr.alloc (.cells #[.string ⟨n.toArray⟩, .string ⟨t.toArray⟩] 59)) W → W.cell? ⟨wr.heap.size, 0, none⟩ = some (.string ⟨n.toArray⟩) ∧ W.cell? ⟨wr.heap.size, 1, none⟩ = some (.string ⟨t.toArray⟩) := fun W h =>
        ⟨Ext.keeps h (cell_new wr #[.string ⟨n.toArray⟩, .string ⟨t.toArray⟩] 59 0 (v := .string ⟨n.toArray⟩) rfl), Ext.keeps h (cell_new wr #[.string ⟨n.toArray⟩, .string ⟨t.toArray⟩] 59 1 (v := .string ⟨t.toArray⟩) rfl)⟩
      have HoA := Lib.hid (Own.ext Ho.out (Ext.trans (Ext.of_alloc wr (.cells #[.string ⟨n.toArray⟩, .string ⟨t.toArray⟩] 59)) (Ext.drew _)))
      have HS2 := Lib.hid hS
      clear hx ho hnx zn zt hS hby
      go_wp2_with fail
      go_region_held3 (fun W => W.cell? ⟨wr.heap.size, 0, none⟩ = some (.string ⟨n.toArray⟩) ∧ W.cell? ⟨wr.heap.size, 1, none⟩ = some (.string ⟨t.toArray⟩))
        (first
          | exact HS2.out _ x5
          | exact HS2.out _ x4
          | exact HS2.out _ (Ext.drew _)
          | fail)
        (first
          | (go_at_call 65
             refine (puttext_any w4 w4.heap.size v4 _ ⟨t.toArray⟩ (Own.bs ho4) (Nat.le_refl _) s3 s5).mono ?_
             rintro e w5 ⟨v5, rfl, ho5, hx5⟩
             rw [Zt.out, sl_mk] at ho5
             have x5 := Ext.trans x4 hx5)
          | (go_at_call 65
             refine (puttext_any (wr.alloc (.cells #[.string ⟨n.toArray⟩, .string ⟨t.toArray⟩] 59)).drew _ _ _ ⟨n.toArray⟩ (Own.bs HoA.out) (Nat.le_refl _) s2 s4).mono ?_
             rintro e w4 ⟨v4, rfl, ho4, hx4⟩
             rw [Zn.out, sl_mk] at ho4
             have x4 := Ext.trans (Ext.drew _) hx4)
          | fail)
      have hxa := Ext.trans Hx.out (Ext.trans (Ext.of_alloc wr (.cells #[.string ⟨n.toArray⟩, .string ⟨t.toArray⟩] 59)) x4)
      have Ho5 := Lib.hid (Own.base ho5 hxa.size)
      have Hx5 := Lib.hid (Ext.trans hxa hx5)
      clear ho4 hx4 x4 ho5 hx5 x5 hxa
      go_wp2_with fail
      go_roundw
      case rel => exact ⟨k + 1, rfl, by omega, by rw [Hnx.out]; simpa only [List.append_assoc] using Ho5.out, Hx5.out⟩
      case measure => simp only [intOf]; omega
    · have hklt : ¬(k : Int) < l.length := by omega
      rw [List.take_of_length_le (by omega)] at Ho
      clear hx ho
      go_wp2
      go_ret
      refine ⟨_, rfl, ?_, Hx.out⟩
      have e : PP ++ fsby l = bs ++ evby (at_, l) := by rw [← HPP.out]; simp only [evby, List.append_assoc]
      rw [← e]
      exact Ho.out

set_option maxHeartbeats 800000 in
theorem evPut_any (w : World) (B : Nat) (vb : Value) (bs : List UInt8) (at_ : Int) (v : Value) (l : List Fld) (hb : BS w B vb bs) (hB : B ≤ w.heap.size) (hv : SL w (Bw w) v l) (hl : bs.length ≤ 800000) (hok : evE (at_, l) = 0) (hi : I64 at_) :
    Calls Try.prog 18 #[vb, .agg #[.int .i64 at_, v]] w fun e w' => ∃ v', e = .returned (.tuple #[v', .int .i64 0]) ∧ Own w' w.heap.size v' (bs ++ evby (at_, l)) ∧ Ext w w' := by
  obtain ⟨A, c, rfl, hc, hm⟩ := hv.form
  have Hv := Lib.hid hv
  have Hb := Lib.hid hb
  have hx0 : Ext w (w.alloc (.cells #[.int .i64 at_, .slice A l.length c] 40)) := Ext.of_alloc _ _
  have q0 := cell_new w #[.int .i64 at_, .slice A l.length c] 40 0 (v := .int .i64 at_) rfl
  have q1 := cell_new w #[.int .i64 at_, .slice A l.length c] 40 1 (v := .slice A l.length c) rfl
  have Q0 := Lib.hid q0
  have Q1 := Lib.hid q1
  have Hx0 := Lib.hid hx0
  clear hv hb hx0 q0 q1
  go_enter Try.func18, Try.ntmps18
  go_wp2_with fail
  refine (check_any _ at_ _ l (Hv.out.up Hx0.out)).mono ?_
  rintro e w1 ⟨rfl, hx1⟩
  rw [hok]
  have q0 := Ext.keeps hx1 Q0.out
  have q1 := Ext.keeps hx1 Q1.out
  have Hx1 := Lib.hid (Ext.trans Hx0.out hx1)
  clear hx1
  go_wp2_with fail
  refine (evput_any w1 B _ bs at_ _ l (BS.ext Hb.out hB Hx1.out) (Nat.le_trans hB Hx1.out.size) (Hv.out.up Hx1.out) hl hok hi).mono ?_
  rintro e w2 ⟨v2, rfl, ho, hx2⟩
  have Ho := Lib.hid ho
  have Hx2 := Lib.hid hx2
  clear ho hx2 q0 q1
  go_wp2
  go_ret2
  exact ⟨v2, rfl, Own.base Ho.out Hx1.out.size, Ext.trans Hx1.out Hx2.out⟩

set_option maxHeartbeats 4000000 in
set_option maxRecDepth 100000 in
theorem revby_any (w : World) (at_ : Int) (v : Value) (l : List Fld) (hv : SL w (Bw w) v l) (hok : evE (at_, l) = 0) (hi : I64 at_) :
    Calls Try.prog 38 #[.agg #[.int .i64 at_, v]] w fun e w' => ∃ v', e = .returned v' ∧ Own w' w.heap.size v' (evby (at_, l)) ∧ Ext w w' := by
  obtain ⟨A, c, rfl, hc, hm⟩ := hv.form
  obtain ⟨hl16, hfl⟩ := evE_spec hok
  dsimp only at hl16 hfl
  have hf := fldsE_spec hfl
  have Hv := Lib.hid hv
  have Hf := Lib.hid hf
  have hx0 : Ext w (w.alloc (.cells #[.int .i64 at_, .slice A l.length c] 40)) := Ext.of_alloc _ _
  have Hx0 := Lib.hid hx0
  have hS : ∀ W, Ext (w.alloc (.cells #[.int .i64 at_, .slice A l.length c] 40)) W → W.cell? ⟨w.heap.size, 0, none⟩ = some (.int .i64 at_) ∧ W.cell? ⟨w.heap.size, 1, none⟩ = some (.slice A l.length c) := fun W h =>
    ⟨Ext.keeps h (cell_new w #[.int .i64 at_, .slice A l.length c] 40 0 (v := .int .i64 at_) rfl), Ext.keeps h (cell_new w #[.int .i64 at_, .slice A l.length c] 40 1 (v := .slice A l.length c) rfl)⟩
  have HS := Lib.hid hS
  have e1 := enc_len10 (zig_64 hi)
  have hU : U64 l.length := U64.mk (by omega)
  have e2 := enc_len10 hU
  have s1 : (enc (zig at_)).length + (enc l.length).length ≤ 100000000 := by omega
  have hl16i : (l.length : Int) ≤ 16 := by omega
  have hwr : IntKind.u64.wrap (l.length : Int) = (l.length : Int) := by rw [IntKind.wrap_u64]; omega
  clear hv hf hx0 hS hfl hok
  go_enter Try.func38, Try.ntmps38
  go_wp2_with fail
  go_region_held3 (fun W => W.cell? ⟨w.heap.size, 0, none⟩ = some (.int .i64 at_) ∧ W.cell? ⟨w.heap.size, 1, none⟩ = some (.slice A l.length c))
    (first
      | exact hc4
      | exact HS.out _ x3
      | exact HS.out _ x2
      | exact HS.out _ (Ext.drew _)
      | fail)
    (first
      | (refine step_append_bytes _ (by rfl) (.tmp 7) (.tmp 12) (by rfl) (w.heap.size + 1) v2 _ (by rfl) (Own.base (Own.ext ho2 hx3) (by simp)) _ v3 _ (by rfl) (Own.bs ho3) s1 (by have := x3.size; simpa using this) ?_
         intro v4 w4 ho4 hg4 hat4
         have x4 := (GrowO.append hg4 hat4).ext x3 (by simp) (own_ge (Own.base (Own.ext ho2 hx3) (show w.heap.size + 1 ≤ _ by simp)))
         have hc4 := HS.out _ x4)
      | (go_at_call 42
         refine (bytes_any l.length l.length w2 (Nat.le_refl _) hU).mono ?_
         rintro e w3 ⟨v3, rfl, ho3, hx3⟩
         have x3 := Ext.trans x2 hx3)
      | (go_at_call 59
         refine (rint_any _ at_ hi).mono ?_
         rintro e w2 ⟨v2, rfl, ho2, hx2⟩
         have x2 := Ext.trans (Ext.drew _) hx2)
      | fail)
  have Ho4 := Lib.hid ho4
  have Hx4 := Lib.hid x4
  have hP : (enc (zig at_) ++ enc l.length).length ≤ 20 := by rw [List.length_append]; omega
  generalize hPP : enc (zig at_) ++ enc l.length = PP at Ho4 hP
  have HPP := Lib.hid hPP
  clear ho2 hx2 x2 ho3 hx3 x3 ho4 hg4 hat4 x4 hc4 hPP
  go_wp2_with fail
  go_loopw [3, 4] (fun b i wr => ∃ k : Nat, i = .int .i64 k ∧ k ≤ l.length ∧ Own wr (w.heap.size + 1) b (PP ++ fsby (l.take k)) ∧ Ext (w.alloc (.cells #[.int .i64 at_, .slice A l.length c] 40)) wr) (fun _ i _ => l.length - (intOf i).toNat)
  case atStart => exact ⟨0, rfl, Nat.zero_le _, by simpa [fsby] using Ho4.out, Hx4.out⟩
  case round =>
    obtain ⟨k, rfl, hk, ho, hx⟩ := hrel
    have Ho := Lib.hid ho
    have Hx := Lib.hid hx
    have hlen := fsby_take Hf.out k
    have hcb := (HS.out _ hx).2
    by_cases hlt : k < l.length
    · have hklt : (k : Int) < l.length := by omega
      obtain ⟨ad, rfl, _, d0w, d1, _⟩ := Hv.out.fld_at hlt
      have hfk := fldE_spec (Hf.out l[k] (List.getElem_mem hlt))
      have hnx := fsby_next hlt
      generalize l[k] = N at d0w d1 hfk hnx
      obtain ⟨⟨n⟩, ⟨t⟩⟩ := N
      dsimp only at d0w d1 hfk
      have d0 := Ext.keeps (Ext.trans Hx0.out hx) d0w
      obtain ⟨_, hn32, ht4⟩ := hfk
      have hby : fby (⟨n⟩, ⟨t⟩) = enc n.length ++ n ++ (enc t.length ++ t) := rfl
      rw [hby] at hnx
      generalize fsby (l.take k) = FB at Ho hlen hnx
      have Hnx := Lib.hid hnx
      have en := enc_len10 (n := n.length) (U64.mk (by omega))
      have et := enc_len10 (n := t.length) (U64.mk (by omega))
      have zn : (ByteArray.mk n.toArray).size = n.length := by show n.toArray.size = _; simp
      have zt : (ByteArray.mk t.toArray).size = t.length := by show t.toArray.size = _; simp
      have Zn := Lib.hid zn
      have Zt := Lib.hid zt
      have s2 : (PP ++ FB).length + (enc n.length ++ n).length ≤ 100000000 := by simp only [List.length_append]; omega
      have s3 : (PP ++ FB ++ (enc n.length ++ n)).length + (enc t.length ++ t).length ≤ 100000000 := by simp only [List.length_append]; omega
      have D1 := Lib.hid d1
      have s4 : (ByteArray.mk n.toArray).size ≤ 1000000 := by rw [zn]; omega
      have s5 : (ByteArray.mk t.toArray).size ≤ 1000000 := by rw [zt]; omega
      clear hx ho hnx zn zt hby d1 d0w
      go_wp2_with fail
      refine (rtext_any wr ⟨n.toArray⟩ s4).mono ?_
      rintro e w5 ⟨v5, rfl, ho5, hx5⟩
      rw [Zn.out, sl_mk] at ho5
      have Ho5 := Lib.hid ho5
      have Hx5 := Lib.hid (Ext.trans Hx.out hx5)
      have Hor := Lib.hid (Own.ext Ho.out hx5)
      have hsz5 := Hx5.out.size
      rw [World.size_alloc] at hsz5
      clear ho5 hx5 d0 hcb
      go_wp2_with (at_builtin; refine wpList_append_bytes _ rfl (.tmp 21) (.tmp 28) rfl (w.heap.size + 1) _ _ rfl Hor.out _ v5 _ rfl (Own.bs Ho5.out) s2 hsz5 ?_; intro v6 w6 ho6 hg6 hat6; have hx6 := (GrowO.append hg6 hat6).ext Hx5.out (by simp) (own_ge Hor.out); have hcb := (HS.out _ hx6).2; have d1 : w6.cell? ⟨(ad.add (k * 2)).block, (ad.add (k * 2)).off + 1, none⟩ = some (.string ⟨t.toArray⟩) := Ext.keeps (Ext.trans Hx0.out hx6) D1.out; have Ho6 := Lib.hid ho6; have Hx6 := Lib.hid hx6; clear ho6 hg6 hat6 hx6)
      refine (rtext_any w6 ⟨t.toArray⟩ s5).mono ?_
      rintro e w7 ⟨v7, rfl, ho7, hx7⟩
      rw [Zt.out, sl_mk] at ho7
      have Ho7 := Lib.hid ho7
      have Hx7 := Lib.hid (Ext.trans Hx6.out hx7)
      have Hor6 := Lib.hid (Own.ext Ho6.out hx7)
      have hsz7 := Hx7.out.size
      rw [World.size_alloc] at hsz7
      clear ho7 hx7 d1 hcb
      go_wp2_with (at_builtin; refine wpList_append_bytes _ rfl (.tmp 30) (.tmp 37) rfl (w.heap.size + 1) _ _ rfl Hor6.out _ v7 _ rfl (Own.bs Ho7.out) s3 hsz7 ?_; intro v8 w8 ho8 hg8 hat8; have hx8 := (GrowO.append hg8 hat8).ext Hx7.out (by simp) (own_ge Hor6.out); have Ho8 := Lib.hid ho8; have Hx8 := Lib.hid hx8; clear ho8 hg8 hat8 hx8)
      go_roundw
      case rel => exact ⟨k + 1, rfl, by omega, by rw [Hnx.out]; simpa only [List.append_assoc] using Ho8.out, Hx8.out⟩
      case measure => simp only [intOf]; omega
    · have hklt : ¬(k : Int) < l.length := by omega
      rw [List.take_of_length_le (by omega)] at Ho
      clear hx ho
      go_wp2
      go_ret
      refine ⟨_, rfl, ?_, Ext.trans Hx0.out Hx.out⟩
      have e : PP ++ fsby l = evby (at_, l) := by rw [← HPP.out]; simp only [evby, List.append_assoc]
      rw [← e]
      exact Own.base Ho.out (by omega)

end Go.Proofs.Ytbnjhpknagkiaaa
