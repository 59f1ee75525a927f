/-
  Contracts of the law's few, cut, awake; of both Encode, of Open, in one form each.
  Conditions: those of each statement.
-/
import Derived.Test.YtmgbhmmmegknjaaDw
import Derived.Test.YtmgbhmmmegknjaaDx
import Derived.Test.YtmgbhmmmegknjaaVq
namespace Go.Proofs.Ytmgbhmmmegknjaa
open Go.RowKit Go.Op

theorem cut_any (w : World) (v : Value) (bs : List UInt8) (hv : SL w (Bw w) v bs) :
    Calls Try.prog 8 #[v] w fun e w' => ∃ u, e = .returned u ∧ SL w' (Bw w') u (bs.take 4000) ∧ Ext w w' := by
  obtain ⟨A, c, rfl, hc, hm⟩ := hv.form
  have hcm : (c : Int) ≤ 9223372036854775807 := by unfold maxLen at hm; omega
  have Hv := Lib.hid hv
  clear hv
  go_enter Try.func8, Try.ntmps8
  by_cases h : 4000 < bs.length
  · have h' : min (bs.length : Int) 4000 = 4000 := by omega
    have hc' : (4000 : Int) ≤ (c : Int) := by omega
    have hl' : (4000 : Int) ≤ (bs.length : Int) := by omega
    go_wp2
    go_ret
    exact ⟨_, rfl, Hv.out.take_ (by omega), Below.refl _ _⟩
  · have h' : min (bs.length : Int) 4000 = bs.length := by omega
    have hc' : (bs.length : Int) ≤ (c : Int) := by omega
    go_wp2
    go_ret
    exact ⟨_, rfl, by rw [List.take_of_length_le (by omega)]; exact Hv.out, Below.refl _ _⟩
theorem few_any (w : World) (v : Value) (l : List Ent) (hv : SL w (Bw w) v l) :
    Calls Try.prog 7 #[v] w fun e w' => ∃ u, e = .returned u ∧ SL w' (Bw w') u (l.take 80) ∧ Ext w w' := by
  obtain ⟨A, c, rfl, hc, hm⟩ := hv.form
  have hcm : (c : Int) ≤ 9223372036854775807 := by unfold maxLen at hm; omega
  have Hv := Lib.hid hv
  clear hv
  go_enter Try.func7, Try.ntmps7
  by_cases h : 80 < l.length
  · have h' : min (l.length : Int) 80 = 80 := by omega
    have hc' : (80 : Int) ≤ (c : Int) := by omega
    have hl' : (80 : Int) ≤ (l.length : Int) := by omega
    go_wp2
    go_ret
    exact ⟨_, rfl, Hv.out.take_ (by omega), Below.refl _ _⟩
  · have h' : min (l.length : Int) 80 = l.length := by omega
    have hc' : (l.length : Int) ≤ (c : Int) := by omega
    go_wp2
    go_ret
    exact ⟨_, rfl, by rw [List.take_of_length_le (by omega)]; exact Hv.out, Below.refl _ _⟩

def encE (l : List Ent) : List UInt8 := if esOk l = true then denc l else []
def errE (l : List Ent) : Nat := if esOk l = true then 0 else 110
theorem encode_any (w : World) (v : Value) (l : List Ent) (hv : SL w (Bw w) v l) (hl : l.length ≤ 5000) :
    Calls Try.prog 9 #[v] w fun e w' => ∃ u, e = .returned (.tuple #[u, .int .i64 (errE l)]) ∧ Own w' w.heap.size u (encE l) ∧ Ext w w' := by
  unfold encE errE
  cases h : esOk l with
  | true =>
    refine (encode_ok w v l hv h hl).mono ?_
    rintro e w1 ⟨u, rfl, ho, hx⟩
    exact ⟨u, rfl, by rw [if_pos rfl]; exact ho, hx⟩
  | false =>
    refine (encode_bad w v l hv (by omega) h).mono ?_
    rintro e w1 ⟨rfl, hx⟩
    exact ⟨_, rfl, by rw [if_neg (by decide)]; exact Own.nil_ _ _, hx⟩
theorem rencode_any (w : World) (v : Value) (l : List Ent) (hv : SL w (Bw w) v l) (hl : l.length ≤ 5000) :
    Calls Try.prog 10 #[v] w fun e w' => ∃ u, e = .returned (.tuple #[u, .int .i64 (errE l)]) ∧ Own w' w.heap.size u (encE l) ∧ Ext w w' := by
  unfold encE errE
  cases h : esOk l with
  | true =>
    refine (rencode_ok w v l hv h hl).mono ?_
    rintro e w1 ⟨u, rfl, ho, hx⟩
    exact ⟨u, rfl, by rw [if_pos rfl]; exact ho, hx⟩
  | false =>
    refine (rencode_bad w v l hv h).mono ?_
    rintro e w1 ⟨rfl, hx⟩
    exact ⟨_, rfl, by rw [if_neg (by decide)]; exact Own.nil_ _ _, hx⟩
theorem OpenIs.of {n0 : Nat} {W : World} {bs : List UInt8} {d : Value} {E : Int} {l : List Ent} (h : OpenIs n0 W bs d E) (hok : esOk l = true) (he : denc l = bs) : E = 0 ∧ DAny W d l true ∧ (∃ D, d = .pointer (some ⟨D, 0, none⟩)) ∧ DictN n0 W d l := by
  rcases h with ⟨m, h1, h2, h3, h4, h5⟩ | ⟨h1, _⟩
  · obtain rfl := denc_inj hok h1 (he.trans h2.symm)
    obtain ⟨D, v, rfl, _⟩ := id h5
    exact ⟨h4, .inl ⟨rfl, h1, h3, h5.at_⟩, ⟨D, rfl⟩, h5⟩
  · exact absurd he (h1 l hok)

/-- a literal -/
theorem SL.newL {α : Type} [Rep α] (w : World) (cs : Array Value) (t : TypeId) {l : List α} {S : Nat → Prop} (n : Nat) (hn : l.length = n) (hm : n ≤ maxLen) (h : Reps w S cs.toList l) (hS : ∀ k, S k → k < w.heap.size) : SL (w.alloc (.cells cs t)) (Bw (w.alloc (.cells cs t))) (.slice (some ⟨w.heap.size, 0, none⟩) n n) l := by
  subst hn
  have hl := h.len
  refine ⟨_, l.length, cs.toList, rfl, Nat.le_refl _, hm, fun h => (by cases h), ⟨hl, fun _ => ⟨_, rfl, by simp, fun j u hu => ?_⟩⟩, ((h.keep (Sm.of_ext (Ext.of_alloc w _) hS)).more fun k hk => by have := hS k hk; simp; omega)⟩
  have hadd : (⟨w.heap.size, 0, none⟩ : Addr).add j = ⟨w.heap.size, j, none⟩ := by unfold Addr.add; split <;> simp_all
  rw [hadd]
  exact cell_new w cs t j (by simpa using hu)
theorem BS.up' {w w' : World} {v : Value} {bs : List UInt8} (h : BS w w.heap.size v bs) (hx : Ext w w') : BS w' w'.heap.size v bs := (BS.ext h (Nat.le_refl _) hx).more hx.size
/-- the page's example -/
def pgE : Ent := (⟨[97, 98]⟩, 1, 2, 3)
theorem pg_ok : esOk [pgE] = true := by decide
theorem pg_enc : denc [pgE] = [1, 7, 0, 2, 97, 98, 1, 2, 3] := by rfl
theorem pg_get : getE [pgE] [97, 98] = (pgE, true) := by rfl
theorem pg_flr : flr [pgE] [98] = 1 := by rfl
theorem one_no {m : List Ent} (hm : esOk m = true) : denc m ≠ [1] := by
  intro h
  obtain ⟨h1, h2, _⟩ := Mt.start [1] m hm h
  have e : rdN 262144 ([1], false) = (1, ([], false)) := by rfl
  rw [e] at h1 h2
  simp only at h1
  injection h2 with h2 _
  rw [rst_zero, ← h1, dblk_next 0 (by omega)] at h2
  have h3 := congrArg List.length h2
  simp only [List.length_append, List.length_nil] at h3
  have := enc_pos (esby [] (m.take 16)).length
  omega

set_option maxHeartbeats 3200000 in
set_option maxRecDepth 100000 in
theorem awake_any (w : World) : Calls Try.prog 15 #[] w fun e w' => e = .returned (.bool true) ∧ Ext w w' := by
  have hx0 : Ext w ((w.alloc (.cells #[.string ⟨#[97, 98]⟩, .int .i64 1, .int .i64 2, .int .i64 3] 42)).alloc (.cells #[.string ⟨#[97, 98]⟩, .int .i64 1, .int .i64 2, .int .i64 3] 42)) := Ext.al (Ext.of_alloc _ _) _
  have hB : EBox ((w.alloc (.cells #[.string ⟨#[97, 98]⟩, .int .i64 1, .int .i64 2, .int .i64 3] 42)).alloc (.cells #[.string ⟨#[97, 98]⟩, .int .i64 1, .int .i64 2, .int .i64 3] 42)) w.heap.size pgE := EBox.keep (T := fun _ => False) (W := w.alloc (.cells #[.string ⟨#[97, 98]⟩, .int .i64 1, .int .i64 2, .int .i64 3] 42)) (heap_alloc_new w _) ((Ext.of_alloc _ _).kept _) (fun h => h)
  have hsl : SL ((w.alloc (.cells #[.string ⟨#[97, 98]⟩, .int .i64 1, .int .i64 2, .int .i64 3] 42)).alloc (.cells #[.string ⟨#[97, 98]⟩, .int .i64 1, .int .i64 2, .int .i64 3] 42)) (Bw ((w.alloc (.cells #[.string ⟨#[97, 98]⟩, .int .i64 1, .int .i64 2, .int .i64 3] 42)).alloc (.cells #[.string ⟨#[97, 98]⟩, .int .i64 1, .int .i64 2, .int .i64 3] 42))) (.slice (some ⟨w.heap.size + 1, 0, none⟩) 1 1) [pgE] := by
    have := SL.newL (w.alloc (.cells #[.string ⟨#[97, 98]⟩, .int .i64 1, .int .i64 2, .int .i64 3] 42)) #[.string ⟨#[97, 98]⟩, .int .i64 1, .int .i64 2, .int .i64 3] 42 (l := [pgE]) (S := fun _ => False) 1 rfl (by simp [maxLen]) (Reps.single (rep_ent (by simp [maxLen]) (I6.mk (by decide)) (I6.mk (by decide)) (I6.mk (by decide)))) (fun _ h => h.elim)
    rw [World.size_alloc] at this
    exact this
  have Hx0 := Lib.hid hx0
  have HB := Lib.hid hB
  have Hsl := Lib.hid hsl
  clear hx0 hB hsl
  go_enter Try.func15, Try.ntmps15
  go_wp2_with fail
  refine (encode_ok _ _ [pgE] Hsl.out pg_ok (by decide)).mono ?_
  rintro e w1 ⟨u, rfl, ho, hx1⟩
  rw [pg_enc] at ho
  have Hu := Lib.hid (Own.bs ho)
  have HB1 := Lib.hid (HB.out.keep (hx1.kept (fun _ => False)) (fun h => h))
  have Hx1 := Lib.hid (Ext.trans Hx0.out hx1)
  clear ho hx1
  go_wp2_with fail
  refine (open_any w1 u _ Hu.out (by decide)).mono ?_
  rintro e w2 ⟨d, E, rfl, hop, hx2⟩
  obtain ⟨rfl, hd, ⟨D, rfl⟩, _⟩ := hop.of pg_ok pg_enc
  have Hd := Lib.hid hd
  have c1 : (convert 23 9 u).run Try.prog w2 = .ok (.string ⟨#[1, 7, 0, 2, 97, 98, 1, 2, 3]⟩) w2 := str_of_bs (BS.up' Hu.out hx2) _ rfl
  have HB2 := Lib.hid (HB1.out.keep (hx2.kept (fun _ => False)) (fun h => h))
  have Hx2 := Lib.hid (Ext.trans Hx1.out hx2)
  clear hd hop hx2
  go_wp2_with fail
  refine (dget_any w2 _ [pgE] true [97, 98] Hd.out).mono ?_
  rintro e w3 ⟨rfl, hx3⟩
  rw [pg_get]
  have HB3 := Lib.hid (HB2.out.keep (hx3.kept (fun _ => False)) (fun h => h))
  have Hd3 := Lib.hid (Hd.out.ext hx3)
  have Hx3 := Lib.hid (Ext.trans Hx2.out hx3)
  simp only [entV, pgE]
  have hx4 : Ext w3 ((w3.alloc (.cells #[.string ⟨#[97, 98]⟩, .int .i64 1, .int .i64 2, .int .i64 3] 42)).alloc (.cells #[.int .u8 1] 5)) := Ext.al (Ext.of_alloc _ _) _
  have hB6 : EBox ((w3.alloc (.cells #[.string ⟨#[97, 98]⟩, .int .i64 1, .int .i64 2, .int .i64 3] 42)).alloc (.cells #[.int .u8 1] 5)) w3.heap.size pgE := EBox.keep (T := fun _ => False) (W := w3.alloc (.cells #[.string ⟨#[97, 98]⟩, .int .i64 1, .int .i64 2, .int .i64 3] 42)) (heap_alloc_new w3 _) ((Ext.of_alloc _ _).kept _) (fun h => h)
  have hb1 := BS.one (w3.alloc (.cells #[.string ⟨#[97, 98]⟩, .int .i64 1, .int .i64 2, .int .i64 3] 42)) 1 1 rfl
  rw [World.size_alloc] at hb1
  have Hb1 := Lib.hid hb1
  have HB6 := Lib.hid hB6
  have Hx4 := Lib.hid hx4
  clear hx3 c1 hx4 hB6 hb1
  go_wp2_with fail
  refine (open_any _ _ [1] (by simpa using Hb1.out) (by decide)).mono ?_
  rintro e w5 ⟨d2, E2, rfl, hop, hx5⟩
  obtain ⟨m, hm1, hm2, _⟩ | ⟨_, rfl, rfl⟩ := hop
  · exact absurd hm2 (one_no hm1)
  have HX5 := Lib.hid (Ext.trans Hx4.out hx5)
  have hB65 := HB6.out.keep (hx5.kept (fun _ => False)) (fun h => h)
  have hB15 := HB3.out.keep (HX5.out.kept (fun _ => False)) (fun h => h)
  obtain ⟨a0, a1, a2, a3, _⟩ := hB65.cell
  obtain ⟨b0, b1, b2, b3, _⟩ := hB15.cell
  dsimp only [pgE] at a0 a1 a2 a3 b0 b1 b2 b3
  have hq : ∀ W, (binOp .eql 42 (.agg #[.string ⟨#[97, 98]⟩, .int .i64 1, .int .i64 2, .int .i64 3]) (.agg #[.string ⟨#[97, 98]⟩, .int .i64 1, .int .i64 2, .int .i64 3])).run Try.prog W = .ok (.bool true) W := fun W => eql_ent W [97, 98] [97, 98] 1 2 3 1 2 3
  have hgd := guard_ent
  have Hd5 := Lib.hid (Hd3.out.ext HX5.out)
  clear hx5 hB65 hB15
  go_wp2_with fail
  refine (len_any w5 _ [pgE] true Hd5.out).mono ?_
  rintro e w6 ⟨rfl, hx6⟩
  have hlen : [pgE].length = 1 := rfl
  rw [hlen]
  have Hd6 := Lib.hid (Hd5.out.ext hx6)
  have Hx6 := Lib.hid (Ext.trans (Ext.trans Hx3.out HX5.out) hx6)
  clear hx6 hlen a0 a1 a2 a3 b0 b1 b2 b3 hq hgd
  go_wp2_with fail
  refine (floor_any w6 _ [pgE] true [98] Hd6.out).mono ?_
  rintro e w7 ⟨k, rfl, hk, hx7⟩
  have hk1 := hk.flr
  rw [pg_flr] at hk1
  subst hk1
  have Hx7 := Lib.hid (Ext.trans Hx6.out hx7)
  clear hk hx7
  go_wp2
  go_ret
  exact ⟨rfl, Hx7.out⟩

end Go.Proofs.Ytmgbhmmmegknjaa
