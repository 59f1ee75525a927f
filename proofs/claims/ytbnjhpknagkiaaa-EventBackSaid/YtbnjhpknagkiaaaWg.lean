/-
  Batches' bytes; contracts of event.Encode, the reference's Encode, the law's light.
  Conditions: light events.
-/
import Derived.Test.YtbnjhpknagkiaaaWa
import Derived.Test.YtbnjhpknagkiaaaWe
import Derived.Deep.RegionHeld3
import Derived.Deep.DrawnRows
namespace Go.Proofs.Ytbnjhpknagkiaaa
open Go.RowKit Go.Op

/-- events' bytes -/
def bby : List Ev → List UInt8
  | [] => []
  | e :: l => evby e ++ bby l
def benc (b : Bat) : List UInt8 := enc b.1.toNat ++ (enc b.2.length ++ bby b.2)
theorem bby_append : ∀ (l m : List Ev), bby (l ++ m) = bby l ++ bby m
  | [], _ => rfl
  | a :: l, m => by simp only [List.cons_append, bby, bby_append l m, List.append_assoc]
theorem bby_next {l : List Ev} {k : Nat} (hk : k < l.length) : bby (l.take (k + 1)) = bby (l.take k) ++ evby l[k] := by
  rw [take_nextE l hk, bby_append]; simp [bby]
/-- events that are light -/
def Lgt (e : Ev) : Prop := fszs (e.2.take 20) < 1000
theorem fsby_sz : ∀ {l : List Fld}, (∀ f ∈ l, fldE f = 0) → (fsby l).length ≤ fszs l + 20 * l.length
  | [], _ => by simp [fsby]
  | f :: l, h => by
    have h1 := fsby_sz (l := l) fun g hg => h g (by simp [hg])
    obtain ⟨_, h2, h3⟩ := fldE_spec (h f (by simp))
    have e1 := enc_len10 (n := f.1.b.length) (U64.mk (by omega))
    have e2 := enc_len10 (n := f.2.b.length) (U64.mk (by omega))
    simp only [fsby, fby, tby, fszs, List.length_append, List.length_cons]
    omega
theorem evby_lgt {e : Ev} (h : evE e = 0) (hi : I64 e.1) (hl : Lgt e) : (evby e).length ≤ 1340 := by
  obtain ⟨h1, h2⟩ := evE_spec h
  have h3 := fsby_sz (fldsE_spec h2)
  unfold Lgt at hl
  rw [List.take_of_length_le (by omega)] at hl
  have e1 := enc_len10 (zig_64 hi)
  have e2 := enc_len10 (n := e.2.length) (U64.mk (by omega))
  simp only [evby, List.length_append]
  omega
/-- events that can be put -/
def EvOk (e : Ev) : Prop := evE e = 0 ∧ I64 e.1 ∧ Lgt e
theorem bby_len : ∀ {l : List Ev}, (∀ e ∈ l, EvOk e) → (bby l).length ≤ 1340 * l.length
  | [], _ => by simp [bby]
  | e :: l, h => by
    have h1 := bby_len (l := l) fun g hg => h g (by simp [hg])
    obtain ⟨h2, h3, h4⟩ := h e (by simp)
    have := evby_lgt h2 h3 h4
    simp only [bby, List.length_append, List.length_cons]
    omega
theorem bby_take {l : List Ev} (h : ∀ e ∈ l, EvOk e) (k : Nat) : (bby (l.take k)).length ≤ 1340 * l.length := by
  have := bby_len (l := l.take k) fun f hf => h f (List.mem_of_mem_take hf)
  rw [List.length_take] at this
  have h2 : min k l.length ≤ l.length := Nat.min_le_right _ _
  have h3 : 1340 * min k l.length ≤ 1340 * l.length := Nat.mul_le_mul_left _ h2
  omega

set_option maxHeartbeats 800000 in
theorem bencode_bad (w : World) (s : Int) (v : Value) (l : List Ev) (hv : SL w (Bw w) v l) (hs : I6 s) (hok : batE (s, l) ≠ 0) :
    Calls Try.prog 13 #[.agg #[.int .i64 s, v]] w fun e w' => e = .returned (.tuple #[.slice none 0 0, .int .i64 (batE (s, l) : Nat)]) ∧ Ext w w' := by
  obtain ⟨A, c, rfl, hc, hm⟩ := hv.form
  have Hx0 := Lib.hid (Ext.of_alloc w (.cells #[.int .i64 s, .slice A l.length c] 24))
  have Hv := Lib.hid (hv.up Hx0.out)
  clear hv
  go_enter Try.func13, Try.ntmps13
  go_wp2_with fail
  refine (cbatch_any _ s _ l Hv.out hs).mono ?_
  rintro e w1 ⟨rfl, hx1⟩
  have hE' : ((batE (s, l) : Int) != 0) = true := by rw [bne_iff_ne]; omega
  generalize hG : batE (s, l) = E at hE'
  have HG := Lib.hid hG
  have Hx1 := Lib.hid (Ext.trans Hx0.out hx1)
  clear hx1 hok hG
  go_wp2
  go_ret2
  exact ⟨by rw [HG.out]; rfl, Hx1.out⟩
set_option maxHeartbeats 800000 in
theorem rbencode_bad (w : World) (s : Int) (v : Value) (l : List Ev) (hv : SL w (Bw w) v l) (hs : I6 s) (hok : batE (s, l) ≠ 0) :
    Calls Try.prog 14 #[.agg #[.int .i64 s, v]] w fun e w' => e = .returned (.tuple #[.slice none 0 0, .int .i64 (batE (s, l) : Nat)]) ∧ Ext w w' := by
  obtain ⟨A, c, rfl, hc, hm⟩ := hv.form
  have Hx0 := Lib.hid (Ext.of_alloc w (.cells #[.int .i64 s, .slice A l.length c] 24))
  have Hv := Lib.hid (hv.up Hx0.out)
  clear hv
  go_enter Try.func14, Try.ntmps14
  go_wp2_with fail
  refine (rcbatch_any _ s _ l Hv.out hs).mono ?_
  rintro e w1 ⟨rfl, hx1⟩
  have hE' : ((batE (s, l) : Int) != 0) = true := by rw [bne_iff_ne]; omega
  generalize hG : batE (s, l) = E at hE'
  have HG := Lib.hid hG
  have Hx1 := Lib.hid (Ext.trans Hx0.out hx1)
  clear hx1 hok hG
  go_wp2
  go_ret2
  exact ⟨by rw [HG.out]; rfl, Hx1.out⟩

set_option maxHeartbeats 4000000 in
set_option maxRecDepth 100000 in
theorem bencode_ok (w : World) (s : Int) (v : Value) (l : List Ev) (hv : SL w (Bw w) v l) (hs : I6 s) (hok : batE (s, l) = 0) (hl : ∀ e ∈ l, EvOk e) :
    Calls Try.prog 13 #[.agg #[.int .i64 s, v]] w fun e w' => ∃ u, e = .returned (.tuple #[u, .int .i64 0]) ∧ Own w' w.heap.size u (benc (s, l)) ∧ Ext w w' := by
  obtain ⟨A, c, rfl, hc, hm⟩ := hv.form
  have hx0 : Ext w (w.alloc (.cells #[.int .i64 s, .slice A l.length c] 24)) := Ext.of_alloc _ _
  have Hx0 := Lib.hid hx0
  have hS : ∀ W, Ext (w.alloc (.cells #[.int .i64 s, .slice A l.length c] 24)) W → W.cell? ⟨w.heap.size, 0, none⟩ = some (.int .i64 s) ∧ W.cell? ⟨w.heap.size, 1, none⟩ = some (.slice A l.length c) := fun W h =>
    ⟨Ext.keeps h (cell_new w #[.int .i64 s, .slice A l.length c] 24 0 (v := .int .i64 s) rfl), Ext.keeps h (cell_new w #[.int .i64 s, .slice A l.length c] 24 1 (v := .slice A l.length c) rfl)⟩
  have HS := Lib.hid hS
  have Hv := Lib.hid (hv.up hx0)
  have Hl := Lib.hid hl
  obtain ⟨_, hl64, _, hs1, hs2⟩ := batE_spec hok
  dsimp only at hl64 hs1 hs2
  obtain ⟨q, rfl⟩ : ∃ q : Nat, s = (q : Int) := ⟨s.toNat, by omega⟩
  have hq64 : U64 q := U64.mk (by omega)
  have hU : U64 l.length := U64.mk (by omega)
  have e1 := enc_len10 hq64
  have e2 := enc_len10 hU
  have hl64i : (l.length : Int) ≤ 64 := by omega
  have hwq : IntKind.u64.wrap (q : Int) = (q : Int) := by rw [IntKind.wrap_u64]; omega
  have hwr : IntKind.u64.wrap (l.length : Int) = (l.length : Int) := by rw [IntKind.wrap_u64]; omega
  have Hok := Lib.hid hok
  clear hx0 hS hl hv hok
  go_enter Try.func13, Try.ntmps13
  go_wp2_with fail
  refine (cbatch_any _ _ _ l Hv.out hs).mono ?_
  rintro e w1 ⟨rfl, hx1⟩
  rw [Hok.out]
  have Hx1 := Lib.hid hx1
  have HN := Lib.hid (BS.nil_ w1.drew w1.heap.size)
  clear hx1
  go_wp2_with fail
  go_region_held3 (fun W => W.cell? ⟨w.heap.size, 0, none⟩ = some (.int .i64 (q : Int)) ∧ W.cell? ⟨w.heap.size, 1, none⟩ = some (.slice A l.length c))
    (first
      | exact HS.out _ (Ext.trans Hx1.out x3)
      | exact HS.out _ (Ext.trans Hx1.out x2)
      | exact HS.out _ (Ext.trans Hx1.out (Ext.drew _))
      | fail)
    (first
      | (go_at_call 40
         refine (put_any w2 w2.heap.size v2 _ l.length (Own.bs ho2) (Nat.le_refl _) s1 hU).mono ?_
         rintro e w3 ⟨v3, rfl, ho3, hx3⟩
         have x3 := Ext.trans x2 hx3)
      | (go_at_call 40
         refine (put_any w1.drew w1.heap.size _ [] q HN.out (Nat.le_refl _) (by simp) hq64).mono ?_
         rintro e w2 ⟨v2, rfl, ho2, hx2⟩
         have x2 := Ext.trans (Ext.drew w1) hx2
         have s1 : ([] ++ enc q).length ≤ 1000000 := (by simp only [List.nil_append]; omega))
      | fail)
  have ho3' := Own.base ho3 (show w.heap.size ≤ w2.heap.size from Nat.le_trans (Ext.trans Hx0.out Hx1.out).size x2.size)
  obtain ⟨b0, b1⟩ := HS.out _ (Ext.trans Hx1.out x3)
  have Ho3 := Lib.hid ho3'
  have Hx3 := Lib.hid (Ext.trans Hx1.out x3)
  have hP : ([] ++ enc q ++ enc l.length).length ≤ 20 := by rw [List.length_append, List.nil_append]; omega
  generalize hPP : [] ++ enc q ++ enc l.length = PP at Ho3 hP
  have HPP := Lib.hid hPP
  clear ho2 hx2 x2 ho3 hx3 x3 ho3' hPP s1
  go_wp2_with fail
  go_loopw [5, 25] (fun b i wr => ∃ k : Nat, i = .int .i64 k ∧ k ≤ l.length ∧ Own wr w.heap.size b (PP ++ bby (l.take k)) ∧ Ext (w.alloc (.cells #[.int .i64 (q : Int), .slice A l.length c] 24)) wr) (fun _ i _ => l.length - (intOf i).toNat)
  case atStart => exact ⟨0, rfl, Nat.zero_le _, by simpa [bby] using Ho3.out, Hx3.out⟩
  case round =>
    obtain ⟨k, rfl, hk, ho, hx⟩ := hrel
    have Ho := Lib.hid ho
    have Hx := Lib.hid hx
    have hlen := bby_take Hl.out k
    by_cases hlt : k < l.length
    · have hklt : (k : Int) < l.length := by omega
      obtain ⟨ad, u, rfl, _, d0, d1, hu, h6⟩ := (Hv.out.up hx).ev_at hlt
      obtain ⟨hee, hei, hel⟩ := Hl.out l[k] (List.getElem_mem hlt)
      have hnx := bby_next hlt
      have hebl := evby_lgt hee hei hel
      generalize l[k] = N at d0 d1 hu h6 hee hei hnx hebl hel
      obtain ⟨a, fs⟩ := N
      dsimp only at d0 d1 hu h6 hei
      obtain ⟨Au, cu, rfl, _⟩ := hu.form
      have hxa := Ext.of_alloc wr (.cells #[.int .i64 a, .slice Au fs.length cu] 40)
      have Hu := Lib.hid (hu.up hxa)
      have Hxa := Lib.hid hxa
      have HoA := Lib.hid (Own.bs (Own.ext Ho.out hxa))
      have hs2 : (PP ++ bby (l.take k)).length ≤ 800000 := by rw [List.length_append]; omega
      generalize bby (l.take k) = FB at HoA hnx hs2
      have Hnx := Lib.hid hnx
      have Hee := Lib.hid hee
      have Hei := Lib.hid hei
      clear hu h6 hee hei hel hnx hxa ho hx
      go_wp2_with fail
      refine (evput_any _ _ _ (PP ++ FB) a _ fs HoA.out (Nat.le_refl _) Hu.out hs2 Hee.out Hei.out).mono ?_
      rintro e w5 ⟨v5, rfl, ho5, hx5⟩
      have Hx5 := Lib.hid (Ext.trans Hx.out (Ext.trans Hxa.out hx5))
      have Ho5 := Lib.hid (Own.base ho5 (Nat.le_trans Hx0.out.size (Ext.trans Hx.out Hxa.out).size))
      clear ho5 hx5 d0 d1
      go_wp2
      exact ⟨⟨k + 1, rfl, by omega, by rw [Hnx.out, ← List.append_assoc]; exact Ho5.out, Hx5.out⟩, by simp only [intOf]; omega⟩
    · have hklt : ¬(k : Int) < l.length := by omega
      rw [List.take_of_length_le (by omega)] at Ho
      clear hx ho
      go_wp2
      go_ret2
      refine ⟨_, rfl, ?_, Ext.trans Hx0.out Hx.out⟩
      have e : PP ++ bby l = benc ((q : Int), l) := by rw [← HPP.out]; simp only [benc, List.nil_append, List.append_assoc, Int.toNat_natCast]
      rw [← e]
      exact Ho.out
end Go.Proofs.Ytbnjhpknagkiaaa
