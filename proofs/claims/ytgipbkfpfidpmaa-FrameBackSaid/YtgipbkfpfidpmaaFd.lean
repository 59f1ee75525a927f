/-
  Contracts of the law's 'few' and of Join, its reference, and the reference's Same.
  Conditions: those of each statement.
-/
import Derived.Test.YtgipbkfpfidpmaaFc
import Derived.Test.YtgipbkfpfidpmaaSv
namespace Go.Proofs.Ytgipbkfpfidpmaa
open Go.RowKit

theorem info_bytes : (Try.prog.info? 22).map (fun i => (i.zero, i.size, i.bytes)) = some (some (.slice none 0 0), 1, 24) := by kernel_rfl
/-- what 'few' leaves -/
def fewl (l : List (List UInt8)) : List (List UInt8) := (l.take 8).map (·.take 200)
/-- slices, each of which reads as a list's element -/
def Each (w : World) (B : Nat) (vs : List Value) (l : List (List UInt8)) : Prop := vs.length = l.length ∧ ∀ i (_ : i < l.length), ∃ u, vs[i]? = some u ∧ BS w B u l[i]
theorem Each.nil_ (w : World) (B : Nat) : Each w B [] [] := ⟨rfl, fun i hi => by cases hi⟩
theorem Each.ext {w w' : World} {B : Nat} {vs : List Value} {l : List (List UInt8)} (h : Each w B vs l) (hB : B ≤ w.heap.size) (hx : Ext w w') : Each w' B vs l :=
  ⟨h.1, fun i hi => by obtain ⟨u, hu, hb⟩ := h.2 i hi; exact ⟨u, hu, hb.ext hB hx⟩⟩
theorem Each.below {w w' : World} {B : Nat} {vs : List Value} {l : List (List UInt8)} (h : Each w B vs l) (hx : Below B w w') : Each w' B vs l :=
  ⟨h.1, fun i hi => by obtain ⟨u, hu, hb⟩ := h.2 i hi; exact ⟨u, hu, hb.below hx⟩⟩
theorem Each.more {w : World} {B B' : Nat} {vs : List Value} {l : List (List UInt8)} (h : Each w B vs l) (hB : B ≤ B') : Each w B' vs l :=
  ⟨h.1, fun i hi => by obtain ⟨u, hu, hb⟩ := h.2 i hi; exact ⟨u, hu, hb.more hB⟩⟩
theorem Each.snoc {w : World} {B : Nat} {vs : List Value} {l : List (List UInt8)} (h : Each w B vs l) {u : Value} {bs : List UInt8} (hu : BS w B u bs) : Each w B (vs ++ [u]) (l ++ [bs]) := by
  refine ⟨by simp [h.1], fun i hi => ?_⟩
  by_cases h1 : i < l.length
  · obtain ⟨u', hu', hb⟩ := h.2 i h1
    exact ⟨u', by rw [List.getElem?_append_left (by rw [h.1]; exact h1)]; exact hu', by rw [List.getElem_append_left h1]; exact hb⟩
  · have : i = l.length := by simp at hi; omega
    subst this
    exact ⟨u, by rw [← h.1]; simp, by simpa using hu⟩
theorem Each.bbs {w : World} {base : Nat} {v : Value} {vs : List Value} {l : List (List UInt8)} (h : Each w w.heap.size vs l) (ho : w.ownsRow base 22 1 v l.length vs) : BBS w w.heap.size v l :=
  ⟨vs, SV.of_own ho, h.2⟩

set_option maxHeartbeats 1600000 in
set_option maxRecDepth 100000 in
theorem few_any (w : World) (v : Value) (l : List (List UInt8)) (hv : BBS w w.heap.size v l) :
    Calls Try.prog 18 #[v] w fun e w' => ∃ v', e = .returned v' ∧ BBS w' w'.heap.size v' (fewl l) ∧ Ext w w' := by
  have Hv := Lib.hid hv
  obtain ⟨A, c, rfl, hc, hm⟩ := hv.form
  have hm' : (l.length : Int) ≤ 9223372036854775807 := by unfold maxLen at hm; omega
  clear hv hm
  go_enter Try.func18, Try.ntmps18
  go_wp2_with fail
  go_loopw [3, 4] (fun x i wr => ∃ (k : Nat) (vs : List Value), i = .int .i64 k ∧ k ≤ l.length ∧ k ≤ 8 ∧ wr.ownsRow w.heap.size 22 1 x k vs ∧ Each wr w.heap.size vs ((l.take k).map (·.take 200)) ∧ Ext w wr) (fun _ i _ => 8 - (intOf i).toNat)
  case atStart => exact ⟨0, [], rfl, Nat.zero_le _, by decide, World.ownsRow_nil _ _ _ _, Each.nil_ _ _, Below.refl _ _⟩
  case round =>
    obtain ⟨k, vs, rfl, hk, hk8, hown, he, hx⟩ := hrel
    by_cases hlt : k < l.length
    · by_cases hlt8 : k < 8
      · obtain ⟨ad, u, rfl, had, hcell, hbs⟩ := (Hv.out.ext (Nat.le_refl _) hx).at_ hlt
        have hmap : (l.take (k + 1)).map (·.take 200) = (l.take k).map (·.take 200) ++ [l[k].take 200] := by
          rw [List.take_succ_eq_append_getElem hlt, List.map_append]; rfl
        generalize l[k] = m at hbs hmap
        have Hmap := Lib.hid hmap
        have Hown := Lib.hid hown
        have He := Lib.hid he
        have Hx := Lib.hid hx
        obtain ⟨Au, cu, rfl, hcu⟩ : ∃ Au cu, u = .slice Au m.length cu ∧ m.length ≤ cu := by
          obtain ⟨Au, cu, e1, e2, _⟩ := hbs
          exact ⟨Au, cu, e1, e2⟩
        have Hbs := Lib.hid hbs
        clear hmap hown he hx hbs
        have hlt8' : (k : Int) < 8 := by omega
        by_cases h200 : 200 < m.length
        · have h200' : (200 : Int) < (m.length : Int) := by omega
          go_wp2_with (at_builtin; refine wpList_append_sv _ rfl (.tmp 25) (.tmp 27) 36 rfl w.heap.size 22 _ 1 24 Try.underlying36 info_bytes rfl (by omega) u3 k vs rfl (ownsRow_ext Hown.out (Ext.of_alloc _ _)) (wr.heap.size + 1) (.slice (some ⟨wr.heap.size, 0, none⟩) 1 1) 1 [.slice Au 200 cu] rfl (SV.new_ wr #[.slice Au 200 cu] 22 1 1 rfl) (by intro u hu; simp only [List.mem_singleton] at hu; subst hu; rfl) (by omega) (by omega) (by have := Hx.out.size; simp; omega) ?_; intro v2 w2 hown2 hg2 _)
          have hx2 : Ext w w2 := (Hx.out.trans (Ext.of_alloc _ _)).grown hg2 (Hx.out.trans (Ext.of_alloc _ _)).size (owns_ge Hown.out)
          have hb2 : Below w.heap.size wr w2 := ((Below.refl _ _).alloc Hx.out.size _).grown hg2 (by have := Hx.out.size; simp; omega) (owns_ge Hown.out)
          have he2 : Each w2 w.heap.size (vs ++ [.slice Au 200 cu]) ((l.take (k + 1)).map (·.take 200)) := by
            rw [Hmap.out]
            exact (He.out.below hb2).snoc (((Hbs.out.take_ (k := 200) (by omega))).below hb2)
          clear hg2
          go_wp2
          exact ⟨⟨k + 1, _, rfl, by omega, by omega, hown2, he2, hx2⟩, by simp only [intOf]; omega⟩
        · skip
          go_wp2_with (at_builtin; refine wpList_append_sv _ rfl (.tmp 25) (.tmp 27) 36 rfl w.heap.size 22 _ 1 24 Try.underlying36 info_bytes rfl (by omega) u3 k vs rfl (ownsRow_ext Hown.out (Ext.of_alloc _ _)) (wr.heap.size + 1) (.slice (some ⟨wr.heap.size, 0, none⟩) 1 1) 1 [.slice Au m.length cu] rfl (SV.new_ wr #[.slice Au m.length cu] 22 1 1 rfl) (by intro u hu; simp only [List.mem_singleton] at hu; subst hu; rfl) (by omega) (by omega) (by have := Hx.out.size; simp; omega) ?_; intro v2 w2 hown2 hg2 _)
          have hx2 : Ext w w2 := (Hx.out.trans (Ext.of_alloc _ _)).grown hg2 (Hx.out.trans (Ext.of_alloc _ _)).size (owns_ge Hown.out)
          have hb2 : Below w.heap.size wr w2 := ((Below.refl _ _).alloc Hx.out.size _).grown hg2 (by have := Hx.out.size; simp; omega) (owns_ge Hown.out)
          have he2 : Each w2 w.heap.size (vs ++ [.slice Au m.length cu]) ((l.take (k + 1)).map (·.take 200)) := by
            rw [Hmap.out]
            rw [List.take_of_length_le (by omega : m.length ≤ 200)]
            exact (He.out.below hb2).snoc (Hbs.out.below hb2)
          clear hg2
          go_wp2
          exact ⟨⟨k + 1, _, rfl, by omega, by omega, hown2, he2, hx2⟩, by simp only [intOf]; omega⟩
      · have hlt8' : ¬(k : Int) < 8 := by omega
        have hk' : k = 8 := by omega
        subst hk'
        have Hown := Lib.hid hown
        have He := Lib.hid he
        have Hx := Lib.hid hx
        have hlen : (fewl l).length = 8 := by unfold fewl; simp; omega
        have Hlen := Lib.hid hlen
        clear hown he hx hlen
        go_wp2
        go_ret
        refine ⟨_, rfl, (He.out.more Hx.out.size).bbs (base := w.heap.size) (l := fewl l) ?_, Hx.out⟩
        rw [Hlen.out]
        exact Hown.out
    · have hk' : k = l.length := by omega
      have Hown := Lib.hid hown
      have He := Lib.hid he
      have Hx := Lib.hid hx
      have hf : (l.take k).map (·.take 200) = fewl l := by
        unfold fewl
        rw [hk', List.take_length, List.take_of_length_le (by omega)]
      have hlen : (fewl l).length = k := by rw [← hf]; simp; omega
      rw [hf] at He
      have Hlen := Lib.hid hlen
      clear hown he hx hlen hf
      go_wp2
      go_ret
      refine ⟨_, rfl, (He.out.more Hx.out.size).bbs (base := w.heap.size) (l := fewl l) ?_, Hx.out⟩
      rw [Hlen.out]
      exact Hown.out

/-- frames, one behind the other -/
def frs (l : List (List UInt8)) : List UInt8 := (l.map fr).flatten
theorem frs_take_succ {l : List (List UInt8)} {k : Nat} (hk : k < l.length) : frs (l.take (k + 1)) = frs (l.take k) ++ fr l[k] := by
  unfold frs
  rw [List.take_succ_eq_append_getElem hk, List.map_append, List.flatten_append]
  simp
theorem fr_len {ps : List UInt8} (h : ps.length ≤ 1000) : (fr ps).length ≤ 1100 := by
  have := enc_len10 (U64.mk (show ps.length < _ by omega))
  unfold fr
  simp [be4]
  omega
theorem frs_len : ∀ (l : List (List UInt8)), (∀ p ∈ l, p.length ≤ 1000) → (frs l).length ≤ 1100 * l.length
  | [], _ => by simp [frs]
  | p :: l, h => by
    have h1 := fr_len (h p (by simp))
    have h2 := frs_len l (fun q hq => h q (by simp [hq]))
    unfold frs at h2 ⊢
    simp only [List.map_cons, List.flatten_cons, List.length_append, List.length_cons]
    omega

set_option maxHeartbeats 1600000 in
set_option maxRecDepth 100000 in
theorem join_any (w : World) (v : Value) (l : List (List UInt8)) (hv : BBS w w.heap.size v l) (hl : ∀ p ∈ l, p.length ≤ 1000) (hn : l.length ≤ 500) :
    Calls Try.prog 17 #[v] w fun e w' => ∃ v', e = .returned (.tuple #[v', .int .i64 0]) ∧ BS w' w'.heap.size v' (frs l) ∧ Ext w w' := by
  have Hv := Lib.hid hv
  obtain ⟨A, c, rfl, hc, hm⟩ := hv.form
  have Hl := Lib.hid hl
  clear hv hm hl
  go_enter Try.func17, Try.ntmps17
  go_wp2_with fail
  go_loopw [4, 11] (fun b i wr => ∃ k : Nat, i = .int .i64 k ∧ k ≤ l.length ∧ BS wr wr.heap.size b (frs (l.take k)) ∧ Ext w wr) (fun _ i _ => l.length - (intOf i).toNat)
  case atStart => exact ⟨0, rfl, Nat.zero_le _, BS.nil_ _ _, Below.refl _ _⟩
  case round =>
    obtain ⟨k, rfl, hk, hb, hx⟩ := hrel
    have Hb := Lib.hid hb
    have Hx := Lib.hid hx
    by_cases hlt : k < l.length
    · obtain ⟨ad, u, rfl, had, hcell, hbs⟩ := (Hv.out.ext (Nat.le_refl _) hx).at_ hlt
      have hll := Hl.out l[k] (List.getElem_mem hlt)
      have hsl := frs_len (l.take k) (fun p hp => Hl.out p (List.mem_of_mem_take hp))
      rw [List.length_take] at hsl
      have Hs := Lib.hid (frs_take_succ hlt)
      generalize l[k] = m at hbs hll Hs
      have Hbs := Lib.hid (hbs.more hx.size)
      clear hb hx hbs
      go_wp2_with fail
      refine (fput_any wr _ _ (frs (l.take k)) m Hb.out Hbs.out (by omega) (by omega)).mono ?_
      rintro e w1 ⟨v1, rfl, hown, hx1⟩
      rw [← Hs.out] at hown
      have Hb1 := Lib.hid (Own.bs hown)
      have Hx1 := Lib.hid (Hx.out.trans hx1)
      clear hown hx1
      go_wp2
      exact ⟨⟨k + 1, rfl, by omega, Hb1.out, Hx1.out⟩, by simp only [intOf]; omega⟩
    · have hf : frs (l.take k) = frs l := by rw [List.take_of_length_le (by omega)]
      rw [hf] at Hb
      clear hb hx hf
      go_wp2
      go_ret2
      exact ⟨_, rfl, Hb.out, Hx.out⟩

set_option maxHeartbeats 1600000 in
set_option maxRecDepth 100000 in
theorem rjoin_any (w : World) (v : Value) (l : List (List UInt8)) (hv : BBS w w.heap.size v l) (hl : ∀ p ∈ l, p.length ≤ 1000) (hn : l.length ≤ 500) :
    Calls Try.prog 21 #[v] w fun e w' => ∃ v', e = .returned (.tuple #[v', .int .i64 0]) ∧ BS w' w'.heap.size v' (frs l) ∧ Ext w w' := by
  have Hv := Lib.hid hv
  obtain ⟨A, c, rfl, hc, hm⟩ := hv.form
  have Hl := Lib.hid hl
  clear hv hm hl
  go_enter Try.func21, Try.ntmps21
  go_wp2_with fail
  go_loopw [4, 5] (fun b i wr => ∃ k : Nat, i = .int .i64 k ∧ k ≤ l.length ∧ Own wr w.heap.size b (frs (l.take k)) ∧ Ext w wr) (fun _ i _ => l.length - (intOf i).toNat)
  case atStart => exact ⟨0, rfl, Nat.zero_le _, Own.nil_ _ _, Below.refl _ _⟩
  case round =>
    obtain ⟨k, rfl, hk, hb, hx⟩ := hrel
    have Hb := Lib.hid hb
    have Hx := Lib.hid hx
    by_cases hlt : k < l.length
    · obtain ⟨ad, u, rfl, had, hcell, hbs⟩ := (Hv.out.ext (Nat.le_refl _) hx).at_ hlt
      have hll := Hl.out l[k] (List.getElem_mem hlt)
      have hsl := frs_len (l.take k) (fun p hp => Hl.out p (List.mem_of_mem_take hp))
      rw [List.length_take] at hsl
      have Hs := Lib.hid (frs_take_succ hlt)
      generalize l[k] = m at hbs hll Hs
      have hfl := fr_len hll
      obtain ⟨Au, cu, rfl⟩ := hbs.form
      have Hbs := Lib.hid (hbs.more hx.size)
      clear hb hx hbs
      go_wp2_with fail
      refine (rbytes_any wr _ m Hbs.out (by omega)).mono ?_
      rintro e w1 ⟨v1, rfl, hown, hx1⟩
      have Ho1 := Lib.hid (Own.bs hown)
      have Hb1 := Lib.hid (Own.ext Hb.out hx1)
      have Hx1 := Lib.hid (Hx.out.trans hx1)
      clear hown hx1
      go_wp2_with (at_builtin; refine wpList_append_bytes _ rfl (.tmp 18) (.tmp 23) rfl w.heap.size u4 (frs (l.take k)) rfl Hb1.out w1.heap.size v1 (fr m) rfl Ho1.out (by omega) Hx1.out.size ?_; intro v2 w2 hown2 hg2 _)
      have hx2 : Ext w w2 := Hx1.out.grown hg2 Hx1.out.size (own_ge Hb1.out)
      rw [← Hs.out] at hown2
      clear hg2
      go_wp2
      exact ⟨⟨k + 1, rfl, by omega, hown2, hx2⟩, by simp only [intOf]; omega⟩
    · have hf : frs (l.take k) = frs l := by rw [List.take_of_length_le (by omega)]
      rw [hf] at Hb
      clear hb hx hf
      go_wp2
      go_ret2
      exact ⟨_, rfl, Own.bs Hb.out, Hx.out⟩

end Go.Proofs.Ytgipbkfpfidpmaa
