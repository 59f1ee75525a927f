/-
  Contracts of frame.Put, and of the reference's Bytes and Put.
  Conditions: rows of bytes of at most 1,000,000.
-/
import Derived.Test.YtgipbkfpfidpmaaFa
import Derived.Test.YtgipbkfpfidpmaaCs
import Derived.Test.YtgipbkfpfidpmaaVb
import Derived.Test.YtgipbkfpfidpmaaVe
import Derived.Test.YtgipbkfpfidpmaaStep
namespace Go.Proofs.Ytgipbkfpfidpmaa
open Go.RowKit

/-- a sum's four bytes -/
def be4 (s : Nat) : List UInt8 := [UInt8.ofNat (s / 16777216), UInt8.ofNat (s / 65536), UInt8.ofNat (s / 256), UInt8.ofNat s]
/-- a payload's frame -/
def fr (ps : List UInt8) : List UInt8 := enc ps.length ++ (be4 (cnext 0 (enc ps.length ++ ps)) ++ ps)

/-- two slices as one of slices -/
theorem two_ (w : World) (a b : Value) (xs ys : List UInt8) (ha : BS w w.heap.size a xs) (hb : BS w w.heap.size b ys) :
    BBS (w.alloc (.cells #[a, b] 22)) (w.heap.size + 1) (.slice (some ⟨w.heap.size, 0, none⟩) 2 2) [xs, ys] :=
  BBS.lit w w.heap.size #[a, b] _ [xs, ys] 2 rfl rfl (Nat.le_refl _) (by simp [maxLen]) (by
    intro i hi
    match i, hi with
    | 0, _ => exact ⟨_, rfl, ha⟩
    | 1, _ => exact ⟨_, rfl, hb⟩)
/-- four slices as one of slices -/
theorem four_ (w : World) (a b c d : Value) (xs ys zs us : List UInt8) (ha : BS w w.heap.size a xs) (hb : BS w w.heap.size b ys) (hc : BS w w.heap.size c zs) (hd : BS w w.heap.size d us) :
    BBS (w.alloc (.cells #[a, b, c, d] 22)) (w.heap.size + 1) (.slice (some ⟨w.heap.size, 0, none⟩) 4 4) [xs, ys, zs, us] :=
  BBS.lit w w.heap.size #[a, b, c, d] _ [xs, ys, zs, us] 4 rfl rfl (Nat.le_refl _) (by simp [maxLen]) (by
    intro i hi
    match i, hi with
    | 0, _ => exact ⟨_, rfl, ha⟩
    | 1, _ => exact ⟨_, rfl, hb⟩
    | 2, _ => exact ⟨_, rfl, hc⟩
    | 3, _ => exact ⟨_, rfl, hd⟩)

/-- the four bytes as cells, as Put reckons them -/
abbrev be4v (S : Nat) : Array Value := #[.int .u8 ((S : Int) / 16777216), .int .u8 ((S : Int) / 65536 % 256), .int .u8 ((S : Int) / 256 % 256), .int .u8 ((S : Int) % 256)]
theorem be4_bv {S : Nat} (h : U32 S) : (be4v S).toList = bv (be4 S) := by
  have h' := h.lt
  simp only [bv, be4, List.map_cons, List.map_nil, UInt8.toNat_ofNat']
  congr 2
  omega
theorem be4_lit (w : World) (S : Nat) (h : U32 S) : BS (w.alloc (.cells (be4v S) 5)) (w.heap.size + 1) (.slice (some ⟨w.heap.size, 0, none⟩) 4 4) (be4 S) :=
  BS.lit w _ _ (be4_bv h) 4 rfl
theorem BS.up {w w' : World} {v : Value} {bs : List UInt8} (h : BS w w.heap.size v bs) (hx : Ext w w') : BS w' w'.heap.size v bs := (h.ext (Nat.le_refl _) hx).more hx.size

set_option maxHeartbeats 1600000 in
set_option maxRecDepth 100000 in
theorem fput_any (w : World) (va vb : Value) (bs ps : List UInt8) (ha : BS w w.heap.size va bs) (hb : BS w w.heap.size vb ps) (hl : bs.length ≤ 1000000) (hl2 : ps.length ≤ 1000000) :
    Calls Try.prog 10 #[va, vb] w fun e w' => ∃ v', e = .returned (.tuple #[v', .int .i64 0]) ∧ Own w' w.heap.size v' (bs ++ fr ps) ∧ Ext w w' := by
  obtain ⟨Aa, ca, rfl⟩ := ha.form
  obtain ⟨Ab, cb, rfl⟩ := hb.form
  have Ha := Lib.hid ha
  have Hb := Lib.hid hb
  clear ha hb
  have hu : U64 ps.length := by unfold U64; omega
  go_enter Try.func10, Try.ntmps10
  go_wp2_with fail
  refine (put_any w w.heap.size (.slice none 0 0) [] ps.length (BS.nil_ _ _) (Nat.le_refl _) (by simp) hu).mono ?_
  rintro e w1 ⟨vh, rfl, hh, hx1⟩
  rw [List.nil_append] at hh
  obtain ⟨Ah, ch, rfl⟩ := (Own.bs hh).form
  have he := enc_len10 hu
  have Hh := Lib.hid (Own.bs hh)
  have Hx1 := Lib.hid hx1
  have hfr : fr ps = enc ps.length ++ (be4 (cnext 0 (enc ps.length ++ ps)) ++ ps) := rfl
  have hsm : csumTo 0 [enc ps.length, ps] = cnext 0 (enc ps.length ++ ps) := by rw [cnext_append]; rfl
  have h32 : U32 (cnext 0 (enc ps.length ++ ps)) := cnext_32 _ _
  generalize enc ps.length = H at hh he Hh hfr hsm h32
  generalize hS : cnext 0 (H ++ ps) = S at hfr hsm h32
  have Hfr := Lib.hid hfr
  have h32' := h32.lt
  clear hh hx1 hfr hS hu
  go_wp2_with fail
  refine (sum_any (w1.alloc (.cells #[.slice Ah H.length ch, .slice Ab ps.length cb] 22)) (.slice (some ⟨w1.heap.size, 0, none⟩) 2 2) [H, ps] (by simpa using two_ w1 _ _ H ps Hh.out ((Hb.out.ext (Nat.le_refl _) Hx1.out).more Hx1.out.size)) (by
    intro b hb
    simp only [List.mem_cons, List.not_mem_nil, or_false] at hb
    rcases hb with rfl | rfl <;> omega) (by simp)).mono ?_
  rintro e w2 ⟨rfl, hx2⟩
  rw [hsm]
  have hx2 := (Ext.of_alloc w1 _).trans hx2
  have Hx2 := Lib.hid hx2
  clear hx2 hsm
  go_wp2_with fail
  have h12 : Ext w w2 := Ext.trans Hx1.out Hx2.out
  have hq := four_ (w2.alloc (.cells (be4v S) 5)) (.slice Aa bs.length ca) (.slice Ah H.length ch) (.slice (some ⟨w2.heap.size, 0, none⟩) 4 4) (.slice Ab ps.length cb) bs H (be4 S) ps
    (((Ha.out.ext (Nat.le_refl _) h12).more h12.size).up (Ext.of_alloc _ _))
    ((Hh.out.up Hx2.out).up (Ext.of_alloc _ _))
    (by simpa using be4_lit w2 S h32)
    (((Hb.out.ext (Nat.le_refl _) h12).more h12.size).up (Ext.of_alloc _ _))
  have hfl : [bs, H, be4 S, ps].flatten = bs ++ fr ps := by rw [Hfr.out]; simp
  have hc := concat_any ((w2.alloc (.cells (be4v S) 5)).alloc (.cells #[.slice Aa bs.length ca, .slice Ah H.length ch, .slice (some ⟨w2.heap.size, 0, none⟩) 4 4, .slice Ab ps.length cb] 22)) _ _ (by simpa using hq) (by simp) (by unfold flen; rw [hfl, Hfr.out]; simp [be4]; omega)
  rw [hfl] at hc
  have hx3 : Ext w2 ((w2.alloc (.cells (be4v S) 5)).alloc (.cells #[.slice Aa bs.length ca, .slice Ah H.length ch, .slice (some ⟨w2.heap.size, 0, none⟩) 4 4, .slice Ab ps.length cb] 22)) := (Ext.of_alloc _ _).trans (Ext.of_alloc _ _)
  have hx4 := h12.trans hx3
  simp only [World.size_alloc] at hc
  refine hc.mono ?_
  rintro e w3 ⟨v3, rfl, hown3, hx5⟩
  have hown4 : Own w3 w.heap.size v3 (bs ++ fr ps) := Own.base hown3 (by have := h12.size; omega)
  have hx6 := hx4.trans hx5
  clear hc hx3 hx4 hq hown3 hx5
  go_wp2
  go_ret2
  exact ⟨_, rfl, hown4, hx6⟩

set_option maxHeartbeats 400000 in
theorem fput_long (w : World) (va vb : Value) (A : Option Addr) (n c : Nat) (hv : vb = .slice A n c) (hn : 16777216 < n) :
    Calls Try.prog 10 #[va, vb] w fun e w' => e = .returned (.tuple #[.slice none 0 0, .int .i64 2]) ∧ w = w' := by
  subst hv
  have h1 : (16777216 : Int) < (n : Int) := by omega
  go_enter Try.func10, Try.ntmps10
  go_wp2
  go_ret2
  exact ⟨rfl, rfl⟩

set_option maxHeartbeats 1600000 in
set_option maxRecDepth 100000 in
theorem rbytes_any (w : World) (vb : Value) (ps : List UInt8) (hb : BS w w.heap.size vb ps) (hl2 : ps.length ≤ 1000000) :
    Calls Try.prog 26 #[vb] w fun e w' => ∃ v', e = .returned v' ∧ Own w' w.heap.size v' (fr ps) ∧ Ext w w' := by
  obtain ⟨Ab, cb, rfl⟩ := hb.form
  have Hb := Lib.hid hb
  clear hb
  have hu : U64 ps.length := by unfold U64; omega
  go_enter Try.func26, Try.ntmps26
  go_wp2_with fail
  refine (bytes_any ps.length ps.length w (Nat.le_refl _) hu).mono ?_
  rintro e w1 ⟨vh, rfl, hh, hx1⟩
  have he := enc_len10 hu
  have Hx1 := Lib.hid hx1
  have hfr : fr ps = enc ps.length ++ (be4 (cnext 0 (enc ps.length ++ ps)) ++ ps) := rfl
  have h32 : U32 (cnext 0 (enc ps.length ++ ps)) := cnext_32 _ _
  generalize enc ps.length = H at hh he hfr h32
  have Hh := Lib.hid hh
  have Hfr := Lib.hid hfr
  have h32' := h32.lt
  have H32 := Lib.hid h32
  clear hh hx1 hfr hu h32
  go_wp2_with (at_builtin; first
    | (refine wpList_append_bytes _ rfl (.tmp 9) (.tmp 10) rfl w1.heap.size (.slice (some ⟨w1.heap.size, 0, none⟩) 0 0) [] rfl (own_empty _ _) w1.heap.size vh H rfl ((Own.bs Hh.out).ext (Nat.le_refl _) (Ext.of_alloc _ _)) (by simp; omega) (by simp) ?_; intro v2 w2 hown2 hg2 hat2; have hx2 : Ext w1 w2 := ((Below.refl _ _).alloc (Nat.le_refl _) _).grown hg2 (by simp) (by simp [Value.ownBlock]); rw [List.nil_append] at hown2)
    | (refine wpList_append_bytes _ rfl (.tmp 11) (.tmp 12) rfl w1.heap.size _ H rfl hown2 w.heap.size (.slice Ab ps.length cb) ps rfl (Hb.out.ext (Nat.le_refl _) (Ext.trans Hx1.out hx2)) (by omega) hx2.size ?_; intro v3 w3 hown3 hg3 hat3; have hx3 : Ext w1 w3 := hx2.grown hg3 hx2.size (own_ge hown2)))
  refine (of_any w3 v3 (H ++ ps) (Own.bs hown3) (by rw [List.length_append]; omega)).mono ?_
  rintro e w' ⟨rfl, rfl⟩
  generalize cnext 0 (H ++ ps) = S at Hfr h32' H32
  have Hx3 := Lib.hid (Ext.trans Hx1.out hx3)
  have Hh3 := Lib.hid (Own.ext Hh.out hx3)
  clear hown3 hown2 hg2 hg3 hat2 hat3 hx2 hx3
  go_wp2_with (at_builtin; first
    | (refine wpList_append_bytes _ rfl (.tmp 15) (.tmp 27) rfl w.heap.size vh H rfl (Own.ext Hh3.out (Ext.of_alloc _ _)) (w3.heap.size + 1) (.slice (some ⟨w3.heap.size, 0, none⟩) 4 4) (be4 S) rfl (be4_lit w3 S H32.out) (by simp [be4]; omega) (by have := Hx3.out.size; simp; omega) ?_; intro v4 w4 hown4 hg4 _; have hx4 : Ext w w4 := (Hx3.out.trans (Ext.of_alloc _ _)).grown hg4 (Hx3.out.trans (Ext.of_alloc _ _)).size (own_ge Hh3.out))
    | (refine wpList_append_bytes _ rfl (.tmp 29) (.tmp 30) rfl w.heap.size _ (H ++ be4 S) rfl hown4 w.heap.size (.slice Ab ps.length cb) ps rfl (Hb.out.ext (Nat.le_refl _) hx4) (by simp [be4]; omega) hx4.size ?_; intro v5 w5 hown5 hg5 _; have hx5 : Ext w w5 := hx4.grown hg5 hx4.size (own_ge hown4)))
  go_ret
  refine ⟨_, rfl, ?_, hx5⟩
  rw [Hfr.out, ← List.append_assoc]
  exact hown5

set_option maxHeartbeats 1600000 in
set_option maxRecDepth 100000 in
theorem rfput_any (w : World) (va vb : Value) (bs ps : List UInt8) (ha : BS w w.heap.size va bs) (hb : BS w w.heap.size vb ps) (hl : bs.length ≤ 1000000) (hl2 : ps.length ≤ 1000000) :
    Calls Try.prog 11 #[va, vb] w fun e w' => ∃ v', e = .returned (.tuple #[v', .int .i64 0]) ∧ Own w' w.heap.size v' (bs ++ fr ps) ∧ Ext w w' := by
  obtain ⟨Aa, ca, rfl⟩ := ha.form
  obtain ⟨Ab, cb, rfl⟩ := hb.form
  have Ha := Lib.hid ha
  have Hb := Lib.hid hb
  clear ha hb
  have hu : U64 ps.length := by unfold U64; omega
  have hfl : (fr ps).length ≤ 1000100 := by
    have := enc_len10 hu
    unfold fr
    simp [be4]
    omega
  clear hu
  go_enter Try.func11, Try.ntmps11
  go_wp2_with (at_builtin; refine wpList_append_bytes _ rfl (.tmp 9) (.tmp 10) rfl w.heap.size (.slice (some ⟨w.heap.size, 0, none⟩) 0 0) [] rfl (own_empty _ _) w.heap.size (.slice Aa bs.length ca) bs rfl (Ha.out.ext (Nat.le_refl _) (Ext.of_alloc _ _)) (by simp; omega) (by simp) ?_; intro v2 w2 hown2 hg2 _; have hx2 : Ext w w2 := ((Below.refl _ _).alloc (Nat.le_refl _) _).grown hg2 (by simp) (by simp [Value.ownBlock]); rw [List.nil_append] at hown2)
  refine (rbytes_any w2 _ ps ((Hb.out.ext (Nat.le_refl _) hx2).more hx2.size) hl2).mono ?_
  rintro e w3 ⟨v3, rfl, hown3, hx3⟩
  have Hown2 := Lib.hid (Own.ext hown2 hx3)
  have Hx3 := Lib.hid (Ext.trans hx2 hx3)
  have Hown3 := Lib.hid hown3
  clear hown2 hown3 hx2 hx3 hg2
  go_wp2_with (at_builtin; refine wpList_append_bytes _ rfl (.tmp 11) (.tmp 13) rfl w.heap.size v2 bs rfl Hown2.out w3.heap.size v3 (fr ps) rfl (Own.bs Hown3.out) (by omega) Hx3.out.size ?_; intro v4 w4 hown4 hg4 _; have hx4 : Ext w w4 := Hx3.out.grown hg4 Hx3.out.size (own_ge Hown2.out))
  go_ret2
  exact ⟨_, rfl, hown4, hx4⟩

set_option maxHeartbeats 400000 in
set_option maxRecDepth 100000 in
theorem fsize_any (w : World) (n : Int) (hn : -9223372036854775808 ≤ n ∧ n ≤ 9223372036854775807) :
    Calls Try.prog 14 #[.int .i64 n] w fun e w' => e = .returned (.int .i64 (if n < 0 ∨ 16777216 < n then 0 else (enc n.toNat).length + 4 + n)) ∧ w = w' := by
  by_cases h : n < 0 ∨ 16777216 < n
  · rw [if_pos h]
    by_cases h1 : n < 0
    all_goals go_enter Try.func14, Try.ntmps14
    all_goals go_wp2
    all_goals go_ret
    all_goals exact ⟨rfl, rfl⟩
  · rw [if_neg h]
    obtain ⟨m, rfl⟩ : ∃ m : Nat, n = m := ⟨n.toNat, by omega⟩
    have hm : m ≤ 16777216 := by omega
    have hu : U64 m := U64.mk (by omega)
    have he := enc_len10 hu
    have h1 : ¬(16777216 : Int) < (m : Int) := by omega
    rw [Int.toNat_natCast]
    have hs := size_any w m hu
    generalize (enc m).length = L at he hs
    have Hs := Lib.hid hs
    clear hs
    go_enter Try.func14, Try.ntmps14
    go_wp2_with fail
    refine Hs.out.mono ?_
    rintro e w' ⟨rfl, rfl⟩
    go_wp2
    go_ret
    exact ⟨rfl, rfl⟩

set_option maxHeartbeats 400000 in
set_option maxRecDepth 100000 in
theorem rfsize_any (w : World) (n : Int) (hn : -9223372036854775808 ≤ n ∧ n ≤ 9223372036854775807) :
    Calls Try.prog 15 #[.int .i64 n] w fun e w' => e = .returned (.int .i64 (if n < 0 ∨ 16777216 < n then 0 else (enc n.toNat).length + 4 + n)) ∧ Ext w w' := by
  by_cases h : n < 0 ∨ 16777216 < n
  · rw [if_pos h]
    by_cases h1 : n < 0
    all_goals go_enter Try.func15, Try.ntmps15
    all_goals go_wp2
    all_goals go_ret
    all_goals exact ⟨rfl, Below.refl _ _⟩
  · rw [if_neg h]
    obtain ⟨m, rfl⟩ : ∃ m : Nat, n = m := ⟨n.toNat, by omega⟩
    have hm : m ≤ 16777216 := by omega
    have hu : U64 m := U64.mk (by omega)
    have he := enc_len10 hu
    have h1 : ¬(16777216 : Int) < (m : Int) := by omega
    rw [Int.toNat_natCast]
    have hs := bytes_any m m w (Nat.le_refl _) hu
    generalize enc m = E at he hs
    have Hs := Lib.hid hs
    clear hs
    go_enter Try.func15, Try.ntmps15
    go_wp2_with fail
    refine Hs.out.mono ?_
    rintro e w1 ⟨v, rfl, hown, hx⟩
    obtain ⟨A, c, rfl⟩ := (Own.bs hown).form
    go_wp2
    go_ret
    exact ⟨rfl, hx⟩

end Go.Proofs.Ytgipbkfpfidpmaa
