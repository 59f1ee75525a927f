/-
  Contracts of utf.put and utf.Encode, at runes.
  Conditions: runes.
-/
import Derived.Test.YtbnjhpknagkiaaaNd
import Derived.Test.YtbnjhpknagkiaaaBl
namespace Go.Proofs.Ytbnjhpknagkiaaa
open Go.RowKit Go.Op

/-- new bytes -/
theorem BS.newL (w : World) (cs : Array Value) (bs : List UInt8) (n : Nat) (hn : bs.length = n) (hm : n ≤ maxLen) (h : cs.toList = bv bs) : BS (w.alloc (.cells cs 5)) (w.heap.size + 1) (.slice (some ⟨w.heap.size, 0, none⟩) n n) bs := by
  subst hn
  refine ⟨_, bs.length, rfl, Nat.le_refl _, hm, fun h => (by cases h), ?_⟩
  have hs : cs.size = bs.length * 1 := by
    have := congrArg List.length h
    rw [bv_length] at this
    simpa using this
  have := Rd.new_ w cs 5 1 bs.length hs
  rw [h] at this
  exact this
/-- a rune's bytes -/
def renc0 (n : Nat) : List UInt8 :=
  if n < 128 then [UInt8.ofNat n] else if n < 2048 then [UInt8.ofNat (192 + n / 64), UInt8.ofNat (128 + n % 64)]
  else if n < 65536 then [UInt8.ofNat (224 + n / 4096), UInt8.ofNat (128 + n / 64 % 64), UInt8.ofNat (128 + n % 64)]
  else [UInt8.ofNat (240 + n / 262144), UInt8.ofNat (128 + n / 4096 % 64), UInt8.ofNat (128 + n / 64 % 64), UInt8.ofNat (128 + n % 64)]
def renc (r : Int) : List UInt8 := renc0 r.toNat
theorem renc0_pos (n : Nat) : 0 < (renc0 n).length ∧ (renc0 n).length ≤ 4 := by
  unfold renc0
  split
  · simp
  · split
    · simp
    · split <;> simp
theorem renc_pos (r : Int) : 0 < (renc r).length ∧ (renc r).length ≤ 4 := renc0_pos _
theorem u8_of (n : Nat) (h : n < 256) : Value.int .u8 (n : Int) = .int .u8 ((UInt8.ofNat n).toNat : Int) := by
  rw [UInt8.toNat_ofNat']
  congr 2
  omega

theorem and63i (n : Nat) (h : n < 2 ^ 63) : bits .and .i64 (n : Int) 63 = (n : Int) % 64 := bits_mask .i64 63 (by decide) wraps_i64 6 (by decide) _ (by omega) (by omega)
theorem u8_eq' (a : Int) (n : Nat) (h : n < 256) (e : a = (n : Int)) : Value.int .u8 a = .int .u8 ((UInt8.ofNat n).toNat : Int) := by rw [e]; exact u8_of n h

set_option maxHeartbeats 3200000 in
set_option maxRecDepth 100000 in
theorem uput_any (w : World) (base : Nat) (v : Value) (bs : List UInt8) (r : Int) (hv : Own w base v bs) (hb : base ≤ w.heap.size) (hl : bs.length ≤ 1000000) (hr : IsR r) :
    Calls Try.prog 92 #[v, .int .i64 r] w fun e w' => ∃ u, e = .returned u ∧ Own w' base u (bs ++ renc r) ∧ Below base w w' := by
  obtain ⟨n, rfl⟩ : ∃ n : Nat, r = n := ⟨r.toNat, by have := hr.1; omega⟩
  have hn : n ≤ 1114111 := by have := hr.2.1; omega
  have hr0 : decide ((n : Int) < 0) = false := decide_eq_false (by omega)
  have hr1 : decide ((1114111 : Int) < n) = false := decide_eq_false (by omega)
  have hhf : (decide ((55296 : Int) ≤ (n : Int)) && decide ((n : Int) ≤ 57343)) = false := by
    rw [← Bool.not_eq_true, Bool.and_eq_true, decide_eq_true_eq, decide_eq_true_eq]
    exact hr.2.2
  have hre : renc (n : Int) = renc0 n := rfl
  rw [hre]
  have Hv := Lib.hid hv
  clear hv hr hre
  by_cases h1 : n < 128
  · have hres : renc0 n = [UInt8.ofNat n] := by unfold renc0; rw [if_pos h1]
    rw [hres]
    have Hx := Lib.hid (u8_of n (by omega))
    have h1i : (n : Int) < 128 := by omega
    have hmod : (n : Int) % 256 = n := by omega
    clear hres h1
    go_enter Try.func92, Try.ntmps92
    go_wp2_with fail
    refine (half_any _ _).mono ?_
    rintro e w4 ⟨rfl, rfl⟩
    rw [hhf]
    go_wp2_with (first | (at_builtin; go_loud (refine wpList_append_bytes _ rfl (.tmp 39) (.tmp 42) rfl base _ bs rfl (Hv.out.ext (Ext.of_alloc _ _)) _ _ [UInt8.ofNat n] rfl (BS.newL _ _ _ 1 rfl (by simp [maxLen]) (by rw [Hx.out]; rfl)) (by simp; omega) (by simp; omega) ?_; intro v2 w2 hown2 hg2 hat2)) | go_in)
    go_ret
    exact ⟨_, rfl, hown2, ((Below.refl base w4).alloc hb _).grown hg2 (by simp; omega) (own_ge Hv.out)⟩
  by_cases h2 : n < 2048
  · have hres : renc0 n = [UInt8.ofNat (192 + n / 64), UInt8.ofNat (128 + n % 64)] := by unfold renc0; rw [if_neg h1, if_pos h2]
    rw [hres]
    have Hx0 := Lib.hid (u8_eq' (192 + (n : Int) / 64) (192 + n / 64) (by omega) (by omega))
    have Hx1 := Lib.hid (u8_eq' (128 + (n : Int) % 64) (128 + n % 64) (by omega) (by omega))
    have h1i : decide ((n : Int) < 128) = false := decide_eq_false (by omega)
    have h2i : (n : Int) < 2048 := by omega
    have hA0 := and63i n (by omega)
    clear hres h1 h2
    go_enter Try.func92, Try.ntmps92
    go_wp2_with fail
    refine (half_any _ _).mono ?_
    rintro e w4 ⟨rfl, rfl⟩
    rw [hhf]
    go_wp2_with (first | (at_builtin; go_loud (refine wpList_append_bytes _ rfl (.tmp 47) (.tmp 56) rfl base _ bs rfl (Hv.out.ext (Ext.of_alloc _ _)) _ _ [UInt8.ofNat (192 + n / 64), UInt8.ofNat (128 + n % 64)] rfl (BS.newL _ _ _ 2 rfl (by simp [maxLen]) (by rw [Hx0.out, Hx1.out]; rfl)) (by simp; omega) (by simp; omega) ?_; intro v2 w2 hown2 hg2 hat2)) | go_in)
    go_ret
    exact ⟨_, rfl, hown2, ((Below.refl base w4).alloc hb _).grown hg2 (by simp; omega) (own_ge Hv.out)⟩
  by_cases h3 : n < 65536
  · have hres : renc0 n = [UInt8.ofNat (224 + n / 4096), UInt8.ofNat (128 + n / 64 % 64), UInt8.ofNat (128 + n % 64)] := by unfold renc0; rw [if_neg h1, if_neg h2, if_pos h3]
    rw [hres]
    have Hx0 := Lib.hid (u8_eq' (224 + (n : Int) / 4096) (224 + n / 4096) (by omega) (by omega))
    have Hx1 := Lib.hid (u8_eq' (128 + (n : Int) / 64 % 64) (128 + n / 64 % 64) (by omega) (by omega))
    have Hx2 := Lib.hid (u8_eq' (128 + (n : Int) % 64) (128 + n % 64) (by omega) (by omega))
    have h1i : decide ((n : Int) < 128) = false := decide_eq_false (by omega)
    have h2i : decide ((n : Int) < 2048) = false := decide_eq_false (by omega)
    have h3i : decide ((n : Int) < 65536) = true := decide_eq_true (by omega)
    have hO : bits .or .u8 224 ((n : Int) / 4096 % 256) = 224 + (n : Int) / 4096 := by rw [show (n : Int) / 4096 % 256 = (n : Int) / 4096 by omega]; exact u8_or224 _ (by omega) (by omega)
    have hA0 := and63i n (by omega)
    have hA1 := and63i (n / 64) (by omega)
    clear hres h1 h2 h3
    simp only [Int.natCast_ediv, Int.cast_ofNat_Int] at hA1
    go_enter Try.func92, Try.ntmps92
    go_wp2_with fail
    refine (half_any _ _).mono ?_
    rintro e w4 ⟨rfl, rfl⟩
    rw [hhf]
    go_wp2_with (first | (at_builtin; go_loud (refine wpList_append_bytes _ rfl (.tmp 61) (.tmp 75) rfl base _ bs rfl (Hv.out.ext (Ext.of_alloc _ _)) _ _ [UInt8.ofNat (224 + n / 4096), UInt8.ofNat (128 + n / 64 % 64), UInt8.ofNat (128 + n % 64)] rfl (BS.newL _ _ _ 3 rfl (by simp [maxLen]) (by rw [Hx0.out, Hx1.out, Hx2.out]; rfl)) (by simp; omega) (by simp; omega) ?_; intro v2 w2 hown2 hg2 hat2)) | go_in)
    go_ret
    exact ⟨_, rfl, hown2, ((Below.refl base w4).alloc hb _).grown hg2 (by simp; omega) (own_ge Hv.out)⟩
  · have hres : renc0 n = [UInt8.ofNat (240 + n / 262144), UInt8.ofNat (128 + n / 4096 % 64), UInt8.ofNat (128 + n / 64 % 64), UInt8.ofNat (128 + n % 64)] := by unfold renc0; rw [if_neg h1, if_neg h2, if_neg h3]
    rw [hres]
    have Hx0 := Lib.hid (u8_eq' (240 + (n : Int) / 262144) (240 + n / 262144) (by omega) (by omega))
    have Hx1 := Lib.hid (u8_eq' (128 + (n : Int) / 4096 % 64) (128 + n / 4096 % 64) (by omega) (by omega))
    have Hx2 := Lib.hid (u8_eq' (128 + (n : Int) / 64 % 64) (128 + n / 64 % 64) (by omega) (by omega))
    have Hx3 := Lib.hid (u8_eq' (128 + (n : Int) % 64) (128 + n % 64) (by omega) (by omega))
    have h1i : decide ((n : Int) < 128) = false := decide_eq_false (by omega)
    have h2i : decide ((n : Int) < 2048) = false := decide_eq_false (by omega)
    have h3i : decide ((n : Int) < 65536) = false := decide_eq_false (by omega)
    have hO : bits .or .u8 240 ((n : Int) / 262144 % 256) = 240 + (n : Int) / 262144 := by rw [show (n : Int) / 262144 % 256 = (n : Int) / 262144 by omega]; exact u8_or240 _ (by omega) (by omega)
    have hA0 := and63i n (by omega)
    have hA1 := and63i (n / 64) (by omega)
    have hA2 := and63i (n / 4096) (by omega)
    clear hres h1 h2 h3
    simp only [Int.natCast_ediv, Int.cast_ofNat_Int] at hA1 hA2
    go_enter Try.func92, Try.ntmps92
    go_wp2_with fail
    refine (half_any _ _).mono ?_
    rintro e w4 ⟨rfl, rfl⟩
    rw [hhf]
    go_wp2_with (first | (at_builtin; go_loud (refine wpList_append_bytes _ rfl (.tmp 15) (.tmp 34) rfl base _ bs rfl (Hv.out.ext (Ext.of_alloc _ _)) _ _ [UInt8.ofNat (240 + n / 262144), UInt8.ofNat (128 + n / 4096 % 64), UInt8.ofNat (128 + n / 64 % 64), UInt8.ofNat (128 + n % 64)] rfl (BS.newL _ _ _ 4 rfl (by simp [maxLen]) (by rw [Hx0.out, Hx1.out, Hx2.out, Hx3.out]; rfl)) (by simp; omega) (by simp; omega) ?_; intro v2 w2 hown2 hg2 hat2)) | go_in)
    go_ret
    exact ⟨_, rfl, hown2, ((Below.refl base w4).alloc hb _).grown hg2 (by simp; omega) (own_ge Hv.out)⟩
end Go.Proofs.Ytbnjhpknagkiaaa
