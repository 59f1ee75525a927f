/-
  Contracts of the reference's put, Encode (of one rune), Runes (chapter 01).
  Conditions: runes; at most 100,000 bytes.
-/
import Derived.Test.YtbnjhpknagkiaaaNg
namespace Go.Proofs.Ytbnjhpknagkiaaa
open Go.RowKit Go.Op

set_option maxHeartbeats 3200000 in
set_option maxRecDepth 100000 in
theorem rput_any (w : World) (base : Nat) (v : Value) (bs : List UInt8) (r : Int) (hv : Own w base v bs) (hb : base ≤ w.heap.size) (hl : bs.length ≤ 1000000) (hr : IsR r) :
    Calls Try.prog 89 #[v, .int .i64 r] w fun e w' => ∃ u, e = .returned u ∧ Own w' base u (bs ++ renc r) ∧ Below base w w' := by
  obtain ⟨n, hN⟩ : ∃ n : Nat, r = n := ⟨r.toNat, by have := hr.1; omega⟩
  have hn : n ≤ 1114111 := by have := hr.2.1; omega
  have hr0 : decide (r < 0) = false := decide_eq_false (by omega)
  have hr1 : decide ((1114111 : Int) < r) = false := decide_eq_false (by omega)
  have hhf : decide ((55296 : Int) ≤ r) = false ∨ (decide ((55296 : Int) ≤ r) = true ∧ decide (r ≤ 57343) = false) := by
    by_cases h : 55296 ≤ r
    · exact .inr ⟨decide_eq_true h, decide_eq_false (fun k => hr.2.2 ⟨h, k⟩)⟩
    · exact .inl (decide_eq_false h)
  have hre : renc r = renc0 n := by rw [hN]; rfl
  have Hre := Lib.hid hre
  have Hv := Lib.hid hv
  clear hv hr hre
  by_cases h1 : n < 128
  · have hres : renc0 n = [UInt8.ofNat (n)] := by unfold renc0; rw [if_pos h1]
    have Hres := Lib.hid (Hre.out.trans hres)
    have Hx0 := Lib.hid (u8_eq' (r) (n) (by omega) (by omega))
    have hm0 : (r) % 256 = r := by omega
    have t0 : decide (r < 128) = true := decide_eq_true (by omega)
    have hr6 : 0 ≤ r ∧ r ≤ 1114111 := by omega
    obtain ⟨hr6, hr7⟩ := hr6
    clear hres hN hn h1
    rcases hhf with hhf | ⟨hhf, hhf2⟩
    all_goals
      go_enter Try.func89, Try.ntmps89
      go_wp2_with (first | (at_builtin; go_loud (refine wpList_append_bytes _ rfl (.tmp 25) (.tmp 28) rfl base _ bs rfl (Hv.out.ext (Ext.of_alloc _ _)) _ _ [UInt8.ofNat (n)] rfl (BS.newL _ _ _ 1 rfl (by simp [maxLen]) (by rw [Hx0.out]; rfl)) (by simp; omega) (by simp; omega) ?_; intro v2 w2 hown2 hg2 hat2)) | go_in)
      go_ret
      exact ⟨_, rfl, by rw [Hres.out]; exact hown2, ((Below.refl base w).alloc hb _).grown hg2 (by simp; omega) (own_ge Hv.out)⟩
  by_cases h2 : n < 2048
  · have hres : renc0 n = [UInt8.ofNat (192 + n / 64), UInt8.ofNat (128 + n % 64)] := by unfold renc0; rw [if_neg h1, if_pos h2]
    have Hres := Lib.hid (Hre.out.trans hres)
    have Hx0 := Lib.hid (u8_eq' (192 + r / 64) (192 + n / 64) (by omega) (by omega))
    have hm0 : (192 + r / 64) % 256 = 192 + r / 64 := by omega
    have Hx1 := Lib.hid (u8_eq' (128 + r % 64) (128 + n % 64) (by omega) (by omega))
    have hm1 : (128 + r % 64) % 256 = 128 + r % 64 := by omega
    have t0 : decide (r < 128) = false := decide_eq_false (by omega)
    have t1 : decide (r < 2048) = true := decide_eq_true (by omega)
    have q0 : r.tdiv 64 = r / 64 := Int.tdiv_eq_ediv_of_nonneg (by omega)
    have q1 : r.tmod 64 = r % 64 := Int.tmod_eq_emod_of_nonneg (by omega)
    have hr6 : 0 ≤ r ∧ r ≤ 1114111 := by omega
    obtain ⟨hr6, hr7⟩ := hr6
    clear hres hN hn h1 h2
    rcases hhf with hhf | ⟨hhf, hhf2⟩
    all_goals
      go_enter Try.func89, Try.ntmps89
      go_wp2_with (first | (at_builtin; go_loud (refine wpList_append_bytes _ rfl (.tmp 33) (.tmp 42) rfl base _ bs rfl (Hv.out.ext (Ext.of_alloc _ _)) _ _ [UInt8.ofNat (192 + n / 64), UInt8.ofNat (128 + n % 64)] rfl (BS.newL _ _ _ 2 rfl (by simp [maxLen]) (by rw [Hx0.out, Hx1.out]; rfl)) (by simp; omega) (by simp; omega) ?_; intro v2 w2 hown2 hg2 hat2)) | go_in)
      go_ret
      exact ⟨_, rfl, by rw [Hres.out]; exact hown2, ((Below.refl base w).alloc hb _).grown hg2 (by simp; omega) (own_ge Hv.out)⟩
  by_cases h3 : n < 65536
  · have hres : renc0 n = [UInt8.ofNat (224 + n / 4096), UInt8.ofNat (128 + n / 64 % 64), UInt8.ofNat (128 + n % 64)] := by unfold renc0; rw [if_neg h1, if_neg h2, if_pos h3]
    have Hres := Lib.hid (Hre.out.trans hres)
    have Hx0 := Lib.hid (u8_eq' (224 + r / 4096) (224 + n / 4096) (by omega) (by omega))
    have hm0 : (224 + r / 4096) % 256 = 224 + r / 4096 := by omega
    have Hx1 := Lib.hid (u8_eq' (128 + r / 64 % 64) (128 + n / 64 % 64) (by omega) (by omega))
    have hm1 : (128 + r / 64 % 64) % 256 = 128 + r / 64 % 64 := by omega
    have Hx2 := Lib.hid (u8_eq' (128 + r % 64) (128 + n % 64) (by omega) (by omega))
    have hm2 : (128 + r % 64) % 256 = 128 + r % 64 := by omega
    have t0 : decide (r < 128) = false := decide_eq_false (by omega)
    have t1 : decide (r < 2048) = false := decide_eq_false (by omega)
    have t2 : decide (r < 65536) = true := decide_eq_true (by omega)
    have q0 : r.tdiv 64 = r / 64 := Int.tdiv_eq_ediv_of_nonneg (by omega)
    have q1 : r.tmod 64 = r % 64 := Int.tmod_eq_emod_of_nonneg (by omega)
    have hr6 : 0 ≤ r ∧ r ≤ 1114111 := by omega
    obtain ⟨hr6, hr7⟩ := hr6
    clear hres hN hn h1 h2 h3
    rcases hhf with hhf | ⟨hhf, hhf2⟩
    all_goals
      go_enter Try.func89, Try.ntmps89
      go_wp2_with (first | (at_builtin; go_loud (refine wpList_append_bytes _ rfl (.tmp 47) (.tmp 61) rfl base _ bs rfl (Hv.out.ext (Ext.of_alloc _ _)) _ _ [UInt8.ofNat (224 + n / 4096), UInt8.ofNat (128 + n / 64 % 64), UInt8.ofNat (128 + n % 64)] rfl (BS.newL _ _ _ 3 rfl (by simp [maxLen]) (by rw [Hx0.out, Hx1.out, Hx2.out]; rfl)) (by simp; omega) (by simp; omega) ?_; intro v2 w2 hown2 hg2 hat2)) | go_in)
      go_ret
      exact ⟨_, rfl, by rw [Hres.out]; exact hown2, ((Below.refl base w).alloc hb _).grown hg2 (by simp; omega) (own_ge Hv.out)⟩
  have hres : renc0 n = [UInt8.ofNat (240 + n / 262144), UInt8.ofNat (128 + n / 4096 % 64), UInt8.ofNat (128 + n / 64 % 64), UInt8.ofNat (128 + n % 64)] := by unfold renc0; rw [if_neg h1, if_neg h2, if_neg h3]
  have Hres := Lib.hid (Hre.out.trans hres)
  have Hx0 := Lib.hid (u8_eq' (240 + r / 262144) (240 + n / 262144) (by omega) (by omega))
  have hm0 : (240 + r / 262144) % 256 = 240 + r / 262144 := by omega
  have Hx1 := Lib.hid (u8_eq' (128 + r / 4096 % 64) (128 + n / 4096 % 64) (by omega) (by omega))
  have hm1 : (128 + r / 4096 % 64) % 256 = 128 + r / 4096 % 64 := by omega
  have Hx2 := Lib.hid (u8_eq' (128 + r / 64 % 64) (128 + n / 64 % 64) (by omega) (by omega))
  have hm2 : (128 + r / 64 % 64) % 256 = 128 + r / 64 % 64 := by omega
  have Hx3 := Lib.hid (u8_eq' (128 + r % 64) (128 + n % 64) (by omega) (by omega))
  have hm3 : (128 + r % 64) % 256 = 128 + r % 64 := by omega
  have t0 : decide (r < 128) = false := decide_eq_false (by omega)
  have t1 : decide (r < 2048) = false := decide_eq_false (by omega)
  have t2 : decide (r < 65536) = false := decide_eq_false (by omega)
  have q0 : r.tdiv 64 = r / 64 := Int.tdiv_eq_ediv_of_nonneg (by omega)
  have q1 : r.tmod 64 = r % 64 := Int.tmod_eq_emod_of_nonneg (by omega)
  have hr6 : 0 ≤ r ∧ r ≤ 1114111 := by omega
  obtain ⟨hr6, hr7⟩ := hr6
  clear hres hN hn h1 h2 h3
  rcases hhf with hhf | ⟨hhf, hhf2⟩
  all_goals
    go_enter Try.func89, Try.ntmps89
    go_wp2_with (first | (at_builtin; go_loud (refine wpList_append_bytes _ rfl (.tmp 63) (.tmp 82) rfl base _ bs rfl (Hv.out.ext (Ext.of_alloc _ _)) _ _ [UInt8.ofNat (240 + n / 262144), UInt8.ofNat (128 + n / 4096 % 64), UInt8.ofNat (128 + n / 64 % 64), UInt8.ofNat (128 + n % 64)] rfl (BS.newL _ _ _ 4 rfl (by simp [maxLen]) (by rw [Hx0.out, Hx1.out, Hx2.out, Hx3.out]; rfl)) (by simp; omega) (by simp; omega) ?_; intro v2 w2 hown2 hg2 hat2)) | go_in)
    go_ret
    exact ⟨_, rfl, by rw [Hres.out]; exact hown2, ((Below.refl base w).alloc hb _).grown hg2 (by simp; omega) (own_ge Hv.out)⟩

set_option maxHeartbeats 1600000 in
set_option maxRecDepth 100000 in
theorem rencode_one (w : World) (v : Value) (r : Int) (hv : SL w (Bw w) v [r]) (hr : IsR r) :
    Calls Try.prog 74 #[v] w fun e w' => e = .returned (.string ⟨(renc r).toArray⟩) ∧ Ext w w' := by
  obtain ⟨ad, d0, h6, had⟩ : ∃ ad, w.cell? ad = some (.int .i64 r) ∧ I6 r ∧ ∃ c, v = .slice (some ad) 1 c := by
    obtain ⟨A, c, rfl, _⟩ := hv.form
    obtain ⟨ad, cs, rfl, _, ⟨rfl, h6⟩, hc⟩ := hv.at_ (show 0 < [r].length by simp)
    have := hc 0 _ rfl
    simp only [Rep.n, Nat.mul_one, Nat.add_zero, List.getElem_cons_zero] at this
    have ha : ad.add 0 = ad := by simp [Addr.add]
    rw [ha] at this
    exact ⟨ad, this, h6, c, rfl⟩
  obtain ⟨c, rfl⟩ := had
  have Hr := Lib.hid hr
  clear hv hr h6
  go_enter Try.func74, Try.ntmps74
  go_wp2_with fail
  refine wp_loop_rounds 2 ?_
  rw [rounds_succ]
  go_wp2_with fail
  refine (rput_any w w.heap.size _ [] r (Own.nil_ _ _) (Nat.le_refl _) (by simp) Hr.out).mono ?_
  rintro e w1 ⟨u, rfl, ho, hx⟩
  rw [List.nil_append] at ho
  go_wp2_with fail
  rw [rounds_succ]
  have c1 : (convert 25 9 u).run Try.prog w1 = .ok (.string ⟨(renc r).toArray⟩) w1 := str_of_bs (Own.bs ho) _ rfl
  clear ho
  go_wp2
  go_ret
  exact ⟨rfl, hx⟩

set_option maxHeartbeats 1600000 in
set_option maxRecDepth 100000 in
theorem rrunes_any (w : World) (s : List UInt8) (hl : s.length ≤ 100000) :
    Calls Try.prog 53 #[.string ⟨s.toArray⟩] w fun e w' => ∃ v, e = .returned v ∧ OwnL w' w.heap.size 3 (fun _ => False) v (rns s) ∧ Ext w w' := by
  have hsz : (ByteArray.mk s.toArray).size = s.length := by show s.toArray.size = _; simp
  go_enter Try.func53, Try.ntmps53
  go_wp2_with fail
  go_loopw [3, 4] (fun o i wr => ∃ (k : Nat) (L : List Int), i = .int .i64 k ∧ k ≤ s.length ∧ L.length ≤ k ∧ rns s = L ++ rns (s.drop k) ∧ OwnL wr w.heap.size 3 (fun _ => False) o L ∧ Ext w wr) (fun _ i _ => s.length - (intOf i).toNat)
  case atStart => exact ⟨0, [], rfl, Nat.zero_le _, Nat.zero_le _, by rw [List.drop_zero]; rfl, OwnL.nil_ _ _ _ _, Below.refl _ _⟩
  case round =>
    obtain ⟨k, L, rfl, hk, hL, hrn, hol, hx⟩ := hrel
    obtain ⟨Al, cl, rfl, hclo, hmo⟩ := hol.form
    have hsz2 := hx.size
    have Hol := Lib.hid hol
    have Hx := Lib.hid hx
    have Hrn := Lib.hid hrn
    clear hol hx hrn
    by_cases hlk : k < s.length
    · have hkl : (k : Int) < s.length := by omega
      have hde := rdecode_any wr s k hlk (by omega)
      have hat := rns_at hlk
      have hbd := decN_bd (s[k]).toNat (s.drop (k + 1))
      rw [List.length_drop] at hbd
      generalize decN (s[k]).toNat (s.drop (k + 1)) = D at hde hat hbd
      obtain ⟨r, z⟩ := D
      dsimp only at hde hat hbd
      obtain ⟨b1, b2, b3, b4⟩ := hbd
      have h6 : I6 (r : Int) := I6.mk (by omega)
      have Hde := Lib.hid hde
      have Hat := Lib.hid hat
      clear hde hat b4
      go_wp2_with fail
      refine Hde.out.mono ?_
      rintro e wz ⟨rfl, rfl⟩
      have hLS : L.length ≤ 100000 := by omega
      have hsv := SV.one_ wz #[.int .i64 r] 3 1 rfl
      have hreps : ∀ W : World, Reps (α := Int) W (fun k => False ∧ k < W.heap.size ∧ some k ≠ (Value.slice Al L.length cl).ownBlock) [.int .i64 r] [(r : Int)] := fun W => Reps.single ⟨rfl, h6⟩
      have Hsv := Lib.hid hsv
      have Hol2 := Lib.hid Hol.out
      have Hx2 := Lib.hid Hx.out
      have hsz3 := Hx2.out.size
      have Hreps := Lib.hid hreps
      obtain ⟨kz, hkz⟩ : ∃ kz : Nat, kz = k + z := ⟨_, rfl⟩
      have hkzi : (k : Int) + z = (kz : Int) := by omega
      have hkz6 : kz ≤ s.length := by omega
      have Hkz := Lib.hid hkz
      rw [← hkz] at Hat
      clear hkz
      clear hsv hreps
      go_wp2_with (at_builtin; go_loud (refine wpList_append_l _ rfl (.tmp 17) (.tmp 19) 50 rfl w.heap.size 3 (fun _ => False) (.int .i64 0) 8 Try.underlying50 info_int rfl (by decide) (.slice Al L.length cl) L rfl (Hol2.out.ext (Ext.of_alloc wz _)) (wz.heap.size + 1) (.slice (some ⟨wz.heap.size, 0, none⟩) 1 1) [(r : Int)] [.int .i64 r] rfl Hsv.out (Hreps.out _) (by simp; omega) (by omega) (by simp; omega) ?_; intro v6 w6 hown6 hg6 hat6; have hx6 : Ext w w6 := Below.grown (Ext.al Hx2.out _) hg6 (by simp; omega) (fun j hj => Hol.out.ge j hj); have Hown6 := Lib.hid hown6; have Hx6 := Lib.hid hx6; clear hown6 hg6 hat6 hx6))
      exact ⟨⟨kz, L ++ [(r : Int)], rfl, hkz6, by have := Hkz.out; rw [List.length_append, List.length_singleton]; omega, by rw [Hrn.out, Hat.out]; simp, Hown6.out, Hx6.out⟩, by have := Hkz.out; simp only [intOf]; omega⟩
    · have hkl : ¬(k : Int) < s.length := by omega
      have hres : rns s = L := by rw [Hrn.out, List.drop_of_length_le (by omega), rns_nil, List.append_nil]
      have Hres := Lib.hid hres
      clear hres
      go_wp2
      go_ret
      exact ⟨_, rfl, by rw [Hres.out]; exact Hol.out, Hx.out⟩
end Go.Proofs.Ytbnjhpknagkiaaa
