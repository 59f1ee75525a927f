/-
  Contracts of utf.Encode (of one rune) and utf.Runes.
  Conditions: at most 100,000 bytes.
-/
import Derived.Test.YtbnjhpknagkiaaaNe
namespace Go.Proofs.Ytbnjhpknagkiaaa
open Go.RowKit Go.Op

/-- a literal -/
theorem SL.newL {α : Type} [Rep α] (w : World) (cs : Array Value) (t : TypeId) {l : List α} {S : Nat → Prop} (n : Nat) (hn : l.length = n) (hm : n ≤ maxLen) (h : Reps w S cs.toList l) (hS : ∀ k, S k → k < w.heap.size) : SL (w.alloc (.cells cs t)) (Bw (w.alloc (.cells cs t))) (.slice (some ⟨w.heap.size, 0, none⟩) n n) l := by
  subst hn
  have hl := h.len
  refine ⟨_, l.length, cs.toList, rfl, Nat.le_refl _, hm, fun h => (by cases h), ⟨hl, fun _ => ⟨_, rfl, by simp, fun j u hu => ?_⟩⟩, ((h.keep (Sm.of_ext (Ext.of_alloc w _) hS)).more fun k hk => by have := hS k hk; simp; omega)⟩
  have hadd : (⟨w.heap.size, 0, none⟩ : Addr).add j = ⟨w.heap.size, j, none⟩ := by unfold Addr.add; split <;> simp_all
  rw [hadd]
  exact cell_new w cs t j (by simpa using hu)
theorem info_int : (Try.prog.info? 3).map (fun i => (i.zero, i.size, i.bytes)) = some (some (.int .i64 0), 1, 8) := by kernel_rfl
theorem IsR.i6 {r : Int} (h : IsR r) : I6 r := I6.mk ⟨by have := h.1; omega, by have := h.2.1; omega⟩

set_option maxHeartbeats 1600000 in
set_option maxRecDepth 100000 in
theorem encode_one (w : World) (v : Value) (r : Int) (hv : SL w (Bw w) v [r]) (hr : IsR r) :
    Calls Try.prog 80 #[v] w fun e w' => e = .returned (.string ⟨(renc r).toArray⟩) ∧ Ext w w' := by
  obtain ⟨ad, d0, h6, had⟩ : ∃ ad, w.cell? ad = some (.int .i64 r) ∧ I6 r ∧ ∃ c, v = .slice (some ad) 1 c := by
    obtain ⟨A, c, rfl, _⟩ := hv.form
    obtain ⟨ad, cs, rfl, _, ⟨rfl, h6⟩, hc⟩ := hv.at_ (show 0 < [r].length by simp)
    have := hc 0 _ rfl
    simp only [Rep.n, Nat.mul_one, Nat.add_zero, List.getElem_cons_zero] at this
    have ha : ad.add 0 = ad := by simp [Addr.add]
    rw [ha] at this
    exact ⟨ad, this, h6, c, rfl⟩
  obtain ⟨c, rfl⟩ := had
  have Hr := Lib.hid hr
  clear hv hr h6
  go_enter Try.func80, Try.ntmps80
  go_wp2_with fail
  refine wp_loop_rounds 2 ?_
  rw [rounds_succ]
  go_wp2_with fail
  refine (uput_any w w.heap.size _ [] r (Own.nil_ _ _) (Nat.le_refl _) (by simp) Hr.out).mono ?_
  rintro e w1 ⟨u, rfl, ho, hx⟩
  rw [List.nil_append] at ho
  go_wp2_with fail
  rw [rounds_succ]
  have c1 : (convert 25 9 u).run Try.prog w1 = .ok (.string ⟨(renc r).toArray⟩) w1 := str_of_bs (Own.bs ho) _ rfl
  clear ho
  go_wp2
  go_ret
  exact ⟨rfl, hx⟩

set_option maxHeartbeats 1600000 in
set_option maxRecDepth 100000 in
theorem runes_any (w : World) (s : List UInt8) (hl : s.length ≤ 100000) :
    Calls Try.prog 67 #[.string ⟨s.toArray⟩] w fun e w' => ∃ v, e = .returned v ∧ OwnL w' w.heap.size 3 (fun _ => False) v (rns s) ∧ Ext w w' := by
  have hsz : (ByteArray.mk s.toArray).size = s.length := by show s.toArray.size = _; simp
  go_enter Try.func67, Try.ntmps67
  go_wp2_with fail
  go_loopw [3, 4] (fun o i wr => ∃ (k : Nat) (L : List Int), i = .int .i64 k ∧ k ≤ s.length ∧ L.length ≤ k ∧ rns s = L ++ rns (s.drop k) ∧ OwnL wr w.heap.size 3 (fun _ => False) o L ∧ Ext w wr) (fun _ i _ => s.length - (intOf i).toNat)
  case atStart => exact ⟨0, [], rfl, Nat.zero_le _, Nat.zero_le _, by rw [List.drop_zero]; rfl, OwnL.nil_ _ _ _ _, Below.refl _ _⟩
  case round =>
    obtain ⟨k, L, rfl, hk, hL, hrn, hol, hx⟩ := hrel
    obtain ⟨Al, cl, rfl, hclo, hmo⟩ := hol.form
    have hsz2 := hx.size
    have Hol := Lib.hid hol
    have Hx := Lib.hid hx
    have Hrn := Lib.hid hrn
    clear hol hx hrn
    by_cases hlk : k < s.length
    · have hkl : (k : Int) < s.length := by omega
      have hde := decode_any wr s k hlk (by omega)
      have hat := rns_at hlk
      have hbd := decN_bd (s[k]).toNat (s.drop (k + 1))
      rw [List.length_drop] at hbd
      generalize decN (s[k]).toNat (s.drop (k + 1)) = D at hde hat hbd
      obtain ⟨r, z⟩ := D
      dsimp only at hde hat hbd
      obtain ⟨b1, b2, b3, b4⟩ := hbd
      have h6 : I6 (r : Int) := I6.mk (by omega)
      have Hde := Lib.hid hde
      have Hat := Lib.hid hat
      clear hde hat b4
      go_wp2_with fail
      refine Hde.out.mono ?_
      rintro e wz ⟨rfl, hxz⟩
      have hLS : L.length ≤ 100000 := by omega
      have hsv := SV.one_ wz #[.int .i64 r] 3 1 rfl
      have hreps : ∀ W : World, Reps (α := Int) W (fun k => False ∧ k < W.heap.size ∧ some k ≠ (Value.slice Al L.length cl).ownBlock) [.int .i64 r] [(r : Int)] := fun W => Reps.single ⟨rfl, h6⟩
      have Hsv := Lib.hid hsv
      have Hol2 := Lib.hid (Hol.out.ext hxz)
      have Hx2 := Lib.hid (Ext.trans Hx.out hxz)
      have hsz3 := Hx2.out.size
      have Hreps := Lib.hid hreps
      obtain ⟨kz, hkz⟩ : ∃ kz : Nat, kz = k + z := ⟨_, rfl⟩
      have hkzi : (k : Int) + z = (kz : Int) := by omega
      have hkz6 : kz ≤ s.length := by omega
      have Hkz := Lib.hid hkz
      rw [← hkz] at Hat
      clear hkz
      clear hsv hxz hreps
      go_wp2_with (at_builtin; go_loud (refine wpList_append_l _ rfl (.tmp 17) (.tmp 19) 50 rfl w.heap.size 3 (fun _ => False) (.int .i64 0) 8 Try.underlying50 info_int rfl (by decide) (.slice Al L.length cl) L rfl (Hol2.out.ext (Ext.of_alloc wz _)) (wz.heap.size + 1) (.slice (some ⟨wz.heap.size, 0, none⟩) 1 1) [(r : Int)] [.int .i64 r] rfl Hsv.out (Hreps.out _) (by simp; omega) (by omega) (by simp; omega) ?_; intro v6 w6 hown6 hg6 hat6; have hx6 : Ext w w6 := Below.grown (Ext.al Hx2.out _) hg6 (by simp; omega) (fun j hj => Hol.out.ge j hj); have Hown6 := Lib.hid hown6; have Hx6 := Lib.hid hx6; clear hown6 hg6 hat6 hx6))
      exact ⟨⟨kz, L ++ [(r : Int)], rfl, hkz6, by have := Hkz.out; rw [List.length_append, List.length_singleton]; omega, by rw [Hrn.out, Hat.out]; simp, Hown6.out, Hx6.out⟩, by have := Hkz.out; simp only [intOf]; omega⟩
    · have hkl : ¬(k : Int) < s.length := by omega
      have hres : rns s = L := by rw [Hrn.out, List.drop_of_length_le (by omega), rns_nil, List.append_nil]
      have Hres := Lib.hid hres
      clear hres
      go_wp2
      go_ret
      exact ⟨_, rfl, by rw [Hres.out]; exact Hol.out, Hx.out⟩
end Go.Proofs.Ytbnjhpknagkiaaa
