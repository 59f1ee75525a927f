/-
  Contracts of utf.Decode, utf.Encode, utf.Runes at ASCII.
  Conditions: bytes below 128; at most 100,000.
-/
import Derived.Test.YtbnjhpknagkiaaaUb
import Derived.Test.YtbnjhpknagkiaaaEb
import Derived.Test.YtbnjhpknagkiaaaBl
namespace Go.Proofs.Ytbnjhpknagkiaaa
open Go.RowKit Go.Op

/-- a literal -/
theorem SL.newL {α : Type} [Rep α] (w : World) (cs : Array Value) (t : TypeId) {l : List α} {S : Nat → Prop} (n : Nat) (hn : l.length = n) (hm : n ≤ maxLen) (h : Reps w S cs.toList l) (hS : ∀ k, S k → k < w.heap.size) : SL (w.alloc (.cells cs t)) (Bw (w.alloc (.cells cs t))) (.slice (some ⟨w.heap.size, 0, none⟩) n n) l := by
  subst hn
  have hl := h.len
  refine ⟨_, l.length, cs.toList, rfl, Nat.le_refl _, hm, fun h => (by cases h), ⟨hl, fun _ => ⟨_, rfl, by simp, fun j u hu => ?_⟩⟩, ((h.keep (Sm.of_ext (Ext.of_alloc w _) hS)).more fun k hk => by have := hS k hk; simp; omega)⟩
  have hadd : (⟨w.heap.size, 0, none⟩ : Addr).add j = ⟨w.heap.size, j, none⟩ := by unfold Addr.add; split <;> simp_all
  rw [hadd]
  exact cell_new w cs t j (by simpa using hu)
def rns (bs : List UInt8) : List Int := bs.map fun b => (b.toNat : Int)
theorem rns_len (bs : List UInt8) : (rns bs).length = bs.length := by simp [rns]
theorem info_int : (Try.prog.info? 3).map (fun i => (i.zero, i.size, i.bytes)) = some (some (.int .i64 0), 1, 8) := by kernel_rfl
def Asc (bs : List UInt8) : Prop := ∀ b ∈ bs, b.toNat < 128

set_option maxHeartbeats 800000 in
set_option maxRecDepth 100000 in
theorem decode_asc (w : World) (s : List UInt8) (k : Nat) (hk : k < s.length) (ha : (s[k]).toNat < 128) :
    Calls Try.prog 78 #[.string ⟨s.toArray⟩, .int .i64 k] w fun e w' => e = .returned (.tuple #[.int .i64 ((s[k]).toNat : Int), .int .i64 1]) ∧ w' = w := by
  have hsz : (ByteArray.mk s.toArray).size = s.length := by show s.toArray.size = _; simp
  have hk0 : decide ((k : Int) < 0) = false := decide_eq_false (by omega)
  have hk1 : decide ((s.length : Int) ≤ k) = false := decide_eq_false (by omega)
  have hb := ba_lt hk
  have hbv := ba_at hk
  generalize hcc : (s[k]).toNat = c at ha
  have hcv : (((ByteArray.mk s.toArray)[k]'hb).toNat : Int) = (c : Nat) := by rw [hbv, hcc]
  have hc1 : (c : Int) < 128 := by omega
  have hmod : (c : Int) % 256 = c := by omega
  have hw1 : IntKind.i64.wrap (c : Int) = c := by rw [IntKind.wrap_i64]; omega
  clear hcc hbv
  go_enter Try.func78, Try.ntmps78
  go_wp2
  go_ret2
  exact ⟨rfl, rfl⟩

set_option maxHeartbeats 1600000 in
set_option maxRecDepth 100000 in
theorem uput_asc (w : World) (base : Nat) (v : Value) (bs : List UInt8) (r : Nat) (hv : Own w base v bs) (hb : base ≤ w.heap.size) (hl : bs.length ≤ 1000000) (hr : r < 128) :
    Calls Try.prog 92 #[v, .int .i64 r] w fun e w' => ∃ u, e = .returned u ∧ Own w' base u (bs ++ [UInt8.ofNat r]) ∧ Below base w w' := by
  have hr0 : decide ((r : Int) < 0) = false := decide_eq_false (by omega)
  have hr1 : decide ((1114111 : Int) < r) = false := decide_eq_false (by omega)
  have hr2 : decide ((55296 : Int) ≤ r) = false := decide_eq_false (by omega)
  have hr3 : (r : Int) < 128 := by omega
  have hx : (r : Int) % 256 = ((UInt8.ofNat r).toNat : Int) := by rw [UInt8.toNat_ofNat']; omega
  have hx2 : (r : Int) = ((UInt8.ofNat r).toNat : Int) := by rw [UInt8.toNat_ofNat']; omega
  have Hx := Lib.hid hx2
  have Hv := Lib.hid hv
  clear hx hx2 hv
  go_enter Try.func92, Try.ntmps92
  go_wp2_with (first | (at_builtin; refine wpList_append_bytes _ rfl (.tmp 39) (.tmp 42) rfl base _ bs rfl (Hv.out.ext (Ext.of_alloc _ _)) _ _ [UInt8.ofNat r] rfl (BS.one _ _ _ Hx.out) (by simp; omega) (by simp; omega) ?_; intro v2 w2 hown2 hg2 hat2) | go_in)
  go_ret
  exact ⟨_, rfl, hown2, ((Below.refl base w).alloc hb _).grown hg2 (by simp; omega) (own_ge Hv.out)⟩

set_option maxHeartbeats 1600000 in
set_option maxRecDepth 100000 in
theorem encode_asc (w : World) (v : Value) (r : Nat) (hv : SL w (Bw w) v [(r : Int)]) (hr : r < 128) :
    Calls Try.prog 80 #[v] w fun e w' => e = .returned (.string ⟨#[UInt8.ofNat r]⟩) ∧ Ext w w' := by
  obtain ⟨ad, d0, h6, had⟩ : ∃ ad, w.cell? ad = some (.int .i64 (r : Int)) ∧ I6 (r : Int) ∧ ∃ c, v = .slice (some ad) 1 c := by
    obtain ⟨A, c, rfl, _⟩ := hv.form
    obtain ⟨ad, cs, rfl, _, ⟨rfl, h6⟩, hc⟩ := hv.at_ (show 0 < [(r : Int)].length by simp)
    have := hc 0 _ rfl
    simp only [Rep.n, Nat.mul_one, Nat.add_zero, List.getElem_cons_zero] at this
    have ha : ad.add 0 = ad := by simp [Addr.add]
    rw [ha] at this
    exact ⟨ad, this, h6, c, rfl⟩
  obtain ⟨c, rfl⟩ := had
  clear hv
  go_enter Try.func80, Try.ntmps80
  go_wp2_with fail
  refine wp_loop_rounds 2 ?_
  rw [rounds_succ]
  go_wp2_with fail
  refine (uput_asc w w.heap.size _ [] r (Own.nil_ _ _) (Nat.le_refl _) (by simp) hr).mono ?_
  rintro e w1 ⟨u, rfl, ho, hx⟩
  go_wp2_with fail
  rw [rounds_succ]
  have c1 : (convert 25 9 u).run Try.prog w1 = .ok (.string ⟨#[UInt8.ofNat r]⟩) w1 := str_of_bs (Own.bs ho) _ rfl
  go_wp2
  go_ret
  exact ⟨rfl, hx⟩

set_option maxHeartbeats 1600000 in
set_option maxRecDepth 100000 in
theorem runes_asc (w : World) (s : List UInt8) (ha : Asc s) (hl : s.length ≤ 100000) :
    Calls Try.prog 67 #[.string ⟨s.toArray⟩] w fun e w' => ∃ v, e = .returned v ∧ OwnL w' w.heap.size 3 (fun _ => False) v (rns s) ∧ Ext w w' := by
  have hsz : (ByteArray.mk s.toArray).size = s.length := by show s.toArray.size = _; simp
  have Ha := Lib.hid ha
  clear ha
  go_enter Try.func67, Try.ntmps67
  go_wp2_with fail
  go_loopw [3, 4] (fun o i wr => ∃ k : Nat, i = .int .i64 k ∧ k ≤ s.length ∧ OwnL wr w.heap.size 3 (fun _ => False) o (rns (s.take k)) ∧ Ext w wr) (fun _ i _ => s.length - (intOf i).toNat)
  case atStart => exact ⟨0, rfl, Nat.zero_le _, OwnL.nil_ _ _ _ _, Below.refl _ _⟩
  case round =>
    obtain ⟨k, rfl, hk, hol, hx⟩ := hrel
    obtain ⟨Al, cl, rfl, hclo, hmo⟩ := hol.form
    have hsz2 := hx.size
    have hll : (rns (s.take k)).length = k := by rw [rns_len, List.length_take]; omega
    have Hol := Lib.hid hol
    have Hx := Lib.hid hx
    clear hol hx
    by_cases hlk : k < s.length
    · have hkl : (k : Int) < s.length := by omega
      have hch := Ha.out _ (List.getElem_mem hlk)
      have Htk : Hid (rns (s.take (k + 1)) = rns (s.take k) ++ [((s[k]).toNat : Int)]) := Lib.hid (by unfold rns; rw [List.take_succ_eq_append_getElem hlk, List.map_append]; rfl)
      generalize hc : (s[k]).toNat = c at hch Htk
      have hde := decode_asc wr s k hlk (by rw [hc]; exact hch)
      rw [hc] at hde
      have Hde := Lib.hid hde
      have h6 : I6 (c : Int) := I6.mk (by omega)
      clear hc hde
      go_wp2_with fail
      refine Hde.out.mono ?_
      rintro e wr ⟨rfl, rfl⟩
      generalize rns (s.take k) = LS at Hol hll Htk hclo
      have hLS : LS.length ≤ 100000 := by omega
      clear hll
      have hsv := SV.one_ wr #[.int .i64 c] 3 1 rfl
      have hreps : ∀ W : World, Reps (α := Int) W (fun k => False ∧ k < W.heap.size ∧ some k ≠ (Value.slice Al LS.length cl).ownBlock) [.int .i64 c] [(c : Int)] := fun W => Reps.single ⟨rfl, h6⟩
      have Hsv := Lib.hid hsv
      clear hsv
      go_wp2_with (at_builtin; go_loud (refine wpList_append_l _ rfl (.tmp 17) (.tmp 19) 50 rfl w.heap.size 3 (fun _ => False) (.int .i64 0) 8 Try.underlying50 info_int rfl (by decide) (.slice Al LS.length cl) LS rfl (Hol.out.ext (Ext.of_alloc wr _)) (wr.heap.size + 1) (.slice (some ⟨wr.heap.size, 0, none⟩) 1 1) [(c : Int)] [.int .i64 c] rfl Hsv.out (hreps _) (by simp; omega) (by omega) (by simp; omega) ?_; intro v6 w6 hown6 hg6 hat6; have hx6 : Ext w w6 := Below.grown (Ext.al Hx.out _) hg6 (by simp; omega) (fun j hj => Hol.out.ge j hj); have Hown6 := Lib.hid hown6; have Hx6 := Lib.hid hx6; clear hown6 hg6 hat6 hx6))
      exact ⟨⟨k + 1, rfl, by omega, by rw [Htk.out]; exact Hown6.out, Hx6.out⟩, by simp only [intOf]; omega⟩
    · have hkl : ¬(k : Int) < s.length := by omega
      have hol := Hol.out
      rw [List.take_of_length_le (by omega)] at hol ⊢
      have Hol2 := Lib.hid hol
      clear hol hll hclo
      go_wp2
      go_ret
      exact ⟨_, rfl, Hol2.out, Hx.out⟩
end Go.Proofs.Ytbnjhpknagkiaaa
