/-
  Contract of event.based's iterator.
  Conditions: at most 16 fields, texts of at most 4096 bytes.
-/
import Derived.Test.YtbnjhpknagkiaaaUe
import Derived.Test.YtbnjhpknagkiaaaRl
import Derived.Test.YtbnjhpknagkiaaaEc
namespace Go.Proofs.Ytbnjhpknagkiaaa
open Go.RowKit Go.Op

/-- blocks of fields stay -/
def KpF (W W' : World) : Prop := ∀ (k : Nat) (cs : Array Value) (f : Nat × Nat), W.heap[k]? = some (Obj.cells cs 59 f) → W'.heap[k]? = some (Obj.cells cs 59 f)
theorem KpF.trans {A B C : World} (h : KpF A B) (k : KpF B C) : KpF A C := fun i cs f e => k i cs f (h i cs f e)
theorem KpF.of_ext {W W' : World} (h : Ext W W') : KpF W W' := fun i _ _ e => (h.block i (Array.getElem?_eq_some_iff.1 e).1).trans e
theorem KpF.refl (W : World) : KpF W W := fun _ _ _ e => e
theorem KpF.put {W : World} {l : Nat} {o : Obj} (o' : Obj) (hl : W.heap[l]? = some o) (ho : o.isCells = false) : KpF W (W.putObj l o') := fun i cs f e => by
  have hne : i ≠ l := fun h => by
    subst h
    rw [hl] at e
    injection e with e
    subst e
    cases ho
  exact (World.putObj_heap_other hne).trans e
theorem splR_len : ∀ (l cur : List Int), (splR cur l).length ≤ l.length + 1
  | [], cur => by
    unfold splR
    split <;> simp
  | r :: l, cur => by
    unfold splR
    split
    · have := splR_len l (cur ++ [r])
      simp only [List.length_cons]
      omega
    · split
      · have := splR_len l []
        simp only [List.length_cons]
        omega
      · have := splR_len l []
        simp only [List.length_cons]
        omega
/-- how many words a text has -/
def nTok (s : List UInt8) : Nat := (toksR (rns s)).length
theorem nTok_le (s : List UInt8) : nTok s ≤ s.length + 1 := by
  have := splR_len (rns s) []
  have := rns_le s
  unfold nTok toksR
  rw [List.length_map]
  omega
/-- where the words of the next field begin -/
def basN : List Fld → Nat
  | [] => 0
  | f :: l => 64 + nTok f.2.b + basN l
theorem basN_append : ∀ l m : List Fld, basN (l ++ m) = basN l + basN m
  | [], _ => by simp [basN]
  | f :: l, m => by simp only [List.cons_append, basN, basN_append l m]; omega
theorem basN_le : ∀ (l : List Fld) (c : Nat), (∀ f ∈ l, f.2.b.length ≤ c) → basN l ≤ l.length * (c + 65)
  | [], _, _ => by simp [basN]
  | f :: l, c, h => by
    have h1 := basN_le l c fun x hx => h x (by simp [hx])
    have h2 := nTok_le f.2.b
    have h3 := h f (by simp)
    simp only [basN, List.length_cons, Nat.add_mul]
    omega

set_option maxHeartbeats 400000 in
theorem based_any (w : World) (a : Int) (A : Option Addr) (n c : Nat) :
    Calls Try.prog 47 #[.agg #[.int .i64 a, .slice A n c]] w fun e w' => e = .returned (.func (.func 66) #[] #[.pointer (some ⟨w.heap.size, 0, none⟩)]) ∧ w' = w.alloc (.cells #[.int .i64 a, .slice A n c] 40) := by
  go_enter Try.func47, Try.ntmps47
  go_wp2
  go_ret
  exact ⟨rfl, rfl⟩

set_option maxHeartbeats 1600000 in
set_option maxRecDepth 100000 in
theorem based1_in (J : Nat → World → Prop) (l be n0 : Nat) (A : Option Addr) (c : Nat) (fs : List Fld) (hlen : fs.length ≤ 16) (htx : ∀ f ∈ fs, f.2.b.length ≤ 4096)
    (hbox : ∀ k W, J k W → W.cell? ⟨be, 1, none⟩ = some (.slice A fs.length c) ∧ SL W (· < n0) (.slice A fs.length c) fs) (hJx : ∀ k W W', J k W → Ext W W' → J k W')
    (hY : ∀ k (h : k < fs.length) W1, J k W1 → YieldAt Fence.wide (2 - 1) Try.prog l #[.int .i64 (basN (fs.take k) : Nat), .agg #[.string ⟨(fs[k]).1.b.toArray⟩, .string ⟨(fs[k]).2.b.toArray⟩]] W1 fun e W' => e = .returned (.bool true) ∧ J (k + 1) W' ∧ KpF W1 W') (W : World) (h0 : J 0 W) :
    CallsIn Fence.wide 2 Try.prog 66 #[.func (.yield l) #[] #[], .pointer (some ⟨be, 0, none⟩)] W fun e W' => (∃ v, e = .returned v) ∧ J fs.length W' := by
  refine callsIn_of_wp Try.func66 rfl trivial ?_ rfl
  simp only [Try.ntmps66, List.size_toArray, List.length_cons, List.length_nil, Nat.reduceAdd, Nat.reduceSub, Array.replicate_succ, Array.replicate_zero, List.push_toArray, List.append_toArray, List.nil_append, List.cons_append]
  have Hbox := Lib.hid hbox
  have HJx := Lib.hid hJx
  have HY := Lib.hid hY
  have Htx := Lib.hid htx
  obtain ⟨hc0, _⟩ := hbox 0 W h0
  clear hbox hJx hY htx
  gi_wp2_with fail
  gi_loopw [3, 9] (fun b i wr => ∃ k : Nat, i = .int .i64 k ∧ k ≤ fs.length ∧ b = .int .i64 (basN (fs.take k) : Nat) ∧ J k wr) (fun _ i _ => fs.length - (intOf i).toNat)
  case atStart => exact ⟨0, rfl, Nat.zero_le _, rfl, h0⟩
  case round =>
    obtain ⟨k, rfl, hk, rfl, hj⟩ := hrel
    obtain ⟨_, hsl⟩ := Hbox.out k wr hj
    have HJ := Lib.hid hj
    clear hj
    by_cases hlk : k < fs.length
    · have hkl : (k : Int) < fs.length := by omega
      obtain ⟨ad, rfl, _, d0, d1, b0, b1⟩ := hsl.fld_at hlk
      have hJ1 := HJx.out k _ _ HJ.out (Ext.of_alloc wr (.cells #[.string ⟨(fs[k]).1.b.toArray⟩, .string ⟨(fs[k]).2.b.toArray⟩] 59))
      obtain ⟨fn, tmps, assign, body, hy, hR⟩ := HY.out k hlk _ hJ1
      have hl4 := Htx.out _ (List.getElem_mem hlk)
      have hble := basN_le (fs.take k) 4096 fun f hf => Htx.out f (List.mem_of_mem_take hf)
      rw [List.length_take] at hble
      have hble2 : basN (fs.take k) ≤ 100000 := by
        have : min k fs.length * (4096 + 65) ≤ 16 * 4161 := Nat.mul_le_mul (by omega) (by omega)
        omega
      have hstep : basN (fs.take (k + 1)) = basN (fs.take k) + (64 + nTok (fs[k]).2.b) := by
        rw [List.take_succ_eq_append_getElem hlk, basN_append]
        simp [basN]
      have hnt := nTok_le (fs[k]).2.b
      generalize fs[k] = F at d0 d1 b0 b1 hy hR hl4 hstep hnt hJ1
      obtain ⟨⟨nm⟩, ⟨tx⟩⟩ := F
      dsimp only at d0 d1 b0 b1 hy hR hl4 hstep hnt hJ1
      generalize basN (fs.take k) = b at hy hR hble2 hstep
      have HR := Lib.hid hR
      have Hstep := Lib.hid hstep
      have hblk := heap_alloc_new wr (.cells #[.string ⟨nm.toArray⟩, .string ⟨tx.toArray⟩] 59)
      clear hR hstep hble hJ1
      gi_wp2
      refine HR.out.mono ?_
      rintro e W3 ⟨rfl, hJ3, hkp⟩
      have h3 := hkp _ _ _ hblk
      have e1 : W3.cell? ⟨wr.heap.size, 1, none⟩ = some (.string ⟨tx.toArray⟩) := by simp [World.cell?, h3]
      have HJ3 := Lib.hid hJ3
      clear hJ3 hkp h3
      gi_wp2_with fail
      refine ⟨trivial, callsIn_wide.2 ((tokens_any W3 tx (by omega)).mono ?_)⟩
      rintro e W4 ⟨u, rfl, hu, hx4⟩
      have hJ4 := HJx.out _ _ _ HJ3.out hx4
      obtain ⟨Au, cu, rfl, _⟩ := hu.form
      have hul : (tokI (toksR (rns tx))).length = nTok tx := tokI_len _
      rw [hul]
      have HJ4 := Lib.hid hJ4
      clear hu hul hx4 hJ4
      gi_wp2
      exact ⟨⟨k + 1, rfl, by omega, congrArg (Value.int .i64) (by rw [Hstep.out]; omega), HJ4.out⟩, by simp only [intOf]; omega⟩
    · have hlt' : ¬(k : Int) < fs.length := by omega
      obtain rfl : k = fs.length := by omega
      gi_wp2
      go_end0
      exact ⟨⟨_, rfl⟩, HJ.out⟩
end Go.Proofs.Ytbnjhpknagkiaaa
