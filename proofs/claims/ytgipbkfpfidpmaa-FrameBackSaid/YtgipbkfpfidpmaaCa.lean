/-
  Contracts of crc.table, crc.Next, and of the reference's 'on' and Next.
  Conditions: rows of bytes of at most 100,000,000.
-/
import Derived.Test.YtgipbkfpfidpmaaMem
import Derived.Test.YtgipbkfpfidpmaaCp
import Derived.BigQuiet
import Derived.WalkSmall
namespace Go.Proofs.Ytgipbkfpfidpmaa
open Go.RowKit

theorem u32_wrap {n : Nat} (h : U32 n) : IntKind.u32.wrap (n : Int) = n := by
  have := h.lt
  rw [IntKind.wrap_u32']
  omega
theorem xor_w {a b : Nat} (ha : U32 a) (hb : U32 b) : bits .xor .u32 (a : Int) (b : Int) = ((a ^^^ b : Nat) : Int) := u32_xor_nat a b ha.lt hb.lt
theorem not_w {a : Nat} (ha : U32 a) : bits .xor .u32 IntKind.u32.max (a : Int) = (cnot a : Int) := by
  have ha' := ha.lt
  show IntKind.u32.wrap ((BitVec.ofInt 32 IntKind.u32.max ^^^ BitVec.ofInt 32 (a : Int)).toNat : Int) = _
  have h1 : BitVec.ofInt 32 IntKind.u32.max = BitVec.allOnes 32 := by decide
  rw [h1, BitVec.allOnes_xor, BitVec.toNat_not, ofInt_u32 a ha', IntKind.wrap_u32']
  unfold cnot
  omega
theorem half_w {y : Nat} (hy : U32 y) : (y : Int) / 2 % 4294967296 = ((y / 2 : Nat) : Int) := by
  have := hy.lt
  omega
theorem odd_w {y : Nat} (hy : U32 y) (h : y % 2 = 1) : bits .xor .u32 ((y : Int) / 2 % 4294967296) 3988292384 = (cst y : Int) := by
  rw [half_w hy, show (3988292384 : Int) = ((3988292384 : Nat) : Int) from rfl, xor_w (U32.mk (by have := hy.lt; omega)) (U32.mk (by decide))]
  unfold cst
  rw [if_pos h]
theorem even_w {y : Nat} (hy : U32 y) (h : ¬y % 2 = 1) : (y : Int) / 2 % 4294967296 = (cst y : Int) := by
  rw [half_w hy]
  unfold cst
  rw [if_neg h]
theorem and_w {y : Nat} (hy : U32 y) : bits .and .u32 (y : Int) 1 = ((y % 2 : Nat) : Int) := by
  have e := u32_and_nat y 1 hy.lt (by omega)
  have e2 : y &&& 1 = y % 2 := Nat.and_one_is_mod y
  rw [e2] at e
  exact e
theorem odd_p {y : Nat} (hy : U32 y) (h : y % 2 = 1) : bits .xor .u32 ((y : Int) / 2) 3988292384 = (cst y : Int) := by
  rw [show (y : Int) / 2 = ((y / 2 : Nat) : Int) from by omega, show (3988292384 : Int) = ((3988292384 : Nat) : Int) from rfl, xor_w (U32.mk (by have := hy.lt; omega)) (U32.mk (by decide))]
  unfold cst
  rw [if_pos h]
theorem even_p {y : Nat} (_hy : U32 y) (h : ¬y % 2 = 1) : (y : Int) / 2 = (cst y : Int) := by
  unfold cst
  rw [if_neg h]
  omega
theorem cstN_next {k y : Nat} (hk : k < 8) : cstN (8 - (k + 1)) (cst y) = cstN (8 - k) y := by
  rw [show 8 - k = 8 - (k + 1) + 1 from by omega]
  rfl
theorem u8x_w {a b : Nat} (ha : a < 256) (hb : b < 256) : bits .xor .u8 (a : Int) (b : Int) = ((a ^^^ b : Nat) : Int) := u8_xor_nat a b ha hb

set_option maxHeartbeats 1600000 in
set_option maxRecDepth 100000 in
theorem on_any (w : World) (s b : Nat) (hs : U32 s) (hb : b < 256) :
    Calls Try.prog 39 #[.int .u32 s, .int .u8 b] w fun e w' => e = .returned (.int .u32 (con s b)) ∧ w = w' := by
  have hx := xor_w hs (U32.mk (show b < _ by omega))
  have h32 := xor_32 hs (U32.mk (show b < _ by omega))
  go_enter Try.func39, Try.ntmps39
  go_wp2
  clear hx
  go_loop [0, 5] (fun x i => ∃ (k y : Nat), i = .int .i64 k ∧ k ≤ 8 ∧ x = .int .u32 y ∧ U32 y ∧ cstN (8 - k) y = con s b) (fun _ i => 8 - (intOf i).toNat)
  case atStart => exact ⟨0, s ^^^ b, rfl, by omega, rfl, h32, rfl⟩
  case round =>
    obtain ⟨k, y, rfl, hk, rfl, hy, heq⟩ := hrel
    have Heq := Lib.hid heq
    clear heq
    by_cases hlt : k < 8
    · by_cases ho : y % 2 = 1
      · have to : (((y : Int) % 2) == 1) = true := by rw [beq_iff_eq]; omega
        have Ho := Lib.hid ho
        clear ho
        go_wp2
        go_round
        case rel => exact ⟨k + 1, cst y, by go_num, by omega, congrArg (Value.int .u32) (odd_w hy Ho.out), cst_32 hy, by rw [cstN_next hlt]; exact Heq.out⟩
        case measure => simp [intOf]; omega
      · have to : (((y : Int) % 2) == 1) = false := by rw [beq_eq_false_iff_ne]; omega
        have Ho := Lib.hid ho
        clear ho
        go_wp2
        go_round
        case rel => exact ⟨k + 1, cst y, by go_num, by omega, congrArg (Value.int .u32) (even_w hy Ho.out), cst_32 hy, by rw [cstN_next hlt]; exact Heq.out⟩
        case measure => simp [intOf]; omega
    · have hE : con s b = y := by rw [← Heq.out, show 8 - k = 0 from by omega]; rfl
      have HE := Lib.hid hE
      clear hE
      go_wp2
      go_ret
      exact ⟨ret_int (by rw [HE.out]), rfl⟩

set_option maxHeartbeats 1600000 in
set_option maxRecDepth 100000 in
theorem rnext_any (w : World) (B : Nat) (v : Value) (s : Nat) (bs : List UInt8) (hs : U32 s) (hv : BS w B v bs) (hl : bs.length ≤ 100000000) :
    Calls Try.prog 36 #[.int .u32 s, v] w fun e w' => e = .returned (.int .u32 (cnext s bs)) ∧ w = w' := by
  obtain ⟨A, c, rfl, hc, hm, hnil, hr⟩ := hv
  clear hnil hm
  have hn := not_w hs
  have h32 := cnot_32 s
  go_enter Try.func36, Try.ntmps36
  go_wp2_with fail
  clear hn
  go_loop [0, 5] (fun x i => ∃ (k y : Nat), i = .int .i64 k ∧ k ≤ bs.length ∧ x = .int .u32 y ∧ U32 y ∧ cgo y (bs.drop k) = cgo (cnot s) bs) (fun _ i => bs.length - (intOf i).toNat)
  case atStart => exact ⟨0, cnot s, rfl, Nat.zero_le _, rfl, h32, rfl⟩
  case round =>
    obtain ⟨k, y, rfl, hk, rfl, hy, heq⟩ := hrel
    have Heq := Lib.hid heq
    clear heq
    by_cases hlt : k < bs.length
    · obtain ⟨ad, rfl, _, hcell⟩ := hr.2 (by omega)
      have hx := hcell k _ (bv_get bs k hlt)
      have hb := (bs[k]).toNat_lt
      have Hd := Lib.hid (List.drop_eq_getElem_cons hlt)
      have Hcell := Lib.hid hcell
      clear hcell hr
      generalize bs[k] = X at hx hb Hd
      go_wp2_with fail
      refine (on_any w y X.toNat hy hb).mono ?_
      rintro e w' ⟨rfl, rfl⟩
      go_wp2
      go_round
      case rel => exact ⟨k + 1, con y X.toNat, by go_num, by omega, rfl, con_32 hy hb, by rw [← Heq.out, Hd.out]; rfl⟩
      case measure => simp [intOf]; omega
    · have hE : cgo (cnot s) bs = y := by rw [← Heq.out, List.drop_eq_nil_of_le (by omega)]; rfl
      have HE := Lib.hid hE
      have hn := not_w hy
      clear hE
      go_wp2
      go_ret
      exact ⟨ret_int (by unfold cnext; rw [HE.out]), rfl⟩

/-! ### the table -/
/-- so many entries done -/
def tabTo (k : Nat) : Array Value := ((List.range 256).map fun j => if j < k then Value.int .u32 (cstN 8 j : Nat) else .int .u32 0).toArray
theorem tabTo_next (k : Nat) : (tabTo k).setIfInBounds k (.int .u32 (cstN 8 k : Nat)) = tabTo (k + 1) := by
  unfold tabTo
  apply Array.ext
  · simp
  · intro i h1 h2
    simp at h1 h2
    by_cases hik : k = i
    · subst hik
      simp
    · have : (i < k) = (i < k + 1) := by simp; omega
      simp [hik, this]
theorem tabTo_get {j : Nat} (hj : j < 256) : (tabTo 256)[j]? = some (.int .u32 (cstN 8 j : Nat)) := by
  unfold tabTo
  simp [hj]
theorem tab_zero (w : World) : (zeroValue 66).run Try.prog w = .ok (.agg (tabTo 0)) w := by kernel_rfl

set_option maxHeartbeats 1600000 in
set_option maxRecDepth 100000 in
theorem table_any (w : World) : Calls Try.prog 38 #[] w fun e w' => e = .returned (.pointer (some ⟨w.heap.size, 0, none⟩)) ∧ w.alloc (.cells (tabTo 256) 66) = w' := by
  have ha := tab_zero
  go_enter Try.func38, Try.ntmps38
  go_wp2
  clear ha
  go_loopw [5] (fun i wr => ∃ k : Nat, i = .int .i64 k ∧ k ≤ 256 ∧ wr = w.alloc (.cells (tabTo k) 66)) (fun i _ => 256 - (intOf i).toNat)
  case atStart => exact ⟨0, rfl, by omega, rfl⟩
  case round =>
    obtain ⟨k, rfl, hk, hwr⟩ := hrel
    have Hwr := Lib.hid hwr
    clear hwr
    by_cases hlt : k < 256
    · have hc : ∃ u, wr.cell? ⟨w.heap.size, k, none⟩ = some u := by
        rw [Hwr.out, World.cell?_alloc_at _ _ _ _ rfl]
        exact ⟨_, Array.getElem?_eq_getElem (show k < (tabTo k).size by simp [tabTo]; omega)⟩
      have hf : wr.frozen? ⟨w.heap.size, k, none⟩ = false := by
        rw [Hwr.out]
        exact World.frozen?_alloc_at _ _ _ _ rfl
      obtain ⟨u0, hc⟩ := hc
      go_wp2
      go_loop [3, 10] (fun x i => ∃ (j y : Nat), i = .int .i64 j ∧ j ≤ 8 ∧ x = .int .u32 y ∧ U32 y ∧ cstN (8 - j) y = cstN 8 k) (fun _ i => 8 - (intOf i).toNat)
      case atStart => exact ⟨0, k, rfl, by omega, rfl, U32.mk (by omega), rfl⟩
      case round =>
        obtain ⟨j, y, rfl, hj, rfl, hy, heq⟩ := hrel
        have Heq := Lib.hid heq
        clear heq
        by_cases hlt2 : j < 8
        · by_cases ho : y % 2 = 1
          · have to : (bits .and .u32 (y : Int) 1 == 1) = true := by rw [and_w hy]; rw [beq_iff_eq]; omega
            have Ho := Lib.hid ho
            clear ho
            go_wp2
            go_round
            case rel => exact ⟨j + 1, cst y, by go_num, by omega, congrArg (Value.int .u32) (odd_p hy Ho.out), cst_32 hy, by rw [cstN_next hlt2]; exact Heq.out⟩
            case measure => simp [intOf]; omega
          · have to : (bits .and .u32 (y : Int) 1 == 1) = false := by rw [and_w hy]; rw [beq_eq_false_iff_ne]; omega
            have Ho := Lib.hid ho
            clear ho
            go_wp2
            go_round
            case rel => exact ⟨j + 1, cst y, by go_num, by omega, congrArg (Value.int .u32) (even_p hy Ho.out), cst_32 hy, by rw [cstN_next hlt2]; exact Heq.out⟩
            case measure => simp [intOf]; omega
        · have hE : cstN 8 k = y := by rw [← Heq.out, show 8 - j = 0 from by omega]; rfl
          have HE := Lib.hid hE
          clear hE
          go_wp2
          go_roundw
          case rel =>
            refine ⟨k + 1, by go_num, by omega, ?_⟩
            rw [Hwr.out, World.setCell_alloc_at _ _ _ _ _ rfl, ← tabTo_next, HE.out]
          case measure => simp [intOf]; omega
    · have hk : k = 256 := by omega
      have Hk := Lib.hid hk
      clear hk
      go_wp2
      go_ret
      exact ⟨rfl, by rw [Hwr.out, Hk.out]⟩

set_option maxHeartbeats 1600000 in
set_option maxRecDepth 100000 in
theorem next_any (w : World) (B : Nat) (v : Value) (s : Nat) (bs : List UInt8) (hs : U32 s) (hv : BS w B v bs) (hB : B ≤ w.heap.size) (hl : bs.length ≤ 100000000) :
    Calls Try.prog 34 #[.int .u32 s, v] w fun e w' => e = .returned (.int .u32 (cnext s bs)) ∧ Ext w w' := by
  have hv := hv.ext hB (Ext.of_alloc w (.cells (tabTo 256) 66))
  obtain ⟨A, c, rfl, hc, hm, hnil, hr⟩ := hv
  clear hnil hm
  have hn := not_w hs
  have h32 := cnot_32 s
  go_enter Try.func34, Try.ntmps34
  go_wp2_with fail
  refine (table_any w).mono ?_
  rintro e w' ⟨rfl, hw'⟩
  rw [hw'] at hr
  have ht : ∀ j, j < 256 → w'.cell? ⟨w.heap.size, j, none⟩ = some (.int .u32 (cstN 8 j : Nat)) := by
    intro j hj
    rw [← hw', World.cell?_alloc_at _ _ _ _ rfl]
    exact tabTo_get hj
  have Hx := Lib.hid (hw' ▸ Ext.of_alloc w (.cells (tabTo 256) 66) : Ext w w')
  have Ht := Lib.hid ht
  clear hw' ht
  go_wp2_with fail
  clear hn
  go_loop [6, 14] (fun x i => ∃ (k y : Nat), i = .int .i64 k ∧ k ≤ bs.length ∧ x = .int .u32 y ∧ U32 y ∧ cgo y (bs.drop k) = cgo (cnot s) bs) (fun _ i => bs.length - (intOf i).toNat)
  case atStart => exact ⟨0, cnot s, rfl, Nat.zero_le _, rfl, h32, rfl⟩
  case round =>
    obtain ⟨k, y, rfl, hk, rfl, hy, heq⟩ := hrel
    have Heq := Lib.hid heq
    clear heq
    by_cases hlt : k < bs.length
    · obtain ⟨ad, rfl, _, hcell⟩ := hr.2 (by omega)
      have hx := hcell k _ (bv_get bs k hlt)
      have hb := (bs[k]).toNat_lt
      have Hd := Lib.hid (List.drop_eq_getElem_cons hlt)
      have Hcell := Lib.hid hcell
      clear hcell hr
      generalize bs[k] = X at hx hb Hd
      have hi : y % 256 ^^^ X.toNat < 256 := Nat.xor_lt_two_pow (n := 8) (Nat.mod_lt _ (by decide)) hb
      have hxx : bits .xor .u8 ((y : Int) % 256) (X.toNat : Int) = ((y % 256 ^^^ X.toNat : Nat) : Int) := u8x_w (Nat.mod_lt _ (by decide)) hb
      have htc := Ht.out _ hi
      obtain ⟨I, hI⟩ : ∃ I, I = y % 256 ^^^ X.toNat := ⟨_, rfl⟩
      rw [← hI] at hxx hi htc
      have HI := Lib.hid hI
      clear hI
      have hcon : con y X.toNat = cstN 8 I ^^^ y / 256 := by rw [con_table, HI.out]
      have Hcon := Lib.hid hcon
      have hI32 : U32 (cstN 8 I) := cstN_32 8 I (U32.mk (by omega))
      clear hcon
      go_wp2
      go_round
      case rel =>
        refine ⟨k + 1, con y X.toNat, by go_num, by omega, ?_, con_32 hy hb, by rw [← Heq.out, Hd.out]; rfl⟩
        rw [Hcon.out, ← xor_w hI32 (U32.mk (by have := hy.lt; omega))]
        rfl
      case measure => simp [intOf]; omega
    · have hE : cgo (cnot s) bs = y := by rw [← Heq.out, List.drop_eq_nil_of_le (by omega)]; rfl
      have HE := Lib.hid hE
      have hn := not_w hy
      clear hE
      go_wp2
      go_ret
      exact ⟨ret_int (by unfold cnext; rw [HE.out]), Hx.out⟩

end Go.Proofs.Ytgipbkfpfidpmaa
