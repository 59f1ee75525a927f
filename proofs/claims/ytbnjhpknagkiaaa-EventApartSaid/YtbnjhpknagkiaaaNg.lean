/-
  Contracts of the reference's more, row, Decode, Runes (chapter 01).
  Conditions: at most 1,000,000 bytes.
-/
import Derived.Test.YtbnjhpknagkiaaaNe
import Derived.Test.YtbnjhpknagkiaaaUc
namespace Go.Proofs.Ytbnjhpknagkiaaa
open Go.RowKit Go.Op

/-- so many bytes more of a rune -/
def rowS : Nat → Nat → List UInt8 → Option Nat
  | 0, n, _ => some n
  | _ + 1, _, [] => none
  | j + 1, n, x :: t => if x.toNat / 64 = 2 then rowS j (n * 64 + x.toNat % 64) t else none
def rowN (o : Option Nat) : Nat := o.getD 0
theorem decN_r2 {c : Nat} (t : List UInt8) (h2 : c / 32 = 6) : decN c t = match rowS 1 (c % 32) t with
    | some n => if 128 ≤ n then (n, 2) else (65533, 1)
    | none => (65533, 1) := by
  rcases t with _ | ⟨x, t⟩
  · rw [decN_s2 h2 (by simp)]; rfl
  · rw [decN_2 x t h2]
    by_cases h : x.toNat / 64 = 2
    · rw [rowS, if_pos h]
      by_cases h' : 128 ≤ d2 c x.toNat
      · rw [if_pos ⟨h, h'⟩]; exact (if_pos h').symm
      · rw [if_neg (fun e => h' e.2)]; exact (if_neg h').symm
    · rw [rowS, if_neg h, if_neg (fun e => h e.1)]
theorem decN_r3 {c : Nat} (t : List UInt8) (h3 : c / 16 = 14) : decN c t = match rowS 2 (c % 16) t with
    | some n => if 2048 ≤ n ∧ ¬(55296 ≤ n ∧ n ≤ 57343) then (n, 3) else (65533, 1)
    | none => (65533, 1) := by
  rcases t with _ | ⟨x, _ | ⟨y, t⟩⟩
  · rw [decN_s3 h3 (by simp)]; rfl
  · rw [decN_s3 h3 (by simp), rowS]
    by_cases h : x.toNat / 64 = 2
    · rw [if_pos h]; rfl
    · rw [if_neg h]
  · rw [decN_3 x y t h3, rowS]
    by_cases h : x.toNat / 64 = 2
    · rw [if_pos h, rowS]
      by_cases k : y.toNat / 64 = 2
      · rw [if_pos k]
        by_cases h' : 2048 ≤ d3 c x.toNat y.toNat ∧ ¬(55296 ≤ d3 c x.toNat y.toNat ∧ d3 c x.toNat y.toNat ≤ 57343)
        · rw [if_pos ⟨h, k, h'⟩]; exact (if_pos h').symm
        · rw [if_neg (fun e => h' e.2.2)]; exact (if_neg h').symm
      · rw [if_neg k, if_neg (fun e => k e.2.1)]
    · rw [if_neg h, if_neg (fun e => h e.1)]
theorem decN_r4 {c : Nat} (t : List UInt8) (h4 : c / 8 = 30) : decN c t = match rowS 3 (c % 8) t with
    | some n => if 65536 ≤ n ∧ n ≤ 1114111 then (n, 4) else (65533, 1)
    | none => (65533, 1) := by
  rcases t with _ | ⟨x, _ | ⟨y, _ | ⟨z, t⟩⟩⟩
  · rw [decN_s4 h4 (by simp)]; rfl
  · rw [decN_s4 h4 (by simp), rowS]
    by_cases h : x.toNat / 64 = 2
    · rw [if_pos h]; rfl
    · rw [if_neg h]
  · rw [decN_s4 h4 (by simp), rowS]
    by_cases h : x.toNat / 64 = 2
    · rw [if_pos h, rowS]
      by_cases k : y.toNat / 64 = 2
      · rw [if_pos k]; rfl
      · rw [if_neg k]
    · rw [if_neg h]
  · rw [decN_4 x y z t h4, rowS]
    by_cases h : x.toNat / 64 = 2
    · rw [if_pos h, rowS]
      by_cases k : y.toNat / 64 = 2
      · rw [if_pos k, rowS]
        by_cases l : z.toNat / 64 = 2
        · rw [if_pos l]
          by_cases h' : 65536 ≤ d4 c x.toNat y.toNat z.toNat ∧ d4 c x.toNat y.toNat z.toNat ≤ 1114111
          · rw [if_pos ⟨h, k, l, h'⟩]; exact (if_pos h').symm
          · rw [if_neg (fun e => h' e.2.2.2)]; exact (if_neg h').symm
        · rw [if_neg l, if_neg (fun e => l e.2.2.1)]
      · rw [if_neg k, if_neg (fun e => k e.2.1)]
    · rw [if_neg h, if_neg (fun e => h e.1)]

set_option maxHeartbeats 1600000 in
set_option maxRecDepth 100000 in
theorem rmore_any (w : World) (s : List UInt8) (k n : Nat) (_hl : s.length ≤ 1000000) (_hk : k ≤ 2000000) (hn : n ≤ 10000000) :
    Calls Try.prog 95 #[.string ⟨s.toArray⟩, .int .i64 k, .int .i64 n] w fun e w' => e = .returned (.tuple #[.int .i64 (rowN (rowS 1 n (s.drop k)) : Int), .bool (rowS 1 n (s.drop k)).isSome]) ∧ w' = w := by
  have hsz : (ByteArray.mk s.toArray).size = s.length := by show s.toArray.size = _; simp
  by_cases hlk : k < s.length
  · have hk1 : decide ((s.length : Int) ≤ k) = false := decide_eq_false (by omega)
    have hb := ba_lt hlk
    have hbv := ba_at hlk
    have hlt := (s[k]).toNat_lt
    rw [List.drop_eq_getElem_cons hlk, rowS]
    generalize hcc : (s[k]).toNat = c at hlt
    have hcv : (((ByteArray.mk s.toArray)[k]'hb).toNat : Int) = (c : Nat) := by rw [hbv, hcc]
    by_cases hc : c / 64 = 2
    · have t1 : (((c : Int) / 64) != 2) = false := by simp; omega
      have hr : Hid (rowN (if c / 64 = 2 then rowS 0 (n * 64 + c % 64) (s.drop (k + 1)) else none) = n * 64 + c % 64 ∧ (if c / 64 = 2 then rowS 0 (n * 64 + c % 64) (s.drop (k + 1)) else none).isSome = true) := Lib.hid (by rw [if_pos hc]; exact ⟨rfl, rfl⟩)
      generalize (if c / 64 = 2 then rowS 0 (n * 64 + c % 64) (s.drop (k + 1)) else none) = o at hr ⊢
      clear hcc hbv hc
      go_enter Try.func95, Try.ntmps95
      go_wp2
      go_ret2
      exact ⟨by rw [hr.out.1, hr.out.2]; congr 3, rfl⟩
    · have t1 : (((c : Int) / 64) != 2) = true := by rw [bne_iff_ne]; omega
      have hr : Hid (rowN (if c / 64 = 2 then rowS 0 (n * 64 + c % 64) (s.drop (k + 1)) else none) = 0 ∧ (if c / 64 = 2 then rowS 0 (n * 64 + c % 64) (s.drop (k + 1)) else none).isSome = false) := Lib.hid (by rw [if_neg hc]; exact ⟨rfl, rfl⟩)
      generalize (if c / 64 = 2 then rowS 0 (n * 64 + c % 64) (s.drop (k + 1)) else none) = o at hr ⊢
      clear hcc hbv hc
      go_enter Try.func95, Try.ntmps95
      go_wp2
      go_ret2
      exact ⟨by rw [hr.out.1, hr.out.2]; rfl, rfl⟩
  · have hk1 : decide ((s.length : Int) ≤ k) = true := decide_eq_true (by omega)
    rw [List.drop_of_length_le (by omega)]
    go_enter Try.func95, Try.ntmps95
    go_wp2
    go_ret2
    exact ⟨rfl, rfl⟩
theorem rowS_add : ∀ (i j n : Nat) (t : List UInt8), rowS (i + j) n t = match rowS i n t with
    | some m => rowS j m (t.drop i)
    | none => none
  | 0, j, n, t => by rw [Nat.zero_add, List.drop_zero]; rfl
  | i + 1, j, n, [] => by rw [show i + 1 + j = (i + j) + 1 by omega, rowS, rowS]
  | i + 1, j, n, x :: t => by
    rw [show i + 1 + j = (i + j) + 1 by omega, rowS, rowS]
    by_cases h : x.toNat / 64 = 2
    · rw [if_pos h, if_pos h, rowS_add i j, List.drop_succ_cons]
    · rw [if_neg h, if_neg h]
theorem rowS_lt (n : Nat) (t : List UInt8) (m : Nat) (h : rowS 1 n t = some m) : m < n * 64 + 64 := by
  rcases t with _ | ⟨x, t⟩
  · cases h
  · rw [rowS] at h
    split at h
    · injection h with h
      omega
    · cases h

set_option maxHeartbeats 1600000 in
set_option maxRecDepth 100000 in
theorem rrow_any (w : World) (s : List UInt8) (k n z : Nat) (hl : s.length ≤ 1000000) (hk : k < s.length) (hn : n < 32) (hz1 : 2 ≤ z) (hz : z ≤ 4) :
    Calls Try.prog 88 #[.string ⟨s.toArray⟩, .int .i64 k, .int .i64 n, .int .i64 z] w fun e w' => e = .returned (.tuple #[.int .i64 (rowN (rowS (z - 1) n (s.drop (k + 1))) : Int), .bool (rowS (z - 1) n (s.drop (k + 1))).isSome]) ∧ w' = w := by
  go_enter Try.func88, Try.ntmps88
  go_wp2_with fail
  go_loopw [2, 10] (fun nv iv wr => ∃ (i m : Nat), nv = .int .i64 m ∧ iv = .int .i64 i ∧ (m < 32 ∧ i = 1 ∨ m < 2048 ∧ i = 2 ∨ m < 131072 ∧ i = 3 ∨ m < 8388608 ∧ i = 4) ∧ i ≤ z ∧ rowS (z - 1) n (s.drop (k + 1)) = rowS (z - i) m (s.drop (k + i)) ∧ wr = w) (fun _ iv _ => z - (intOf iv).toNat)
  case atStart => exact ⟨1, n, rfl, rfl, .inl ⟨hn, rfl⟩, by omega, rfl, rfl⟩
  case round =>
    obtain ⟨i, m, rfl, rfl, hb, hiz, hrow, rfl⟩ := hrel
    have hm : m ≤ 10000000 := by omega
    have hi4 : i ≤ 4 := by omega
    have Hrow := Lib.hid hrow
    have Hb := Lib.hid hb
    clear hrow hb
    by_cases hlt : i < z
    · have hlti : (i : Int) < z := by omega
      have hat := rowS_add 1 (z - i - 1) m (s.drop (k + i))
      rw [show 1 + (z - i - 1) = z - i by omega, List.drop_drop] at hat
      have hlt2 := rowS_lt m (s.drop (k + i))
      obtain ⟨q, hq⟩ : ∃ q, q = k + i := ⟨_, rfl⟩
      have hqi : (k : Int) + i = (q : Int) := by omega
      have hq6 : q ≤ 2000000 := by omega
      have hmo := rmore_any wr s q m hl hq6 hm
      rw [hq] at hmo
      have hmo2 : Calls Try.prog 95 #[.string ⟨s.toArray⟩, .int .i64 q, .int .i64 m] wr fun e w' => e = .returned (.tuple #[.int .i64 (rowN (rowS 1 m (s.drop (k + i))) : Int), .bool (rowS 1 m (s.drop (k + i))).isSome]) ∧ w' = wr := by rw [hq]; exact hmo
      cases ho : rowS 1 m (s.drop (k + i)) with
      | none =>
        rw [ho] at hmo2 hat
        have hno : rowS (z - 1) n (s.drop (k + 1)) = none := by rw [Hrow.out, hat]
        have Hno := Lib.hid hno
        have Hmo := Lib.hid hmo2
        clear hno hmo hmo2 hat ho hlt2 hq
        go_wp2_with fail
        refine Hmo.out.mono ?_
        rintro e w1 ⟨rfl, rfl⟩
        go_wp2
        go_ret2
        exact ⟨by rw [Hno.out]; rfl, rfl⟩
      | some m' =>
        rw [ho] at hmo2 hat
        have hml := hlt2 m' ho
        have hyes : rowS (z - 1) n (s.drop (k + 1)) = rowS (z - (i + 1)) m' (s.drop (k + (i + 1))) := by
          rw [Hrow.out, hat, show z - (i + 1) = z - i - 1 by omega, show k + (i + 1) = k + i + 1 by omega]
        have Hyes := Lib.hid hyes
        have Hmo := Lib.hid hmo2
        have Hml := Lib.hid hml
        clear hyes hmo hmo2 hat ho hlt2 hq hml
        go_wp2_with fail
        refine Hmo.out.mono ?_
        rintro e w1 ⟨rfl, rfl⟩
        go_wp2
        refine ⟨⟨i + 1, m', rfl, by go_num, by have := Hb.out; have := Hml.out; omega, by omega, Hyes.out, trivial⟩, by simp only [intOf]; omega⟩
    · have hlti : ¬(i : Int) < z := by omega
      obtain rfl : i = z := by omega
      have hfin : rowS (i - 1) n (s.drop (k + 1)) = some m := by rw [Hrow.out, Nat.sub_self]; rfl
      have Hfin := Lib.hid hfin
      clear hfin
      go_wp2
      go_ret2
      exact ⟨by rw [Hfin.out]; rfl, rfl⟩

set_option maxHeartbeats 3200000 in
set_option maxRecDepth 100000 in
theorem rdecode_any (w : World) (s : List UInt8) (k : Nat) (hk : k < s.length) (hl : s.length ≤ 1000000) :
    Calls Try.prog 73 #[.string ⟨s.toArray⟩, .int .i64 k] w fun e w' => e = .returned (.tuple #[.int .i64 ((decN (s[k]).toNat (s.drop (k + 1))).1 : Int), .int .i64 ((decN (s[k]).toNat (s.drop (k + 1))).2 : Int)]) ∧ w' = w := by
  have hsz : (ByteArray.mk s.toArray).size = s.length := by show s.toArray.size = _; simp
  have hk0 : decide ((k : Int) < 0) = false := decide_eq_false (by omega)
  have hk1 : decide ((s.length : Int) ≤ k) = false := decide_eq_false (by omega)
  have hb := ba_lt hk
  have hbv := ba_at hk
  have hlt := (s[k]).toNat_lt
  have hrow := fun n z => rrow_any w s k n z hl hk
  generalize hcc : (s[k]).toNat = c at hlt
  have hcv : (((ByteArray.mk s.toArray)[k]'hb).toNat : Int) = (c : Nat) := by rw [hbv, hcc]
  have hr2 := decN_r2 (c := c) (s.drop (k + 1))
  have hr3 := decN_r3 (c := c) (s.drop (k + 1))
  have hr4 := decN_r4 (c := c) (s.drop (k + 1))
  have hr1 := decN_asc (c := c) (s.drop (k + 1))
  have hr0 := decN_none (c := c) (s.drop (k + 1))
  generalize decN c (s.drop (k + 1)) = R at hr0 hr1 hr2 hr3 hr4 ⊢
  clear hcc hbv
  have HR := Lib.hid hrow
  have H0 := Lib.hid hr0
  have H1 := Lib.hid hr1
  have H2 := Lib.hid hr2
  have H3 := Lib.hid hr3
  have H4 := Lib.hid hr4
  clear hrow hr0 hr1 hr2 hr3 hr4
  by_cases h1 : c < 128
  · have hc1 : (c : Int) < 128 := by omega
    have hres := Lib.hid (H1.out h1)
    go_enter Try.func73, Try.ntmps73
    go_wp2
    go_ret2
    exact ⟨by rw [hres.out]; rfl, rfl⟩
  have hc1 : ¬(c : Int) < 128 := by omega
  by_cases h2 : c / 32 = 6
  · have t2 : (((c : Int) / 32) == 6) = true := by rw [beq_iff_eq]; omega
    have t3 : (((c : Int) / 16) == 14) = false := by rw [beq_eq_false_iff_ne]; omega
    have t4 : (((c : Int) / 8) == 30) = false := by rw [beq_eq_false_iff_ne]; omega
    have hC := HR.out (c % 32) 2 (by omega) (by omega) (by omega)
    have hres := H2.out h2
    rw [show 2 - 1 = 1 from rfl] at hC
    clear h2
    cases ho : rowS 1 (c % 32) (s.drop (k + 1)) with
    | none =>
      rw [ho] at hC hres
      have HC := Lib.hid hC
      have Hres := Lib.hid hres
      clear hC hres ho
      go_enter Try.func73, Try.ntmps73
      go_wp2_with fail
      refine HC.out.mono ?_
      rintro e w1 ⟨rfl, rfl⟩
      go_wp2
      go_ret2
      exact ⟨by rw [Hres.out]; rfl, rfl⟩
    | some d =>
      rw [ho] at hC hres
      have HC := Lib.hid hC
      clear hC ho
      by_cases hd : 128 ≤ d
      · have hdi : decide ((128 : Int) ≤ d) = true := decide_eq_true (by omega)
        have Hres := Lib.hid (hres.trans (if_pos hd))
        clear hres hd
        go_enter Try.func73, Try.ntmps73
        go_wp2_with fail
        refine HC.out.mono ?_
        rintro e w1 ⟨rfl, rfl⟩
        simp only [rowN, Option.getD_some, Option.isSome_some]
        go_wp2
        go_ret2
        exact ⟨by rw [Hres.out]; rfl, rfl⟩
      · have hdi : decide ((128 : Int) ≤ d) = false := decide_eq_false (by omega)
        have Hres := Lib.hid (hres.trans (if_neg hd))
        clear hres hd
        go_enter Try.func73, Try.ntmps73
        go_wp2_with fail
        refine HC.out.mono ?_
        rintro e w1 ⟨rfl, rfl⟩
        simp only [rowN, Option.getD_some, Option.isSome_some]
        go_wp2
        go_ret2
        exact ⟨by rw [Hres.out]; rfl, rfl⟩
  have t2 : (((c : Int) / 32) == 6) = false := by rw [beq_eq_false_iff_ne]; omega
  by_cases h3 : c / 16 = 14
  · have t3 : (((c : Int) / 16) == 14) = true := by rw [beq_iff_eq]; omega
    have t4 : (((c : Int) / 8) == 30) = false := by rw [beq_eq_false_iff_ne]; omega
    have hC := HR.out (c % 16) 3 (by omega) (by omega) (by omega)
    have hres := H3.out h3
    rw [show 3 - 1 = 2 from rfl] at hC
    clear h3 h2
    cases ho : rowS 2 (c % 16) (s.drop (k + 1)) with
    | none =>
      rw [ho] at hC hres
      have HC := Lib.hid hC
      have Hres := Lib.hid hres
      clear hC hres ho
      go_enter Try.func73, Try.ntmps73
      go_wp2_with fail
      refine HC.out.mono ?_
      rintro e w1 ⟨rfl, rfl⟩
      go_wp2
      go_ret2
      exact ⟨by rw [Hres.out]; rfl, rfl⟩
    | some d =>
      rw [ho] at hC hres
      have HC := Lib.hid hC
      clear hC ho
      obtain ⟨D, hD⟩ : ∃ D : Int, D = (rowN (some d) : Int) := ⟨_, rfl⟩
      rw [← hD] at HC
      have HD : Hid (D = (d : Int)) := Lib.hid hD
      have hD2 : D = (d : Int) := hD
      clear hD
      by_cases hd : 2048 ≤ d ∧ ¬(55296 ≤ d ∧ d ≤ 57343)
      · have Hres := Lib.hid (hres.trans (if_pos hd))
        have hd0 : decide ((2048 : Int) ≤ D) = true := decide_eq_true (by omega)
        have hd1 : decide (D < 55296) = true ∨ (decide (D < 55296) = false ∧ decide ((57343 : Int) < D) = true) := by
          by_cases h : d < 55296
          · exact .inl (decide_eq_true (by omega))
          · exact .inr ⟨decide_eq_false (by omega), decide_eq_true (by omega)⟩
        clear hres hd hD2
        rcases hd1 with hd1 | ⟨hd1, hd2⟩
        all_goals
          go_enter Try.func73, Try.ntmps73
          go_wp2_with fail
          refine HC.out.mono ?_
          rintro e w1 ⟨rfl, rfl⟩
          simp only [Option.isSome_some]
          go_wp2
          go_ret2
          exact ⟨by rw [Hres.out, HD.out]; rfl, rfl⟩
      · have Hres := Lib.hid (hres.trans (if_neg hd))
        have hd1 : decide ((2048 : Int) ≤ D) = false ∨ (decide ((2048 : Int) ≤ D) = true ∧ decide (D < 55296) = false ∧ decide ((57343 : Int) < D) = false) := by
          by_cases h : 2048 ≤ d
          · exact .inr ⟨decide_eq_true (by omega), decide_eq_false (by omega), decide_eq_false (by omega)⟩
          · exact .inl (decide_eq_false (by omega))
        clear hres hd hD2
        rcases hd1 with hd1 | ⟨hd1, hd2, hd3⟩
        all_goals
          go_enter Try.func73, Try.ntmps73
          go_wp2_with fail
          refine HC.out.mono ?_
          rintro e w1 ⟨rfl, rfl⟩
          simp only [Option.isSome_some]
          go_wp2
          go_ret2
          exact ⟨by rw [Hres.out]; rfl, rfl⟩
  have t3 : (((c : Int) / 16) == 14) = false := by rw [beq_eq_false_iff_ne]; omega
  by_cases h4 : c / 8 = 30
  · have t4 : (((c : Int) / 8) == 30) = true := by rw [beq_iff_eq]; omega
    have hC := HR.out (c % 8) 4 (by omega) (by omega) (by omega)
    have hres := H4.out h4
    rw [show 4 - 1 = 3 from rfl] at hC
    clear h4 h3 h2
    cases ho : rowS 3 (c % 8) (s.drop (k + 1)) with
    | none =>
      rw [ho] at hC hres
      have HC := Lib.hid hC
      have Hres := Lib.hid hres
      clear hC hres ho
      go_enter Try.func73, Try.ntmps73
      go_wp2_with fail
      refine HC.out.mono ?_
      rintro e w1 ⟨rfl, rfl⟩
      go_wp2
      go_ret2
      exact ⟨by rw [Hres.out]; rfl, rfl⟩
    | some d =>
      rw [ho] at hC hres
      have HC := Lib.hid hC
      clear hC ho
      by_cases hd : 65536 ≤ d ∧ d ≤ 1114111
      · have Hres := Lib.hid (hres.trans (if_pos hd))
        obtain ⟨D, hD⟩ : ∃ D : Int, D = (rowN (some d) : Int) := ⟨_, rfl⟩
        rw [← hD] at HC
        have HD : Hid (D = (d : Int)) := Lib.hid hD
        have hD2 : D = (d : Int) := hD
        have hd0 : decide ((65536 : Int) ≤ D) = true := decide_eq_true (by omega)
        have hd1 : decide (D ≤ 1114111) = true := decide_eq_true (by omega)
        clear hres hd hD hD2
        go_enter Try.func73, Try.ntmps73
        go_wp2_with fail
        refine HC.out.mono ?_
        rintro e w1 ⟨rfl, rfl⟩
        simp only [Option.isSome_some]
        go_wp2
        go_ret2
        exact ⟨by rw [Hres.out, HD.out]; rfl, rfl⟩
      · have Hres := Lib.hid (hres.trans (if_neg hd))
        obtain ⟨D, hD⟩ : ∃ D : Int, D = (rowN (some d) : Int) := ⟨_, rfl⟩
        rw [← hD] at HC
        have hD2 : D = (d : Int) := hD
        have hd1 : decide ((65536 : Int) ≤ D) = false ∨ (decide ((65536 : Int) ≤ D) = true ∧ decide (D ≤ 1114111) = false) := by
          by_cases h : 65536 ≤ D
          · exact .inr ⟨decide_eq_true (by omega), decide_eq_false (by omega)⟩
          · exact .inl (decide_eq_false (by omega))
        clear hres hd hD hD2
        rcases hd1 with hd1 | ⟨hd1, hd2⟩
        all_goals
          go_enter Try.func73, Try.ntmps73
          go_wp2_with fail
          refine HC.out.mono ?_
          rintro e w1 ⟨rfl, rfl⟩
          simp only [Option.isSome_some]
          go_wp2
          go_ret2
          exact ⟨by rw [Hres.out]; rfl, rfl⟩
  · have t4 : (((c : Int) / 8) == 30) = false := by rw [beq_eq_false_iff_ne]; omega
    have Hres := Lib.hid (H0.out h1 h2 h3 h4)
    clear h2 h3 h4
    go_enter Try.func73, Try.ntmps73
    go_wp2
    go_ret2
    exact ⟨by rw [Hres.out]; rfl, rfl⟩
end Go.Proofs.Ytbnjhpknagkiaaa
