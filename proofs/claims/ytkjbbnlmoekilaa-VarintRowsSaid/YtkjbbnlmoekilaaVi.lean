/-
  Contracts of varint.GetAll, varint.PutAll, their references, and of the reference's SameInts.
  Conditions: rows of bytes of at most 900,000, of ints of at most 1,000.
-/
import Derived.Test.YtkjbbnlmoekilaaVf
import Derived.Test.YtkjbbnlmoekilaaVq
import Derived.Test.YtkjbbnlmoekilaaSv
import Derived.BigQuiet
namespace Go.Proofs.Ytkjbbnlmoekilaa
open Go.RowKit

/-- rows of whole numbers out of bytes: so many are still to come, these came -/
def vaGo : Nat → List UInt8 → List Int → List Int × List UInt8 × Nat
  | 0, bs, acc => (acc, bs, 0)
  | n + 1, bs, acc => if vgE bs = 0 then vaGo n (vgRest bs) (acc ++ [viN bs]) else ([], [], vgE bs)
/-- GetAll's answer -/
def vaAll (n : Int) (bs : List UInt8) : List Int × List UInt8 × Nat := if n < 0 then ([], [], 1) else vaGo n.toNat bs []
theorem vgRest_lt {bs : List UInt8} (h : vgE bs = 0) : (vgRest bs).length < bs.length := by
  have h1 := congrArg List.length (vg_back h)
  have h2 := enc_pos (vgN bs)
  rw [List.length_append] at h1
  omega
/-- the bytes of a row of whole numbers -/
def encAll (zs : List Int) : List UInt8 := zs.flatMap fun z => enc (zig z)
theorem encAll_snoc (zs : List Int) (z : Int) : encAll (zs ++ [z]) = encAll zs ++ enc (zig z) := by simp [encAll]
theorem encAll_len : ∀ (zs : List Int), (∀ z ∈ zs, I64 z) → (encAll zs).length ≤ 10 * zs.length
  | [], _ => by simp [encAll]
  | z :: zs, h => by
    have h1 := encAll_len zs fun z hz => h z (List.mem_cons_of_mem _ hz)
    have h2 := enc_len10 (zig_64 (h z List.mem_cons_self))
    simp only [encAll, List.flatMap_cons, List.length_append, List.length_cons] at h1 ⊢
    omega
theorem take_snoc {α : Type} (l : List α) (k : Nat) (h : k < l.length) : l.take (k + 1) = l.take k ++ [l[k]] := by
  rw [List.take_succ_eq_append_getElem h]
theorem ret_all {vl r : Value} {a b : Int} (h : a = b) : Ending.returned (.tuple #[vl, r, .int .i64 a]) = .returned (.tuple #[vl, r, .int .i64 b]) := by rw [h]

set_option maxHeartbeats 1600000 in
set_option maxRecDepth 100000 in
theorem getall_any (w : World) (v : Value) (bs : List UInt8) (n : Int) (hv : BS w w.heap.size v bs) (hl : bs.length ≤ 900000) (hn : I64 n) :
    Calls Try.prog 24 #[v, .int .i64 n] w fun e w' =>
      ∃ vl r, e = .returned (.tuple #[vl, r, .int .i64 (vaAll n bs).2.2]) ∧ IS w' w'.heap.size vl (vaAll n bs).1 ∧ BS w' w'.heap.size r (vaAll n bs).2.1 ∧ Ext w w' := by
  by_cases h0 : n < 0
  · have hA : vaAll n bs = ([], [], 1) := by unfold vaAll; rw [if_pos h0]
    go_enter Try.func24, Try.ntmps24
    go_wp2
    go_ret3
    exact ⟨_, _, by rw [hA]; rfl, by rw [hA]; exact IS.nil_ _ _, by rw [hA]; exact BS.nil_ _ _, Below.refl _ _⟩
  · obtain ⟨N, rfl⟩ := Int.eq_ofNat_of_zero_le (show 0 ≤ n by omega)
    have hA : vaAll (N : Int) bs = vaGo N bs [] := by unfold vaAll; rw [if_neg h0]; rfl
    have HA := Lib.hid hA
    have hNi := hn.hi
    clear hA h0 hn
    go_enter Try.func24, Try.ntmps24
    go_wp2_with fail
    go_loopw [4, 5, 14] (fun l r i wr => ∃ (k : Nat) (acc : List Int) (cur : List UInt8), i = .int .i64 k ∧ k ≤ N ∧ IOwn wr w.heap.size l acc ∧ BS wr w.heap.size r cur ∧ Below w.heap.size w wr ∧ acc.length + cur.length ≤ bs.length ∧ vaGo (N - k) cur acc = vaGo N bs [])
      (fun _ _ i _ => N - (intOf i).toNat)
    case atStart => exact ⟨0, [], bs, rfl, Nat.zero_le _, IOwn.nil_ _ _, hv, Below.refl _ _, by simp, rfl⟩
    case round =>
      obtain ⟨k, acc, cur, rfl, hk, hown, hcur, hbr, hlen, heq⟩ := hrel
      have Heq := Lib.hid heq
      clear heq
      by_cases hlt : k < N
      · go_wp2_with fail
        refine (getint_any wr w.heap.size _ cur hcur hbr.size (by omega)).mono ?_
        rintro e w1 ⟨r1, rfl, hr1, hx1⟩
        by_cases h0 : vgE cur = 0
        · have t0 : (((vgE cur : Nat) : Int) != 0) = false := by simp [h0]
          have hlt2 := vgRest_lt h0
          have Hx1 := Lib.hid hx1
          have hz1 := hx1.size
          have hz := hbr.size
          have H0 := Lib.hid h0
          clear h0 hx1
          go_wp2_with (at_builtin; refine wpList_append_ints _ rfl (.tmp 25) (.tmp 27) rfl w.heap.size _ acc rfl ((hown.ext Hx1.out).ext (Ext.of_alloc _ _)) _ _ [viN cur] rfl (IS.one _ _) (by simp; omega) (by simp; omega) ?_; intro v2 w2 hown2 hg2 hat2)
          have hb1 : Below w.heap.size w w1 := hbr.trans (Hx1.out.mono hz)
          have hb2 : Below w.heap.size w1 w2 := ((Below.refl _ _).alloc (by omega) _).grown hg2 (by simp; omega) (owns_ge hown)
          go_roundw
          case rel =>
            refine ⟨k + 1, acc ++ [viN cur], vgRest cur, by go_num, by omega, hown2, hr1.below hb2, hb1.trans hb2, by rw [List.length_append, List.length_singleton]; omega, ?_⟩
            rw [← Heq.out, show N - k = N - (k + 1) + 1 from by omega]
            simp only [vaGo, if_pos H0.out]
          case measure => simp [intOf]; omega
        · have t0 : (((vgE cur : Nat) : Int) != 0) = true := by simpa using h0
          have hE : vaGo N bs [] = ([], [], vgE cur) := by
            rw [← Heq.out, show N - k = N - (k + 1) + 1 from by omega]
            simp only [vaGo, if_neg h0]
          have HE := Lib.hid hE
          clear h0 hE
          go_wp2
          go_ret3
          exact ⟨_, _, by rw [HA.out, HE.out]; rfl, by rw [HA.out, HE.out]; exact IS.nil_ _ _, by rw [HA.out, HE.out]; exact BS.nil_ _ _, hbr.trans (hx1.mono hbr.size)⟩
      · have hE : vaGo N bs [] = (acc, cur, 0) := by
          rw [← Heq.out, show N - k = 0 from by omega]
          rfl
        have HE := Lib.hid hE
        clear hE
        go_wp2
        go_ret3
        exact ⟨_, _, by rw [HA.out, HE.out]; rfl, by rw [HA.out, HE.out]; exact hown.is, by rw [HA.out, HE.out]; exact hcur.more hbr.size, hbr⟩

set_option maxHeartbeats 1600000 in
set_option maxRecDepth 100000 in
theorem rgetall_any (w : World) (v : Value) (bs : List UInt8) (n : Int) (hv : BS w w.heap.size v bs) (hl : bs.length ≤ 900000) (hn : I64 n) :
    Calls Try.prog 25 #[v, .int .i64 n] w fun e w' =>
      ∃ vl r, e = .returned (.tuple #[vl, r, .int .i64 (vaAll n bs).2.2]) ∧ IS w' w'.heap.size vl (vaAll n bs).1 ∧ BS w' w'.heap.size r (vaAll n bs).2.1 ∧ Ext w w' := by
  by_cases h0 : n < 0
  · have hA : vaAll n bs = ([], [], 1) := by unfold vaAll; rw [if_pos h0]
    go_enter Try.func25, Try.ntmps25
    go_wp2
    go_ret3
    exact ⟨_, _, by rw [hA]; rfl, by rw [hA]; exact IS.nil_ _ _, by rw [hA]; exact BS.nil_ _ _, Below.refl _ _⟩
  · obtain ⟨N, rfl⟩ := Int.eq_ofNat_of_zero_le (show 0 ≤ n by omega)
    have hA : vaAll (N : Int) bs = vaGo N bs [] := by unfold vaAll; rw [if_neg h0]; rfl
    have HA := Lib.hid hA
    have hNi := hn.hi
    clear hA h0 hn
    go_enter Try.func25, Try.ntmps25
    go_wp2_with fail
    go_loopw [0, 7, 8] (fun r l i wr => ∃ (k : Nat) (acc : List Int) (cur : List UInt8), i = .int .i64 k ∧ k ≤ N ∧ IOwn wr w.heap.size l acc ∧ BS wr w.heap.size r cur ∧ Below w.heap.size w wr ∧ acc.length + cur.length ≤ bs.length ∧ vaGo (N - k) cur acc = vaGo N bs [])
      (fun _ _ i _ => N - (intOf i).toNat)
    case atStart => exact ⟨0, [], bs, rfl, Nat.zero_le _, IOwn.nil_ _ _, hv, Below.refl _ _, by simp, rfl⟩
    case round =>
      obtain ⟨k, acc, cur, rfl, hk, hown, hcur, hbr, hlen, heq⟩ := hrel
      have Heq := Lib.hid heq
      clear heq
      by_cases hlt : k < N
      · go_wp2_with fail
        refine (rgetint_any wr w.heap.size _ cur hcur hbr.size (by omega)).mono ?_
        rintro e w1 ⟨r1, rfl, hr1, hx1⟩
        by_cases h0 : vgE cur = 0
        · have t0 : (((vgE cur : Nat) : Int) != 0) = false := by simp [h0]
          have hlt2 := vgRest_lt h0
          have Hx1 := Lib.hid hx1
          have hz1 := hx1.size
          have hz := hbr.size
          have H0 := Lib.hid h0
          clear h0 hx1
          go_wp2_with (at_builtin; refine wpList_append_ints _ rfl (.tmp 28) (.tmp 30) rfl w.heap.size _ acc rfl ((hown.ext Hx1.out).ext (Ext.of_alloc _ _)) _ _ [viN cur] rfl (IS.one _ _) (by simp; omega) (by simp; omega) ?_; intro v2 w2 hown2 hg2 hat2)
          have hb1 : Below w.heap.size w w1 := hbr.trans (Hx1.out.mono hz)
          have hb2 : Below w.heap.size w1 w2 := ((Below.refl _ _).alloc (by omega) _).grown hg2 (by simp; omega) (owns_ge hown)
          go_roundw
          case rel =>
            refine ⟨k + 1, acc ++ [viN cur], vgRest cur, by go_num, by omega, hown2, hr1.below hb2, hb1.trans hb2, by rw [List.length_append, List.length_singleton]; omega, ?_⟩
            rw [← Heq.out, show N - k = N - (k + 1) + 1 from by omega]
            simp only [vaGo, if_pos H0.out]
          case measure => simp [intOf]; omega
        · have t0 : (((vgE cur : Nat) : Int) != 0) = true := by simpa using h0
          have hE : vaGo N bs [] = ([], [], vgE cur) := by
            rw [← Heq.out, show N - k = N - (k + 1) + 1 from by omega]
            simp only [vaGo, if_neg h0]
          have HE := Lib.hid hE
          clear h0 hE
          go_wp2
          go_ret3
          exact ⟨_, _, by rw [HA.out, HE.out]; rfl, by rw [HA.out, HE.out]; exact IS.nil_ _ _, by rw [HA.out, HE.out]; exact BS.nil_ _ _, hbr.trans (hx1.mono hbr.size)⟩
      · have hE : vaGo N bs [] = (acc, cur, 0) := by
          rw [← Heq.out, show N - k = 0 from by omega]
          rfl
        have HE := Lib.hid hE
        clear hE
        go_wp2
        go_ret3
        exact ⟨_, _, by rw [HA.out, HE.out]; rfl, by rw [HA.out, HE.out]; exact hown.is, by rw [HA.out, HE.out]; exact hcur.more hbr.size, hbr⟩

set_option maxHeartbeats 1600000 in
set_option maxRecDepth 100000 in
theorem putall_any (w : World) (B : Nat) (v u : Value) (bs : List UInt8) (zs : List Int) (hv : BS w B v bs) (hu : IS w B u zs) (hB : B ≤ w.heap.size) (hl : bs.length ≤ 900000) (hz : ∀ z ∈ zs, I64 z) (hzl : zs.length ≤ 1000) :
    Calls Try.prog 26 #[v, u] w fun e w' => ∃ v', e = .returned v' ∧ Own w' w.heap.size v' (bs ++ encAll zs) ∧ Ext w w' := by
  obtain ⟨A, c, rfl, hc, hm, hnil, hr⟩ := hu
  clear hnil
  have Hz := Lib.hid hz
  clear hz
  go_enter Try.func26, Try.ntmps26
  go_wp2_with fail
  refine (clone_any w B v bs hv hB (by omega)).mono ?_
  rintro e w1 ⟨v1, rfl, hown1, hx1⟩
  go_wp2_with fail
  go_loopw [5, 12] (fun o i wr => ∃ k : Nat, i = .int .i64 k ∧ k ≤ zs.length ∧ Own wr w.heap.size o (bs ++ encAll (zs.take k)) ∧ Below w.heap.size w wr) (fun _ i _ => zs.length - (intOf i).toNat)
  case atStart => exact ⟨0, rfl, Nat.zero_le _, by simpa [encAll] using hown1, hx1⟩
  case round =>
    obtain ⟨k, rfl, hk, hown, hbr⟩ := hrel
    by_cases hlt : k < zs.length
    · obtain ⟨ad, rfl, had, hcell⟩ := hr.2 (by omega)
      have hx : wr.cell? (ad.add k) = some (.int .i64 zs[k]) := (hbr.cell (by rw [addBlock]; omega)).trans (hcell k _ (iv_get zs k hlt))
      have Hcell := Lib.hid hcell
      clear hcell hr
      have hzk := Hz.out zs[k] (List.getElem_mem hlt)
      have hel : (bs ++ encAll (zs.take k)).length ≤ 1000000 := by
        have := encAll_len (zs.take k) fun z h => Hz.out z (List.mem_of_mem_take h)
        rw [List.length_take] at this
        rw [List.length_append]
        omega
      have Hsn := Lib.hid (take_snoc zs k hlt)
      generalize zs[k] = z at hx hzk Hsn
      go_wp2_with fail
      refine (putint_any wr wr.heap.size _ _ z hown.bs (Nat.le_refl _) hel hzk).mono ?_
      rintro e w2 ⟨v2, rfl, hown2, hx2⟩
      go_wp2
      go_roundw
      case rel =>
        refine ⟨k + 1, by go_num, by omega, ?_, hbr.trans (hx2.mono hbr.size)⟩
        rw [Hsn.out, encAll_snoc, ← List.append_assoc]
        exact hown2.base hbr.size
      case measure => simp [intOf]; omega
    · go_wp2
      go_ret
      refine ⟨_, rfl, ?_, hbr⟩
      rw [List.take_of_length_le (by omega)] at hown
      exact hown

set_option maxHeartbeats 1600000 in
set_option maxRecDepth 100000 in
theorem rall_any (w : World) (u : Value) (zs : List Int) (hu : IS w w.heap.size u zs) (hz : ∀ z ∈ zs, I64 z) (hzl : zs.length ≤ 1000) :
    Calls Try.prog 27 #[u] w fun e w' => ∃ v', e = .returned v' ∧ Own w' w.heap.size v' (encAll zs) ∧ Ext w w' := by
  obtain ⟨A, c, rfl, hc, hm, hnil, hr⟩ := hu
  clear hnil
  have Hz := Lib.hid hz
  clear hz
  go_enter Try.func27, Try.ntmps27
  go_wp2_with fail
  go_loopw [3, 4] (fun o i wr => ∃ k : Nat, i = .int .i64 k ∧ k ≤ zs.length ∧ Own wr w.heap.size o (encAll (zs.take k)) ∧ Below w.heap.size w wr) (fun _ i _ => zs.length - (intOf i).toNat)
  case atStart => exact ⟨0, rfl, Nat.zero_le _, Own.nil_ _ _, Below.refl _ _⟩
  case round =>
    obtain ⟨k, rfl, hk, hown, hbr⟩ := hrel
    by_cases hlt : k < zs.length
    · obtain ⟨ad, rfl, had, hcell⟩ := hr.2 (by omega)
      have hx : wr.cell? (ad.add k) = some (.int .i64 zs[k]) := (hbr.cell (by rw [addBlock]; omega)).trans (hcell k _ (iv_get zs k hlt))
      have Hcell := Lib.hid hcell
      clear hcell hr
      have hzk := Hz.out zs[k] (List.getElem_mem hlt)
      have hel : (encAll (zs.take k)).length ≤ 10000 := by
        have := encAll_len (zs.take k) fun z h => Hz.out z (List.mem_of_mem_take h)
        rw [List.length_take] at this
        omega
      have Hsn := Lib.hid (take_snoc zs k hlt)
      generalize zs[k] = z at hx hzk Hsn
      have hz10 := enc_len10 (zig_64 hzk)
      have hzr := hbr.size
      go_wp2_with fail
      refine (rint_any wr z hzk).mono ?_
      rintro e w2 ⟨v2, rfl, hown2, hx2⟩
      have hz2 := hx2.size
      have Hx2 := Lib.hid hx2
      clear hx2
      go_wp2_with (at_builtin; refine wpList_append_bytes _ rfl (.tmp 11) (.tmp 16) rfl w.heap.size _ (encAll (zs.take k)) rfl (hown.ext Hx2.out) _ _ (enc (zig z)) rfl hown2.bs (by omega) (by omega) ?_; intro v3 w3 hown3 hg3 hat3)
      go_roundw
      case rel =>
        refine ⟨k + 1, by go_num, by omega, ?_, (hbr.trans (Hx2.out.mono hzr)).grown hg3 (by omega) (own_ge hown)⟩
        rw [Hsn.out, encAll_snoc]
        exact hown3
      case measure => simp [intOf]; omega
    · go_wp2
      go_ret
      refine ⟨_, rfl, ?_, hbr⟩
      rw [List.take_of_length_le (by omega)] at hown
      exact hown

set_option maxHeartbeats 1600000 in
set_option maxRecDepth 100000 in
theorem sameints_any (w : World) (B : Nat) (u v : Value) (xs ys : List Int) (hu : IS w B u xs) (hv : IS w B v ys) :
    Calls Try.prog 28 #[u, v] w fun e w' => e = .returned (.bool (decide (xs = ys))) ∧ Ext w w' := by
  obtain ⟨A, c, rfl, hc, hm, hnil, hr⟩ := hu
  obtain ⟨A', c', rfl, hc', hm', hnil', hr'⟩ := hv
  clear hnil hnil'
  unfold maxLen at hm
  by_cases hl : xs.length = ys.length
  · have tl : ((xs.length : Int) != (ys.length : Int)) = false := by simp [hl]
    have hle : xs.length ≤ ys.length := by omega
    have hge : ys.length ≤ xs.length := by omega
    clear hl
    go_enter Try.func28, Try.ntmps28
    go_wp2_with fail
    go_loopw [5] (fun i wr => ∃ k : Nat, i = .int .i64 k ∧ k ≤ xs.length ∧ xs.take k = ys.take k ∧ ∃ q, wr = w.drewN q) (fun i _ => xs.length - (intOf i).toNat)
    case atStart => exact ⟨0, rfl, Nat.zero_le _, rfl, 0, rfl⟩
    case round =>
      obtain ⟨k, rfl, hk, heq, q, rfl⟩ := hrel
      have Heq := Lib.hid heq
      clear heq
      by_cases hlt : k < xs.length
      · obtain ⟨ad, rfl, had, hcell⟩ := hr.2 (by omega)
        obtain ⟨ad', rfl, had', hcell'⟩ := hr'.2 (by omega)
        have hx := hcell k _ (iv_get xs k hlt)
        have hx' := hcell' k _ (iv_get ys k (by omega))
        have Hcell := Lib.hid hcell
        have Hcell' := Lib.hid hcell'
        clear hcell hcell' hr hr'
        have Hsn := Lib.hid (take_snoc xs k hlt)
        have Hsn' := Lib.hid (take_snoc ys k (by omega))
        by_cases hz : xs[k] = ys[k]
        · have tz : (xs[k] != ys[k]) = false := by simp [hz]
          have Hz := Lib.hid hz
          clear hz
          generalize xs[k] = x at hx Hsn tz Hz
          generalize ys[k] = y at hx' Hsn' tz Hz
          go_wp2
          go_quiet (fail)
          go_wp2
          go_roundw
          case rel => exact ⟨k + 1, by go_num, by omega, by rw [Hsn.out, Hsn'.out, Heq.out, Hz.out], _, rfl⟩
          case measure => simp [intOf]; omega
        · have tz : (xs[k] != ys[k]) = true := by simpa using hz
          have hne : decide (xs = ys) = false := by
            rw [decide_eq_false_iff_not]
            rintro rfl
            exact hz rfl
          have Hne := Lib.hid hne
          clear hz hne
          generalize xs[k] = x at hx Hsn tz
          generalize ys[k] = y at hx' Hsn' tz
          go_wp2
          go_quiet (fail)
          go_wp2
          go_ret
          exact ⟨by rw [Hne.out]; rfl, (Ext.drewN _ _).trans (Ext.drewN _ _)⟩
      · have he : decide (xs = ys) = true := by
          have := Heq.out
          rw [List.take_of_length_le (by omega), List.take_of_length_le (by omega)] at this
          simpa using this
        have He := Lib.hid he
        clear he
        go_wp2
        go_ret
        exact ⟨by rw [He.out]; rfl, Ext.drewN _ _⟩
  · have tl : ((xs.length : Int) != (ys.length : Int)) = true := by rw [bne_iff_ne]; omega
    have hne : decide (xs = ys) = false := by
      rw [decide_eq_false_iff_not]
      rintro rfl
      exact hl rfl
    have Hne := Lib.hid hne
    clear hl hne hr hr'
    go_enter Try.func28, Try.ntmps28
    go_wp2
    go_ret
    exact ⟨by rw [Hne.out]; rfl, Below.refl _ _⟩

end Go.Proofs.Ytkjbbnlmoekilaa
