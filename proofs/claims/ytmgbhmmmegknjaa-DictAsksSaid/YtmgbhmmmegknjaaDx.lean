/-
  Contracts of the reference's Get, Prefix, Floor, Same.
  Conditions: not more than 1,000,000 entries; texts of at most 1,000,000 bytes.
-/
import Derived.Test.YtmgbhmmmegknjaaDu
import Derived.Laws.StructEq
namespace Go.Proofs.Ytmgbhmmmegknjaa
open Go.RowKit Go.Op

theorem equal_ent (W : World) (t t' : List UInt8) (x y z x' y' z' : Int) : (equalIn 10000 42 (.agg #[.string ⟨t.toArray⟩, .int .i64 x, .int .i64 y, .int .i64 z]) (.agg #[.string ⟨t'.toArray⟩, .int .i64 x', .int .i64 y', .int .i64 z'])).run Try.prog W =
    .ok (decide (((⟨t⟩, x, y, z) : Ent) = (⟨t'⟩, x', y', z'))) W := by
  have u3 := Try.underlying3
  have u9 := Try.underlying9
  have hS : Try.prog.underlying 42 = some (.struct (Try.prog.fieldsOf 42)) := by kernel_rfl
  have hp : Try.prog.stoodInHeld 42 = false := by kernel_rfl
  rw [show (10000 : Nat) = 9999 + 1 from rfl, run_equalIn_agg W 9999 42 _ _ hS hp]
  simp only [Program.fieldsOf, Try.underlying42]
  go_simp
  by_cases h1 : t = t' <;> by_cases h2 : x = x' <;> by_cases h3 : y = y' <;> by_cases h4 : z = z' <;> simp [h1, h2, h3, h4]
theorem guard_ent (W : World) (op : BinOp) (x y : Operand) (a b : Array Value) : (eqGuard op 42 x y (.agg a) (.agg b)).run Try.prog W = .ok () W := run_eqGuard_agg W op _ x y a b (by kernel_rfl)
theorem neq_ent (W : World) (t t' : List UInt8) (x y z x' y' z' : Int) : (binOp .neq 42 (.agg #[.string ⟨t.toArray⟩, .int .i64 x, .int .i64 y, .int .i64 z]) (.agg #[.string ⟨t'.toArray⟩, .int .i64 x', .int .i64 y', .int .i64 z'])).run Try.prog W =
    .ok (.bool (!decide (((⟨t⟩, x, y, z) : Ent) = (⟨t'⟩, x', y', z')))) W := by
  rw [run_neq_struct, equal_ent]
  rfl
theorem eql_ent (W : World) (t t' : List UInt8) (x y z x' y' z' : Int) : (binOp .eql 42 (.agg #[.string ⟨t.toArray⟩, .int .i64 x, .int .i64 y, .int .i64 z]) (.agg #[.string ⟨t'.toArray⟩, .int .i64 x', .int .i64 y', .int .i64 z'])).run Try.prog W =
    .ok (.bool (decide (((⟨t⟩, x, y, z) : Ent) = (⟨t'⟩, x', y', z')))) W := by
  rw [run_eql_struct, equal_ent]
  rfl

theorem get_at {l : List Ent} {s : List UInt8} {k : Nat} (hk : k < l.length) (h : ∀ j (hj : j < l.length), j < k → l[j].1.b ≠ s) (he : l[k].1.b = s) : getE l s = (l[k], true) := by
  have : l.find? (fun e => decide (e.1.b = s)) = some l[k] := by
    rw [List.find?_eq_some_iff_getElem]
    refine ⟨by simpa using he, k, hk, rfl, fun j hj => ?_⟩
    simpa using h j (by omega) hj
  unfold getE
  rw [this]
theorem get_none {l : List Ent} {s : List UInt8} (h : ∀ j (hj : j < l.length), l[j].1.b ≠ s) : getE l s = (zeroE, false) := by
  have : l.find? (fun e => decide (e.1.b = s)) = none := by
    rw [List.find?_eq_none]
    intro e hm
    obtain ⟨j, hj, rfl⟩ := List.getElem_of_mem hm
    simpa using h j hj
  unfold getE
  rw [this]

set_option maxHeartbeats 1600000 in
set_option maxRecDepth 100000 in
theorem rgete_any (w : World) (v : Value) (l : List Ent) (s : List UInt8) (hv : SL w (Bw w) v l) :
    Calls Try.prog 17 #[v, .string ⟨s.toArray⟩] w fun e w' => e = .returned (.tuple #[entV (getE l s).1, .bool (getE l s).2]) ∧ Ext w w' := by
  obtain ⟨A, c, rfl, hc, hm⟩ := hv.form
  have hm' : (l.length : Int) ≤ 9223372036854775807 := by unfold maxLen at hm; omega
  have Hv := Lib.hid hv
  have HR := Lib.hid (EBox.new w)
  have Hx0 : Hid (Ext w (w.alloc (.cells #[.string ⟨#[]⟩, .int .i64 0, .int .i64 0, .int .i64 0] 42))) := Lib.hid (Ext.of_alloc _ _)
  clear hv hm
  go_enter Try.func17, Try.ntmps17
  go_wp2_with fail
  go_loopw [6] (fun i wr => ∃ k : Nat, i = .int .i64 k ∧ k ≤ l.length ∧ (∀ j (hj : j < l.length), j < k → l[j].1.b ≠ s) ∧ EBox wr w.heap.size (⟨[]⟩, 0, 0, 0) ∧ Ext w wr) (fun i _ => l.length - (intOf i).toNat)
  case atStart => exact ⟨0, rfl, Nat.zero_le _, fun j _ h => absurd h (by omega), HR.out, Hx0.out⟩
  case round =>
    obtain ⟨k, rfl, hk, hno, hR, hx⟩ := hrel
    have Hx := Lib.hid hx
    have Hno := Lib.hid hno
    have HRr := Lib.hid hR
    obtain ⟨c0, c1, c2, c3, f0, f1, f2, f3⟩ := hR.cell
    clear hno hR
    by_cases hlt : k < l.length
    · have hklt : (k : Int) < l.length := by omega
      obtain ⟨ad, rfl, _, d0, d1, d2, d3, _⟩ := (Hv.out.up hx).ent_at hlt
      by_cases he : l[k].1.b = s
      · have hg := Lib.hid (get_at hlt Hno.out he)
        have hne := ba_nn he
        generalize l[k] = N at d0 d1 d2 d3 hne hg
        obtain ⟨⟨t⟩, x, y, z⟩ := N
        dsimp only at d0 d1 d2 d3 hne
        clear he hx
        go_wp2
        have hf := HRr.out.set4 (t := ⟨t⟩) (x := x) (y := y) (z := z)
        obtain ⟨e0, e1, e2, e3, _⟩ := hf.cell
        dsimp only at e0 e1 e2 e3
        refine bodyPost_ret (v := .tuple #[entV (⟨t⟩, x, y, z), .bool true]) ?_ rfl ⟨by rw [hg.out], ?_⟩
        · simp [results, Try.f17, go_sem, e0, e1, e2, e3, entV]
        · exact ((Ext.kept Hx.out (fun _ => False)).cut (kept4 _ _ _ _ _ _) (Nat.le_refl _)).ext fun _ _ h => h
      · have hne := ba_ne he
        have he2 := Lib.hid he
        generalize l[k].1.b = T at d0 hne
        clear he hx
        go_wp2
        refine ⟨⟨k + 1, rfl, by omega, fun j hj hjk => ?_, HRr.out, Hx.out⟩, by simp only [intOf]; omega⟩
        by_cases hjk2 : j = k
        · subst hjk2
          exact he2.out
        · exact Hno.out j hj (by omega)
    · have hklt : ¬(k : Int) < l.length := by omega
      have hg := Lib.hid (get_none (l := l) (s := s) (fun j hj => Hno.out j hj (by omega)))
      clear hx
      go_wp2
      have hf := HRr.out.set4 (t := ⟨[]⟩) (x := 0) (y := 0) (z := 0)
      obtain ⟨e0, e1, e2, e3, _⟩ := hf.cell
      dsimp only at e0 e1 e2 e3
      refine bodyPost_ret (v := .tuple #[entV zeroE, .bool false]) ?_ rfl ⟨by rw [hg.out], ?_⟩
      · simp [results, Try.f17, go_sem, e0, e1, e2, e3, entV, zeroE]
      · exact ((Ext.kept Hx.out (fun _ => False)).cut (kept4 _ _ _ _ _ _) (Nat.le_refl _)).ext fun _ _ h => h

theorem flr_next {l : List Ent} {s : List UInt8} {k : Nat} (hk : k < l.length) : flr (l.take (k + 1)) s = flr (l.take k) s + if bytesLess l[k].1.b s = true then 1 else 0 := by
  unfold flr
  rw [take_nextE l hk, List.filter_append, List.length_append]
  congr 1
  by_cases h : bytesLess l[k].1.b s = true
  · simp [h]
  · simp [h]

set_option maxHeartbeats 1600000 in
set_option maxRecDepth 100000 in
theorem rfloor_any (w : World) (v : Value) (l : List Ent) (s : List UInt8) (hv : SL w (Bw w) v l) :
    Calls Try.prog 21 #[v, .string ⟨s.toArray⟩] w fun e w' => e = .returned (.int .i64 (flr l s)) ∧ Ext w w' := by
  obtain ⟨A, c, rfl, hc, hm⟩ := hv.form
  have hm' : (l.length : Int) ≤ 9223372036854775807 := by unfold maxLen at hm; omega
  have Hv := Lib.hid hv
  clear hv hm
  go_enter Try.func21, Try.ntmps21
  go_wp2_with fail
  go_loopw [5, 6] (fun n i wr => ∃ k : Nat, i = .int .i64 k ∧ k ≤ l.length ∧ n = .int .i64 (flr (l.take k) s) ∧ Ext w wr) (fun _ i _ => l.length - (intOf i).toNat)
  case atStart => exact ⟨0, rfl, Nat.zero_le _, rfl, Below.refl _ _⟩
  case round =>
    obtain ⟨k, rfl, hk, rfl, hx⟩ := hrel
    have Hx := Lib.hid hx
    have hfl : flr (l.take k) s ≤ k := by
      have := List.length_filter_le (fun e : Ent => bytesLess e.1.b s) (l.take k)
      rw [List.length_take] at this
      unfold flr
      omega
    by_cases hlt : k < l.length
    · have hklt : (k : Int) < l.length := by omega
      obtain ⟨ad, rfl, _, d0, _⟩ := (Hv.out.up hx).ent_at hlt
      have hn := flr_next (s := s) hlt
      generalize l[k].1.b = T at d0 hn
      generalize flr (l.take k) s = F at hn hfl
      have hfi : (F : Int) + 1 ≤ 9223372036854775807 := by omega
      clear hx
      cases hb : bytesLess T s with
      | true =>
        rw [if_pos hb] at hn
        have Hn := Lib.hid hn
        clear hn
        go_wp2
        exact ⟨⟨k + 1, rfl, by omega, by rw [Hn.out]; rfl, Hx.out⟩, by simp only [intOf]; omega⟩
      | false =>
        rw [if_neg (by rw [hb]; decide)] at hn
        have Hn := Lib.hid hn
        clear hn
        go_wp2
        exact ⟨⟨k + 1, rfl, by omega, by rw [Hn.out]; rfl, Hx.out⟩, by simp only [intOf]; omega⟩
    · have hklt : ¬(k : Int) < l.length := by omega
      rw [List.take_of_length_le (by omega)]
      clear hx
      go_wp2
      go_ret
      exact ⟨rfl, Hx.out⟩

theorem pfx_skip {l : List Ent} {p : List UInt8} {i : Nat} (hi : i < l.length) (h : isPre p l[i].1.b = false) : pfxE (l.take (i + 1)) p = pfxE (l.take i) p := by
  unfold pfxE
  rw [take_nextE l hi, List.filter_append]
  simp [h]

set_option maxHeartbeats 3200000 in
set_option maxRecDepth 100000 in
theorem rprefix_any (w : World) (v : Value) (l : List Ent) (p : List UInt8) (hv : SL w (Bw w) v l) (hl : l.length ≤ 5000) (hb : ∀ e ∈ l, e.1.b.length ≤ 1000000) (_hp : p.length ≤ 1000000) :
    Calls Try.prog 19 #[v, .string ⟨p.toArray⟩] w fun e w' => ∃ u, e = .returned u ∧ SL w' (Bw w') u (pfxE l p) ∧ Ext w w' := by
  obtain ⟨A, c, rfl, hc, hm⟩ := hv.form
  have Hv := Lib.hid hv
  have Hb := Lib.hid hb
  clear hv hm hb
  go_enter Try.func19, Try.ntmps19
  go_wp2_with fail
  go_loopw [5, 6] (fun o i wr => ∃ k : Nat, i = .int .i64 k ∧ k ≤ l.length ∧ OwnL wr w.heap.size 42 (fun _ => False) o (pfxE (l.take k) p) ∧ Ext w wr) (fun _ i _ => l.length - (intOf i).toNat)
  case atStart => exact ⟨0, rfl, Nat.zero_le _, OwnL.nil_ _ _ _ _, Below.refl _ _⟩
  case round =>
    obtain ⟨k, rfl, hk, hol, hx⟩ := hrel
    have Hol := Lib.hid hol
    have Hx := Lib.hid hx
    clear hol
    by_cases hlt : k < l.length
    · have hklt : (k : Int) < l.length := by omega
      obtain ⟨ad, rfl, _, d0, d1, d2, d3, b0, b1, b2, b3⟩ := (Hv.out.up hx).ent_at hlt
      have hyes := fun h => pfx_next (p := p) hlt h
      have hno := fun h => pfx_skip (p := p) hlt h
      have hbl := Hb.out l[k] (List.getElem_mem hlt)
      generalize l[k] = N at d0 d1 d2 d3 b0 b1 b2 b3 hyes hno hbl
      obtain ⟨⟨t⟩, x, y, z⟩ := N
      dsimp only at d0 d1 d2 d3 b0 b1 b2 b3 hyes hno hbl
      have Hyes := Lib.hid hyes
      have Hno := Lib.hid hno
      clear hyes hno hx
      by_cases hlen : p.length ≤ t.length
      · have hleni : (p.length : Int) ≤ t.length := by omega
        have he := pre_ext p t
        have hbq := pre_beq p t
        cases hpre : isPre p t with
        | true =>
          rw [hpre] at hbq
          have hps := Hyes.out hpre
          obtain ⟨Al, cl, rfl, hcl, hml⟩ := Hol.out.form
          have hPl : (pfxE (l.take k) p).length ≤ 5000 := by
            have := List.length_filter_le (fun e : Ent => isPre p e.1.b) (l.take k)
            rw [List.length_take] at this
            unfold pfxE
            omega
          generalize pfxE (l.take k) p = LS at Hol hPl hps hcl hml
          have Hps := Lib.hid hps
          have Hsv := Lib.hid (SV.one_ wr #[.string ⟨t.toArray⟩, .int .i64 x, .int .i64 y, .int .i64 z] 42 4 rfl)
          have hreps : ∀ W : World, Reps (α := Ent) W (fun j => False ∧ j < W.heap.size ∧ some j ≠ (Value.slice Al LS.length cl).ownBlock) [.string ⟨t.toArray⟩, .int .i64 x, .int .i64 y, .int .i64 z] [(⟨t⟩, x, y, z)] := fun W => Reps.single (rep_ent b0 b1 b2 b3)
          have Hreps := Lib.hid hreps
          clear hps hreps hpre Hyes Hno
          go_wp2_with (at_builtin; go_loud (refine wpList_append_l _ rfl (.tmp 34) (.tmp 39) 22 rfl w.heap.size 42 (fun _ => False) (.agg #[.string ⟨#[]⟩, .int .i64 0, .int .i64 0, .int .i64 0]) 40 Try.underlying22 info_ent rfl (by decide) (.slice Al LS.length cl) LS rfl (Hol.out.ext (Ext.of_alloc _ _)) (wr.heap.size + 1) (.slice (some ⟨wr.heap.size, 0, none⟩) 1 1) [(⟨t⟩, x, y, z)] [.string ⟨t.toArray⟩, .int .i64 x, .int .i64 y, .int .i64 z] rfl Hsv.out (Hreps.out _) (by simp; omega) (by omega) (by have := Hx.out.size; simp; omega) ?_; intro v6 w6 hown6 hg6 hat6; have hx6 : Ext w w6 := Below.grown (Ext.al Hx.out _) hg6 (by have := Hx.out.size; simp; omega) (fun j hj => Hol.out.ge j hj); have Hown6 := Lib.hid hown6; have Hx6 := Lib.hid hx6; clear hown6 hg6 hat6 hx6))
          go_roundw
          case rel => exact ⟨k + 1, rfl, by omega, by rw [Hps.out]; exact Hown6.out, Hx6.out⟩
          case measure => simp only [intOf]; omega
        | false =>
          rw [hpre] at hbq
          have Hps := Lib.hid (Hno.out hpre)
          clear hpre Hyes Hno
          go_wp2
          exact ⟨⟨k + 1, rfl, by omega, by rw [Hps.out]; exact Hol.out, Hx.out⟩, by simp only [intOf]; omega⟩
      · have hleni : ¬(p.length : Int) ≤ t.length := by omega
        have Hps := Lib.hid (Hno.out (isPre_len (by omega)))
        clear Hyes Hno
        go_wp2
        exact ⟨⟨k + 1, rfl, by omega, by rw [Hps.out]; exact Hol.out, Hx.out⟩, by simp only [intOf]; omega⟩
    · have hklt : ¬(k : Int) < l.length := by omega
      rw [List.take_of_length_le (by omega)] at Hol
      clear hx
      go_wp2
      go_ret
      exact ⟨_, rfl, Hol.out.sl, Hx.out⟩

set_option maxHeartbeats 3200000 in
set_option maxRecDepth 100000 in
theorem rsame_any (w : World) (u v : Value) (l m : List Ent) (hu : SL w (Bw w) u l) (hv : SL w (Bw w) v m) :
    Calls Try.prog 13 #[u, v] w fun e w' => e = .returned (.bool (decide (l = m))) ∧ Ext w w' := by
  obtain ⟨A, c, rfl, hc, hm⟩ := hu.form
  obtain ⟨A', c', rfl, hc', hm'⟩ := hv.form
  have hml : (l.length : Int) ≤ 9223372036854775807 := by unfold maxLen at hm; omega
  have Hu := Lib.hid hu
  have Hv := Lib.hid hv
  clear hu hv hm hm'
  by_cases hl : l.length = m.length
  · have tl : ((l.length : Int) != (m.length : Int)) = false := by simp [hl]
    have hle : l.length ≤ m.length := by omega
    have hge : m.length ≤ l.length := by omega
    have Hl := Lib.hid hl
    clear hl
    go_enter Try.func13, Try.ntmps13
    go_wp2_with fail
    go_loopw [5] (fun i wr => ∃ k : Nat, i = .int .i64 k ∧ k ≤ l.length ∧ l.take k = m.take k ∧ Ext w wr) (fun i _ => l.length - (intOf i).toNat)
    case atStart => exact ⟨0, rfl, Nat.zero_le _, rfl, Below.refl _ _⟩
    case round =>
      obtain ⟨k, rfl, hk, heq, hx⟩ := hrel
      have Heq := Lib.hid heq
      have Hx := Lib.hid hx
      clear heq
      by_cases hlt : k < l.length
      · have hklt : (k : Int) < l.length := by omega
        have hkm : (k : Int) < m.length := by omega
        obtain ⟨ad, rfl, _, d0, d1, d2, d3, _⟩ := (Hu.out.up hx).ent_at hlt
        obtain ⟨ae, rfl, _, e0, e1, e2, e3, _⟩ := (Hv.out.up hx).ent_at (show k < m.length by omega)
        have hnx : l[k] = m[k] → l.take (k + 1) = m.take (k + 1) := fun h => by rw [take_nextE l hlt, take_nextE m (by omega), Heq.out, h]
        have hne : l[k] ≠ m[k] → l ≠ m := fun h e => by subst e; exact h rfl
        generalize l[k] = N at d0 d1 d2 d3 hnx hne
        generalize m[k] = M at e0 e1 e2 e3 hnx hne
        obtain ⟨⟨t⟩, x, y, z⟩ := N
        obtain ⟨⟨t'⟩, x', y', z'⟩ := M
        dsimp only at d0 d1 d2 d3 e0 e1 e2 e3
        have hq := fun W => neq_ent W t t' x y z x' y' z'
        have Hnx := Lib.hid hnx
        have Hne := Lib.hid hne
        have hgd := guard_ent
        clear hnx hne hx
        by_cases hE : ((⟨t⟩, x, y, z) : Ent) = (⟨t'⟩, x', y', z')
        · have HE := Lib.hid hE
          simp only [decide_eq_true hE, Bool.not_true] at hq
          clear hE
          go_wp2_with fail
          go_quiet (fail)
          all_goals go_wp2
          all_goals exact ⟨⟨k + 1, rfl, by omega, Hnx.out HE.out, Hx.out.drN _⟩, by simp only [intOf]; omega⟩
        · have HE := Lib.hid (Hne.out hE)
          simp only [decide_eq_false hE, Bool.not_false] at hq
          clear hE
          go_wp2_with fail
          go_quiet (fail)
          all_goals go_wp2
          all_goals go_ret
          all_goals exact ⟨by rw [decide_eq_false HE.out]; rfl, Hx.out.drN _⟩
      · have hklt : ¬(k : Int) < l.length := by omega
        have he : l = m := by
          have := Heq.out
          rw [List.take_of_length_le (by omega), List.take_of_length_le (by omega)] at this
          exact this
        have He := Lib.hid he
        clear he hx
        go_wp2
        go_ret
        exact ⟨by rw [decide_eq_true He.out]; rfl, Hx.out⟩
  · have tl : ((l.length : Int) != (m.length : Int)) = true := by simp; omega
    have He := Lib.hid (show l ≠ m from fun e => hl (by rw [e]))
    clear hl
    go_enter Try.func13, Try.ntmps13
    go_wp2
    go_ret
    exact ⟨by rw [decide_eq_false He.out]; rfl, Below.refl _ _⟩

end Go.Proofs.Ytmgbhmmmegknjaa
