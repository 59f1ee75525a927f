/-
  Contract of the reference's Are.
  Conditions: those of each statement.
-/
import Derived.Test.YtmgbhmmmegknjaaDd
import Derived.Test.YtmgbhmmmegknjaaStep
namespace Go.Proofs.Ytmgbhmmmegknjaa
open Go.RowKit Go.Op

theorem wrap64_nat {n : Nat} (h : (n : Int) ≤ 9223372036854775807) : IntKind.i64.wrap (n : Int) = n := by
  rw [IntKind.wrap_i64]
  omega
theorem ba_size (l : List UInt8) : (ByteArray.mk l.toArray).size = l.length := by show l.toArray.size = _; simp
theorem do_slen {P : Program} {o : Oper} {a : Act} {w : World} {p : Value → World → Prop} {x : Operand} {t : TypeId} {l : List UInt8} (ho : o.op = .call { callee := .builtin .len, args := #[x], argTypes := #[t] }) (ht : P.underlying t = some .string) (h : a.eval x = .string ⟨l.toArray⟩) (hp : p (.int .i64 l.length) w) : Res P o a w p :=
  do_run (v := .int .i64 l.length) (by simp [execOp, ho, resolve, invoke, builtin, Sem.run_pure, Result.andThen, h, Builtin.len_, run_underlying ht, goInt, ba_size]) hp
theorem upw_no {last : List UInt8} {e : Ent} {l : List Ent} (h : eOk e = false ∨ bytesLess last e.1.b = false) : upw last (e :: l) = false := by
  simp only [upw]
  rcases h with h | h <;> simp [h]
theorem upw_yes {last : List UInt8} {e : Ent} {l : List Ent} (h : eOk e = true) (h2 : bytesLess last e.1.b = true) : upw last (e :: l) = upw e.1.b l := by
  simp only [upw, h, h2, Bool.and_true, Bool.true_and]
theorem less_nil (last : List UInt8) : bytesLess last [] = false := by cases last <;> rfl
theorem nil_less {t : List UInt8} (h : 0 < t.length) : bytesLess [] t = true := by
  cases t with
  | nil => simp at h
  | cons => rfl
theorem tlast_at {l : List Ent} {k j : Nat} (h : k = j + 1) (hj : j < l.length) : tlast [] (l.take k) = l[j].1.b := by
  rw [h, take_nextE l hj, tlast_snoc]
theorem take_tlast {l : List Ent} {k : Nat} (hk : k < l.length) : tlast [] (l.take (k + 1)) = l[k].1.b := by
  rw [take_nextE l hk, tlast_snoc]

set_option maxHeartbeats 8000000 in
set_option maxRecDepth 100000 in
theorem are_any (w : World) (v : Value) (l : List Ent) (hv : SL w (Bw w) v l) :
    Calls Try.prog 26 #[v] w fun e w' => e = .returned (.bool (esOk l)) ∧ Ext w w' := by
  obtain ⟨A, c, rfl, hc, hm⟩ := hv.form
  have hm' : (l.length : Int) ≤ 9223372036854775807 := by unfold maxLen at hm; omega
  have Hv := Lib.hid hv
  clear hv hm
  by_cases hL : l.length ≤ 262144
  · have hLi : (l.length : Int) ≤ 262144 := by omega
    have he : esOk l = upw [] l := by unfold esOk; rw [decide_eq_true hL, Bool.and_true]
    rw [he]
    clear he
    go_enter Try.func26, Try.ntmps26
    go_wp2_with fail
    go_loopw [3] (fun i wr => ∃ k : Nat, i = .int .i64 k ∧ k ≤ l.length ∧ upw [] l = upw (tlast [] (l.take k)) (l.drop k) ∧ Ext w wr) (fun i _ => l.length - (intOf i).toNat)
    case atStart => exact ⟨0, rfl, Nat.zero_le _, rfl, Below.refl _ _⟩
    case round =>
      obtain ⟨k, rfl, hk, hr, hx⟩ := hrel
      have Hx := Lib.hid hx
      by_cases hlt : k < l.length
      · obtain ⟨ad, rfl, _, hc0, hc1, hc2, hc3, h1, h2, h3, h4⟩ := (Hv.out.up hx).ent_at hlt
        have hpj : ∀ j, k = j + 1 → ∀ (hj : j < l.length), tlast [] (l.take k) = l[j].1.b := fun j h hj => tlast_at h hj
        have hnx := take_tlast hlt
        rw [List.drop_eq_getElem_cons hlt] at hr
        have hklt : (k : Int) < l.length := by omega
        generalize l[k] = N at hc0 hc1 hc2 hc3 h1 h2 h3 h4 hr hnx
        obtain ⟨⟨t⟩, x, y, z⟩ := N
        dsimp only at hc0 hc1 hc2 hc3 h1 h2 h3 h4 hr hnx
        have Hpj := Lib.hid hpj
        have Hnx := Lib.hid hnx
        have Hx2 := Lib.hid (Ext.al Hx.out (.cells #[.string ⟨t.toArray⟩, .int .i64 x, .int .i64 y, .int .i64 z] 42))
        have Q0 := Lib.hid (cell_new wr #[.string ⟨t.toArray⟩, .int .i64 x, .int .i64 y, .int .i64 z] 42 0 (v := .string ⟨t.toArray⟩) rfl)
        have Q1 := Lib.hid (cell_new wr #[.string ⟨t.toArray⟩, .int .i64 x, .int .i64 y, .int .i64 z] 42 1 (v := .int .i64 x) rfl)
        have Q2 := Lib.hid (cell_new wr #[.string ⟨t.toArray⟩, .int .i64 x, .int .i64 y, .int .i64 z] 42 2 (v := .int .i64 y) rfl)
        have Q3 := Lib.hid (cell_new wr #[.string ⟨t.toArray⟩, .int .i64 x, .int .i64 y, .int .i64 z] 42 3 (v := .int .i64 z) rfl)
        have Hr0 := Lib.hid hr
        clear hr hpj hnx hx
        by_cases c1 : t.length < 1
        · have D1 := Lib.hid (decide_eq_true (show (t.length : Int) < 1 by omega))
          have Hr := Lib.hid (show upw [] l = false by rw [Hr0.out]; exact upw_no (.inr (by rw [show t = [] from List.eq_nil_of_length_eq_zero (by omega)]; exact less_nil _)))
          clear c1
          go_wp2_with fail
          refine wp_region_list2 [Is (.pointer (some ⟨wr.heap.size, 0, none⟩)), Is (.string ⟨t.toArray⟩), Is (.int .i64 t.length), Is (.bool true), Is (.bool true), Is undef, Is undef, Is undef, Is undef, Is (.bool true), Is (.bool true), Is undef, Is undef, Is undef, Is undef, Is (.bool true), Is (.bool true), Is undef, Is undef, Is undef, Is undef, Is (.bool true), Is (.bool true), Is undef, Is undef, Is undef, Is undef, Is (.bool true), Is (.bool true), Is undef, Is undef, Is undef, Is undef, Is undef, Is undef, Is undef, Is undef, Is undef, Is undef, Is undef, Is undef, Is undef, Is (.bool true)] (by kernel_rfl) (by kernel_rfl) (by kernel_rfl) ?_ (Steps.all ?_) ?_
          · intro p hp
            simp only [List.mem_cons, List.not_mem_nil, or_false] at hp
            rcases hp with rfl | rfl | rfl | rfl | rfl | rfl | rfl | rfl | rfl | rfl | rfl | rfl | rfl | rfl | rfl | rfl | rfl | rfl | rfl | rfl | rfl | rfl | rfl | rfl | rfl | rfl | rfl | rfl | rfl | rfl | rfl | rfl | rfl | rfl | rfl | rfl | rfl | rfl | rfl | rfl | rfl | rfl | rfl
            all_goals first | exact mono_is _
          · refine Steps.cons_ (step_mk (Is (.pointer (some ⟨wr.heap.size, 0, none⟩))) rfl fun a W hx hE hO => ?_) ?_
            · have h4 : a.eval (.tmp 4) = .pointer (some ⟨wr.heap.size, 0, none⟩) := hO 4 (by kernel_rfl)
              refine yes_none rfl (do_run (by simp only [execOp, h4] <;> simp [go_sem, ]) rfl)
            refine Steps.cons_ (step_mk (Is (.string ⟨t.toArray⟩)) rfl fun a W hx hE hO => ?_) ?_
            · have h18 : a.eval (.tmp 18) = (.pointer (some ⟨wr.heap.size, 0, none⟩)) := hE 0 (by kernel_rfl) 18 rfl
              refine yes_none rfl ?_
              have q0 := Ext.keeps (Ext.trans (Ext.drew _) hx) Q0.out; exact do_run (by simp only [execOp, h18] <;> simp [go_sem, q0]) rfl
            refine Steps.cons_ (step_mk (Is (.int .i64 t.length)) rfl fun a W hx hE hO => ?_) ?_
            · have h19 : a.eval (.tmp 19) = (.string ⟨t.toArray⟩) := hE 1 (by kernel_rfl) 19 rfl
              refine yes_none rfl ?_
              exact do_slen rfl Try.underlying9 h19 rfl
            refine Steps.cons_ (step_mk (Is (.bool true)) rfl fun a W hx hE hO => ?_) ?_
            · have h20 : a.eval (.tmp 20) = (.int .i64 t.length) := hE 2 (by kernel_rfl) 20 rfl
              refine yes_none rfl ?_
              exact do_bin (v := .bool true) rfl h20 rfl (by simp [go_sem, D1.out]) rfl
            refine Steps.cons_ (step_mk (Is (.bool true)) rfl fun a W hx hE hO => ?_) ?_
            · have h21 : a.eval (.tmp 21) = (.bool true) := hE 3 (by kernel_rfl) 21 rfl
              exact yes_none rfl (do_move rfl h21)
            refine Steps.cons_ (step_mk (Is undef) rfl fun a W hx hE hO => ?_) ?_
            · have h22 : a.eval (.tmp 22) = (.bool true) := hE 4 (by kernel_rfl) 22 rfl
              have h4 : a.eval (.tmp 4) = .pointer (some ⟨wr.heap.size, 0, none⟩) := hO 4 (by kernel_rfl)
              exact no_is (j := 4) (d := 22) (b := false) rfl rfl h22 rfl
            refine Steps.cons_ (step_mk (Is undef) rfl fun a W hx hE hO => ?_) ?_
            · have h22 : a.eval (.tmp 22) = (.bool true) := hE 4 (by kernel_rfl) 22 rfl
              have h23 : a.eval (.tmp 23) = undef := hE 5 (by kernel_rfl) 23 rfl
              exact no_is (j := 4) (d := 22) (b := false) rfl rfl h22 rfl
            refine Steps.cons_ (step_mk (Is undef) rfl fun a W hx hE hO => ?_) ?_
            · have h22 : a.eval (.tmp 22) = (.bool true) := hE 4 (by kernel_rfl) 22 rfl
              have h24 : a.eval (.tmp 24) = undef := hE 6 (by kernel_rfl) 24 rfl
              exact no_is (j := 4) (d := 22) (b := false) rfl rfl h22 rfl
            refine Steps.cons_ (step_mk (Is undef) rfl fun a W hx hE hO => ?_) ?_
            · have h22 : a.eval (.tmp 22) = (.bool true) := hE 4 (by kernel_rfl) 22 rfl
              have h25 : a.eval (.tmp 25) = undef := hE 7 (by kernel_rfl) 25 rfl
              exact no_is (j := 4) (d := 22) (b := false) rfl rfl h22 rfl
            refine Steps.cons_ (step_mk (Is (.bool true)) rfl fun a W hx hE hO => ?_) ?_
            · have h22 : a.eval (.tmp 22) = (.bool true) := hE 4 (by kernel_rfl) 22 rfl
              have h26 : a.eval (.tmp 26) = undef := hE 8 (by kernel_rfl) 26 rfl
              exact yes_none rfl (do_pick rfl h22 rfl)
            refine Steps.cons_ (step_mk (Is (.bool true)) rfl fun a W hx hE hO => ?_) ?_
            · have h27 : a.eval (.tmp 27) = (.bool true) := hE 9 (by kernel_rfl) 27 rfl
              exact yes_none rfl (do_move rfl h27)
            refine Steps.cons_ (step_mk (Is undef) rfl fun a W hx hE hO => ?_) ?_
            · have h28 : a.eval (.tmp 28) = (.bool true) := hE 10 (by kernel_rfl) 28 rfl
              have h4 : a.eval (.tmp 4) = .pointer (some ⟨wr.heap.size, 0, none⟩) := hO 4 (by kernel_rfl)
              exact no_is (j := 10) (d := 28) (b := false) rfl rfl h28 rfl
            refine Steps.cons_ (step_mk (Is undef) rfl fun a W hx hE hO => ?_) ?_
            · have h28 : a.eval (.tmp 28) = (.bool true) := hE 10 (by kernel_rfl) 28 rfl
              have h29 : a.eval (.tmp 29) = undef := hE 11 (by kernel_rfl) 29 rfl
              exact no_is (j := 10) (d := 28) (b := false) rfl rfl h28 rfl
            refine Steps.cons_ (step_mk (Is undef) rfl fun a W hx hE hO => ?_) ?_
            · have h28 : a.eval (.tmp 28) = (.bool true) := hE 10 (by kernel_rfl) 28 rfl
              have h30 : a.eval (.tmp 30) = undef := hE 12 (by kernel_rfl) 30 rfl
              exact no_is (j := 10) (d := 28) (b := false) rfl rfl h28 rfl
            refine Steps.cons_ (step_mk (Is undef) rfl fun a W hx hE hO => ?_) ?_
            · have h28 : a.eval (.tmp 28) = (.bool true) := hE 10 (by kernel_rfl) 28 rfl
              have h31 : a.eval (.tmp 31) = undef := hE 13 (by kernel_rfl) 31 rfl
              exact no_is (j := 10) (d := 28) (b := false) rfl rfl h28 rfl
            refine Steps.cons_ (step_mk (Is (.bool true)) rfl fun a W hx hE hO => ?_) ?_
            · have h28 : a.eval (.tmp 28) = (.bool true) := hE 10 (by kernel_rfl) 28 rfl
              have h32 : a.eval (.tmp 32) = undef := hE 14 (by kernel_rfl) 32 rfl
              exact yes_none rfl (do_pick rfl h28 rfl)
            refine Steps.cons_ (step_mk (Is (.bool true)) rfl fun a W hx hE hO => ?_) ?_
            · have h33 : a.eval (.tmp 33) = (.bool true) := hE 15 (by kernel_rfl) 33 rfl
              exact yes_none rfl (do_move rfl h33)
            refine Steps.cons_ (step_mk (Is undef) rfl fun a W hx hE hO => ?_) ?_
            · have h34 : a.eval (.tmp 34) = (.bool true) := hE 16 (by kernel_rfl) 34 rfl
              have h4 : a.eval (.tmp 4) = .pointer (some ⟨wr.heap.size, 0, none⟩) := hO 4 (by kernel_rfl)
              exact no_is (j := 16) (d := 34) (b := false) rfl rfl h34 rfl
            refine Steps.cons_ (step_mk (Is undef) rfl fun a W hx hE hO => ?_) ?_
            · have h34 : a.eval (.tmp 34) = (.bool true) := hE 16 (by kernel_rfl) 34 rfl
              have h35 : a.eval (.tmp 35) = undef := hE 17 (by kernel_rfl) 35 rfl
              exact no_is (j := 16) (d := 34) (b := false) rfl rfl h34 rfl
            refine Steps.cons_ (step_mk (Is undef) rfl fun a W hx hE hO => ?_) ?_
            · have h34 : a.eval (.tmp 34) = (.bool true) := hE 16 (by kernel_rfl) 34 rfl
              have h36 : a.eval (.tmp 36) = undef := hE 18 (by kernel_rfl) 36 rfl
              exact no_is (j := 16) (d := 34) (b := false) rfl rfl h34 rfl
            refine Steps.cons_ (step_mk (Is undef) rfl fun a W hx hE hO => ?_) ?_
            · have h34 : a.eval (.tmp 34) = (.bool true) := hE 16 (by kernel_rfl) 34 rfl
              have h37 : a.eval (.tmp 37) = undef := hE 19 (by kernel_rfl) 37 rfl
              exact no_is (j := 16) (d := 34) (b := false) rfl rfl h34 rfl
            refine Steps.cons_ (step_mk (Is (.bool true)) rfl fun a W hx hE hO => ?_) ?_
            · have h34 : a.eval (.tmp 34) = (.bool true) := hE 16 (by kernel_rfl) 34 rfl
              have h38 : a.eval (.tmp 38) = undef := hE 20 (by kernel_rfl) 38 rfl
              exact yes_none rfl (do_pick rfl h34 rfl)
            refine Steps.cons_ (step_mk (Is (.bool true)) rfl fun a W hx hE hO => ?_) ?_
            · have h39 : a.eval (.tmp 39) = (.bool true) := hE 21 (by kernel_rfl) 39 rfl
              exact yes_none rfl (do_move rfl h39)
            refine Steps.cons_ (step_mk (Is undef) rfl fun a W hx hE hO => ?_) ?_
            · have h40 : a.eval (.tmp 40) = (.bool true) := hE 22 (by kernel_rfl) 40 rfl
              have h4 : a.eval (.tmp 4) = .pointer (some ⟨wr.heap.size, 0, none⟩) := hO 4 (by kernel_rfl)
              exact no_is (j := 22) (d := 40) (b := false) rfl rfl h40 rfl
            refine Steps.cons_ (step_mk (Is undef) rfl fun a W hx hE hO => ?_) ?_
            · have h40 : a.eval (.tmp 40) = (.bool true) := hE 22 (by kernel_rfl) 40 rfl
              have h41 : a.eval (.tmp 41) = undef := hE 23 (by kernel_rfl) 41 rfl
              exact no_is (j := 22) (d := 40) (b := false) rfl rfl h40 rfl
            refine Steps.cons_ (step_mk (Is undef) rfl fun a W hx hE hO => ?_) ?_
            · have h40 : a.eval (.tmp 40) = (.bool true) := hE 22 (by kernel_rfl) 40 rfl
              have h42 : a.eval (.tmp 42) = undef := hE 24 (by kernel_rfl) 42 rfl
              exact no_is (j := 22) (d := 40) (b := false) rfl rfl h40 rfl
            refine Steps.cons_ (step_mk (Is undef) rfl fun a W hx hE hO => ?_) ?_
            · have h40 : a.eval (.tmp 40) = (.bool true) := hE 22 (by kernel_rfl) 40 rfl
              have h43 : a.eval (.tmp 43) = undef := hE 25 (by kernel_rfl) 43 rfl
              exact no_is (j := 22) (d := 40) (b := false) rfl rfl h40 rfl
            refine Steps.cons_ (step_mk (Is (.bool true)) rfl fun a W hx hE hO => ?_) ?_
            · have h40 : a.eval (.tmp 40) = (.bool true) := hE 22 (by kernel_rfl) 40 rfl
              have h44 : a.eval (.tmp 44) = undef := hE 26 (by kernel_rfl) 44 rfl
              exact yes_none rfl (do_pick rfl h40 rfl)
            refine Steps.cons_ (step_mk (Is (.bool true)) rfl fun a W hx hE hO => ?_) ?_
            · have h45 : a.eval (.tmp 45) = (.bool true) := hE 27 (by kernel_rfl) 45 rfl
              exact yes_none rfl (do_move rfl h45)
            refine Steps.cons_ (step_mk (Is undef) rfl fun a W hx hE hO => ?_) ?_
            · have h46 : a.eval (.tmp 46) = (.bool true) := hE 28 (by kernel_rfl) 46 rfl
              have h3 : a.eval (.tmp 3) = .int .i64 k := hO 3 (by kernel_rfl)
              exact no_is (j := 28) (d := 46) (b := false) rfl rfl h46 rfl
            refine Steps.cons_ (step_mk (Is undef) rfl fun a W hx hE hO => ?_) ?_
            · have h46 : a.eval (.tmp 46) = (.bool true) := hE 28 (by kernel_rfl) 46 rfl
              have h47 : a.eval (.tmp 47) = undef := hE 29 (by kernel_rfl) 47 rfl
              exact no_is (j := 28) (d := 46) (b := false) rfl rfl h46 rfl
            refine Steps.cons_ (step_mk (Is undef) rfl fun a W hx hE hO => ?_) ?_
            · have h46 : a.eval (.tmp 46) = (.bool true) := hE 28 (by kernel_rfl) 46 rfl
              have h48 : a.eval (.tmp 48) = undef := hE 30 (by kernel_rfl) 48 rfl
              exact no_is (j := 28) (d := 46) (b := false) rfl rfl h46 rfl
            refine Steps.cons_ (step_mk (Is undef) rfl fun a W hx hE hO => ?_) ?_
            · have h49 : a.eval (.tmp 49) = undef := hE 31 (by kernel_rfl) 49 rfl
              have h0 : a.eval (.tmp 0) = .slice (some ad) l.length c := hO 0 (by kernel_rfl)
              exact no_undef (j := 31) (d := 49) (b := true) rfl rfl h49 rfl
            refine Steps.cons_ (step_mk (Is undef) rfl fun a W hx hE hO => ?_) ?_
            · have h49 : a.eval (.tmp 49) = undef := hE 31 (by kernel_rfl) 49 rfl
              have h3 : a.eval (.tmp 3) = .int .i64 k := hO 3 (by kernel_rfl)
              exact no_undef (j := 31) (d := 49) (b := true) rfl rfl h49 rfl
            refine Steps.cons_ (step_mk (Is undef) rfl fun a W hx hE hO => ?_) ?_
            · have h49 : a.eval (.tmp 49) = undef := hE 31 (by kernel_rfl) 49 rfl
              have h51 : a.eval (.tmp 51) = undef := hE 33 (by kernel_rfl) 51 rfl
              exact no_undef (j := 31) (d := 49) (b := true) rfl rfl h49 rfl
            refine Steps.cons_ (step_mk (Is undef) rfl fun a W hx hE hO => ?_) ?_
            · have h49 : a.eval (.tmp 49) = undef := hE 31 (by kernel_rfl) 49 rfl
              have h50 : a.eval (.tmp 50) = undef := hE 32 (by kernel_rfl) 50 rfl
              have h52 : a.eval (.tmp 52) = undef := hE 34 (by kernel_rfl) 52 rfl
              exact no_undef (j := 31) (d := 49) (b := true) rfl rfl h49 rfl
            refine Steps.cons_ (step_mk (Is undef) rfl fun a W hx hE hO => ?_) ?_
            · have h49 : a.eval (.tmp 49) = undef := hE 31 (by kernel_rfl) 49 rfl
              have h53 : a.eval (.tmp 53) = undef := hE 35 (by kernel_rfl) 53 rfl
              exact no_undef (j := 31) (d := 49) (b := true) rfl rfl h49 rfl
            refine Steps.cons_ (step_mk (Is undef) rfl fun a W hx hE hO => ?_) ?_
            · have h49 : a.eval (.tmp 49) = undef := hE 31 (by kernel_rfl) 49 rfl
              have h54 : a.eval (.tmp 54) = undef := hE 36 (by kernel_rfl) 54 rfl
              exact no_undef (j := 31) (d := 49) (b := true) rfl rfl h49 rfl
            refine Steps.cons_ (step_mk (Is undef) rfl fun a W hx hE hO => ?_) ?_
            · have h49 : a.eval (.tmp 49) = undef := hE 31 (by kernel_rfl) 49 rfl
              have h4 : a.eval (.tmp 4) = .pointer (some ⟨wr.heap.size, 0, none⟩) := hO 4 (by kernel_rfl)
              exact no_undef (j := 31) (d := 49) (b := true) rfl rfl h49 rfl
            refine Steps.cons_ (step_mk (Is undef) rfl fun a W hx hE hO => ?_) ?_
            · have h49 : a.eval (.tmp 49) = undef := hE 31 (by kernel_rfl) 49 rfl
              have h56 : a.eval (.tmp 56) = undef := hE 38 (by kernel_rfl) 56 rfl
              exact no_undef (j := 31) (d := 49) (b := true) rfl rfl h49 rfl
            refine Steps.cons_ (step_mk (Is undef) rfl fun a W hx hE hO => ?_) ?_
            · have h49 : a.eval (.tmp 49) = undef := hE 31 (by kernel_rfl) 49 rfl
              have h55 : a.eval (.tmp 55) = undef := hE 37 (by kernel_rfl) 55 rfl
              have h57 : a.eval (.tmp 57) = undef := hE 39 (by kernel_rfl) 57 rfl
              exact no_undef (j := 31) (d := 49) (b := true) rfl rfl h49 rfl
            refine Steps.cons_ (step_mk (Is undef) rfl fun a W hx hE hO => ?_) ?_
            · have h46 : a.eval (.tmp 46) = (.bool true) := hE 28 (by kernel_rfl) 46 rfl
              have h49 : a.eval (.tmp 49) = undef := hE 31 (by kernel_rfl) 49 rfl
              have h58 : a.eval (.tmp 58) = undef := hE 40 (by kernel_rfl) 58 rfl
              exact no_is (j := 28) (d := 46) (b := false) rfl rfl h46 rfl
            refine Steps.cons_ (step_mk (Is (.bool true)) rfl fun a W hx hE hO => ?_) ?_
            · have h46 : a.eval (.tmp 46) = (.bool true) := hE 28 (by kernel_rfl) 46 rfl
              have h59 : a.eval (.tmp 59) = undef := hE 41 (by kernel_rfl) 59 rfl
              exact yes_none rfl (do_pick rfl h46 rfl)
            exact Steps.nil_
          · intro a W hx hd hsz hE hO
            have h60 : a.eval (.tmp 60) = (.bool true) := hE 42 (of_decide_eq_true (by kernel_rfl)) 60 rfl
            have hmix := act_mix [false, false, false, false, false, false, false, false, false, false, false, false, false, false, false, false, false, false, true, true, true, true, true, true, true, true, true, true, true, true, true, true, true, true, true, true, true, true, true, true, true, true, true, true, true, true, true, true, true, true, true, true, true, true, true, true, true, true, true, true, true] (by kernel_rfl) hsz hd hO
            simp only [mixA, Nat.reduceAdd, Nat.zero_add] at hmix
            rw [hmix]
            rw [h60]
            generalize a.eval (.tmp 18) = u18
            generalize a.eval (.tmp 19) = u19
            generalize a.eval (.tmp 20) = u20
            generalize a.eval (.tmp 21) = u21
            generalize a.eval (.tmp 22) = u22
            generalize a.eval (.tmp 23) = u23
            generalize a.eval (.tmp 24) = u24
            generalize a.eval (.tmp 25) = u25
            generalize a.eval (.tmp 26) = u26
            generalize a.eval (.tmp 27) = u27
            generalize a.eval (.tmp 28) = u28
            generalize a.eval (.tmp 29) = u29
            generalize a.eval (.tmp 30) = u30
            generalize a.eval (.tmp 31) = u31
            generalize a.eval (.tmp 32) = u32
            generalize a.eval (.tmp 33) = u33
            generalize a.eval (.tmp 34) = u34
            generalize a.eval (.tmp 35) = u35
            generalize a.eval (.tmp 36) = u36
            generalize a.eval (.tmp 37) = u37
            generalize a.eval (.tmp 38) = u38
            generalize a.eval (.tmp 39) = u39
            generalize a.eval (.tmp 40) = u40
            generalize a.eval (.tmp 41) = u41
            generalize a.eval (.tmp 42) = u42
            generalize a.eval (.tmp 43) = u43
            generalize a.eval (.tmp 44) = u44
            generalize a.eval (.tmp 45) = u45
            generalize a.eval (.tmp 46) = u46
            generalize a.eval (.tmp 47) = u47
            generalize a.eval (.tmp 48) = u48
            generalize a.eval (.tmp 49) = u49
            generalize a.eval (.tmp 50) = u50
            generalize a.eval (.tmp 51) = u51
            generalize a.eval (.tmp 52) = u52
            generalize a.eval (.tmp 53) = u53
            generalize a.eval (.tmp 54) = u54
            generalize a.eval (.tmp 55) = u55
            generalize a.eval (.tmp 56) = u56
            generalize a.eval (.tmp 57) = u57
            generalize a.eval (.tmp 58) = u58
            generalize a.eval (.tmp 59) = u59
            clear hmix hd hsz hE hO
            go_wp2
            go_ret
            exact ⟨by rw [Hr.out]; rfl, Ext.trans Hx2.out hx⟩
        have D1 := Lib.hid (decide_eq_false (show ¬(t.length : Int) < 1 by omega))
        by_cases c2 : t.length ≤ 65
        rotate_left
        · have D2 := Lib.hid (decide_eq_true (show (65 : Int) < t.length by omega))
          have Hr := Lib.hid (show upw [] l = false by rw [Hr0.out]; exact upw_no (.inl (by unfold eOk; rw [decide_eq_false c2]; rfl)))
          clear c1 c2
          go_wp2_with fail
          refine wp_region_list2 [Is (.pointer (some ⟨wr.heap.size, 0, none⟩)), Is (.string ⟨t.toArray⟩), Is (.int .i64 t.length), Is (.bool false), Is (.bool false), Is (.pointer (some ⟨wr.heap.size, 0, none⟩)), Is (.string ⟨t.toArray⟩), Is (.int .i64 t.length), Is (.bool true), Is (.bool true), Is (.bool true), Is undef, Is undef, Is undef, Is undef, Is (.bool true), Is (.bool true), Is undef, Is undef, Is undef, Is undef, Is (.bool true), Is (.bool true), Is undef, Is undef, Is undef, Is undef, Is (.bool true), Is (.bool true), Is undef, Is undef, Is undef, Is undef, Is undef, Is undef, Is undef, Is undef, Is undef, Is undef, Is undef, Is undef, Is undef, Is (.bool true)] (by kernel_rfl) (by kernel_rfl) (by kernel_rfl) ?_ (Steps.all ?_) ?_
          · intro p hp
            simp only [List.mem_cons, List.not_mem_nil, or_false] at hp
            rcases hp with rfl | rfl | rfl | rfl | rfl | rfl | rfl | rfl | rfl | rfl | rfl | rfl | rfl | rfl | rfl | rfl | rfl | rfl | rfl | rfl | rfl | rfl | rfl | rfl | rfl | rfl | rfl | rfl | rfl | rfl | rfl | rfl | rfl | rfl | rfl | rfl | rfl | rfl | rfl | rfl | rfl | rfl | rfl
            all_goals first | exact mono_is _
          · refine Steps.cons_ (step_mk (Is (.pointer (some ⟨wr.heap.size, 0, none⟩))) rfl fun a W hx hE hO => ?_) ?_
            · have h4 : a.eval (.tmp 4) = .pointer (some ⟨wr.heap.size, 0, none⟩) := hO 4 (by kernel_rfl)
              refine yes_none rfl (do_run (by simp only [execOp, h4] <;> simp [go_sem, ]) rfl)
            refine Steps.cons_ (step_mk (Is (.string ⟨t.toArray⟩)) rfl fun a W hx hE hO => ?_) ?_
            · have h18 : a.eval (.tmp 18) = (.pointer (some ⟨wr.heap.size, 0, none⟩)) := hE 0 (by kernel_rfl) 18 rfl
              refine yes_none rfl ?_
              have q0 := Ext.keeps (Ext.trans (Ext.drew _) hx) Q0.out; exact do_run (by simp only [execOp, h18] <;> simp [go_sem, q0]) rfl
            refine Steps.cons_ (step_mk (Is (.int .i64 t.length)) rfl fun a W hx hE hO => ?_) ?_
            · have h19 : a.eval (.tmp 19) = (.string ⟨t.toArray⟩) := hE 1 (by kernel_rfl) 19 rfl
              refine yes_none rfl ?_
              exact do_slen rfl Try.underlying9 h19 rfl
            refine Steps.cons_ (step_mk (Is (.bool false)) rfl fun a W hx hE hO => ?_) ?_
            · have h20 : a.eval (.tmp 20) = (.int .i64 t.length) := hE 2 (by kernel_rfl) 20 rfl
              refine yes_none rfl ?_
              exact do_bin (v := .bool false) rfl h20 rfl (by simp [go_sem, D1.out]) rfl
            refine Steps.cons_ (step_mk (Is (.bool false)) rfl fun a W hx hE hO => ?_) ?_
            · have h21 : a.eval (.tmp 21) = (.bool false) := hE 3 (by kernel_rfl) 21 rfl
              exact yes_none rfl (do_move rfl h21)
            refine Steps.cons_ (step_mk (Is (.pointer (some ⟨wr.heap.size, 0, none⟩))) rfl fun a W hx hE hO => ?_) ?_
            · have h22 : a.eval (.tmp 22) = (.bool false) := hE 4 (by kernel_rfl) 22 rfl
              have h4 : a.eval (.tmp 4) = .pointer (some ⟨wr.heap.size, 0, none⟩) := hO 4 (by kernel_rfl)
              refine yes_is (j := 4) (d := 22) (b := false) rfl rfl h22 (do_run (by simp only [execOp, h4] <;> simp [go_sem, ]) rfl)
            refine Steps.cons_ (step_mk (Is (.string ⟨t.toArray⟩)) rfl fun a W hx hE hO => ?_) ?_
            · have h22 : a.eval (.tmp 22) = (.bool false) := hE 4 (by kernel_rfl) 22 rfl
              have h23 : a.eval (.tmp 23) = (.pointer (some ⟨wr.heap.size, 0, none⟩)) := hE 5 (by kernel_rfl) 23 rfl
              refine yes_is (j := 4) (d := 22) (b := false) rfl rfl h22 ?_
              have q0 := Ext.keeps (Ext.trans (Ext.drew _) hx) Q0.out; exact do_run (by simp only [execOp, h23] <;> simp [go_sem, q0]) rfl
            refine Steps.cons_ (step_mk (Is (.int .i64 t.length)) rfl fun a W hx hE hO => ?_) ?_
            · have h22 : a.eval (.tmp 22) = (.bool false) := hE 4 (by kernel_rfl) 22 rfl
              have h24 : a.eval (.tmp 24) = (.string ⟨t.toArray⟩) := hE 6 (by kernel_rfl) 24 rfl
              refine yes_is (j := 4) (d := 22) (b := false) rfl rfl h22 ?_
              exact do_slen rfl Try.underlying9 h24 rfl
            refine Steps.cons_ (step_mk (Is (.bool true)) rfl fun a W hx hE hO => ?_) ?_
            · have h22 : a.eval (.tmp 22) = (.bool false) := hE 4 (by kernel_rfl) 22 rfl
              have h25 : a.eval (.tmp 25) = (.int .i64 t.length) := hE 7 (by kernel_rfl) 25 rfl
              refine yes_is (j := 4) (d := 22) (b := false) rfl rfl h22 ?_
              exact do_bin (v := .bool true) rfl h25 rfl (by simp [go_sem, D2.out]) rfl
            refine Steps.cons_ (step_mk (Is (.bool true)) rfl fun a W hx hE hO => ?_) ?_
            · have h22 : a.eval (.tmp 22) = (.bool false) := hE 4 (by kernel_rfl) 22 rfl
              have h26 : a.eval (.tmp 26) = (.bool true) := hE 8 (by kernel_rfl) 26 rfl
              exact yes_none rfl (do_pick_no rfl h22 h26)
            refine Steps.cons_ (step_mk (Is (.bool true)) rfl fun a W hx hE hO => ?_) ?_
            · have h27 : a.eval (.tmp 27) = (.bool true) := hE 9 (by kernel_rfl) 27 rfl
              exact yes_none rfl (do_move rfl h27)
            refine Steps.cons_ (step_mk (Is undef) rfl fun a W hx hE hO => ?_) ?_
            · have h28 : a.eval (.tmp 28) = (.bool true) := hE 10 (by kernel_rfl) 28 rfl
              have h4 : a.eval (.tmp 4) = .pointer (some ⟨wr.heap.size, 0, none⟩) := hO 4 (by kernel_rfl)
              exact no_is (j := 10) (d := 28) (b := false) rfl rfl h28 rfl
            refine Steps.cons_ (step_mk (Is undef) rfl fun a W hx hE hO => ?_) ?_
            · have h28 : a.eval (.tmp 28) = (.bool true) := hE 10 (by kernel_rfl) 28 rfl
              have h29 : a.eval (.tmp 29) = undef := hE 11 (by kernel_rfl) 29 rfl
              exact no_is (j := 10) (d := 28) (b := false) rfl rfl h28 rfl
            refine Steps.cons_ (step_mk (Is undef) rfl fun a W hx hE hO => ?_) ?_
            · have h28 : a.eval (.tmp 28) = (.bool true) := hE 10 (by kernel_rfl) 28 rfl
              have h30 : a.eval (.tmp 30) = undef := hE 12 (by kernel_rfl) 30 rfl
              exact no_is (j := 10) (d := 28) (b := false) rfl rfl h28 rfl
            refine Steps.cons_ (step_mk (Is undef) rfl fun a W hx hE hO => ?_) ?_
            · have h28 : a.eval (.tmp 28) = (.bool true) := hE 10 (by kernel_rfl) 28 rfl
              have h31 : a.eval (.tmp 31) = undef := hE 13 (by kernel_rfl) 31 rfl
              exact no_is (j := 10) (d := 28) (b := false) rfl rfl h28 rfl
            refine Steps.cons_ (step_mk (Is (.bool true)) rfl fun a W hx hE hO => ?_) ?_
            · have h28 : a.eval (.tmp 28) = (.bool true) := hE 10 (by kernel_rfl) 28 rfl
              have h32 : a.eval (.tmp 32) = undef := hE 14 (by kernel_rfl) 32 rfl
              exact yes_none rfl (do_pick rfl h28 rfl)
            refine Steps.cons_ (step_mk (Is (.bool true)) rfl fun a W hx hE hO => ?_) ?_
            · have h33 : a.eval (.tmp 33) = (.bool true) := hE 15 (by kernel_rfl) 33 rfl
              exact yes_none rfl (do_move rfl h33)
            refine Steps.cons_ (step_mk (Is undef) rfl fun a W hx hE hO => ?_) ?_
            · have h34 : a.eval (.tmp 34) = (.bool true) := hE 16 (by kernel_rfl) 34 rfl
              have h4 : a.eval (.tmp 4) = .pointer (some ⟨wr.heap.size, 0, none⟩) := hO 4 (by kernel_rfl)
              exact no_is (j := 16) (d := 34) (b := false) rfl rfl h34 rfl
            refine Steps.cons_ (step_mk (Is undef) rfl fun a W hx hE hO => ?_) ?_
            · have h34 : a.eval (.tmp 34) = (.bool true) := hE 16 (by kernel_rfl) 34 rfl
              have h35 : a.eval (.tmp 35) = undef := hE 17 (by kernel_rfl) 35 rfl
              exact no_is (j := 16) (d := 34) (b := false) rfl rfl h34 rfl
            refine Steps.cons_ (step_mk (Is undef) rfl fun a W hx hE hO => ?_) ?_
            · have h34 : a.eval (.tmp 34) = (.bool true) := hE 16 (by kernel_rfl) 34 rfl
              have h36 : a.eval (.tmp 36) = undef := hE 18 (by kernel_rfl) 36 rfl
              exact no_is (j := 16) (d := 34) (b := false) rfl rfl h34 rfl
            refine Steps.cons_ (step_mk (Is undef) rfl fun a W hx hE hO => ?_) ?_
            · have h34 : a.eval (.tmp 34) = (.bool true) := hE 16 (by kernel_rfl) 34 rfl
              have h37 : a.eval (.tmp 37) = undef := hE 19 (by kernel_rfl) 37 rfl
              exact no_is (j := 16) (d := 34) (b := false) rfl rfl h34 rfl
            refine Steps.cons_ (step_mk (Is (.bool true)) rfl fun a W hx hE hO => ?_) ?_
            · have h34 : a.eval (.tmp 34) = (.bool true) := hE 16 (by kernel_rfl) 34 rfl
              have h38 : a.eval (.tmp 38) = undef := hE 20 (by kernel_rfl) 38 rfl
              exact yes_none rfl (do_pick rfl h34 rfl)
            refine Steps.cons_ (step_mk (Is (.bool true)) rfl fun a W hx hE hO => ?_) ?_
            · have h39 : a.eval (.tmp 39) = (.bool true) := hE 21 (by kernel_rfl) 39 rfl
              exact yes_none rfl (do_move rfl h39)
            refine Steps.cons_ (step_mk (Is undef) rfl fun a W hx hE hO => ?_) ?_
            · have h40 : a.eval (.tmp 40) = (.bool true) := hE 22 (by kernel_rfl) 40 rfl
              have h4 : a.eval (.tmp 4) = .pointer (some ⟨wr.heap.size, 0, none⟩) := hO 4 (by kernel_rfl)
              exact no_is (j := 22) (d := 40) (b := false) rfl rfl h40 rfl
            refine Steps.cons_ (step_mk (Is undef) rfl fun a W hx hE hO => ?_) ?_
            · have h40 : a.eval (.tmp 40) = (.bool true) := hE 22 (by kernel_rfl) 40 rfl
              have h41 : a.eval (.tmp 41) = undef := hE 23 (by kernel_rfl) 41 rfl
              exact no_is (j := 22) (d := 40) (b := false) rfl rfl h40 rfl
            refine Steps.cons_ (step_mk (Is undef) rfl fun a W hx hE hO => ?_) ?_
            · have h40 : a.eval (.tmp 40) = (.bool true) := hE 22 (by kernel_rfl) 40 rfl
              have h42 : a.eval (.tmp 42) = undef := hE 24 (by kernel_rfl) 42 rfl
              exact no_is (j := 22) (d := 40) (b := false) rfl rfl h40 rfl
            refine Steps.cons_ (step_mk (Is undef) rfl fun a W hx hE hO => ?_) ?_
            · have h40 : a.eval (.tmp 40) = (.bool true) := hE 22 (by kernel_rfl) 40 rfl
              have h43 : a.eval (.tmp 43) = undef := hE 25 (by kernel_rfl) 43 rfl
              exact no_is (j := 22) (d := 40) (b := false) rfl rfl h40 rfl
            refine Steps.cons_ (step_mk (Is (.bool true)) rfl fun a W hx hE hO => ?_) ?_
            · have h40 : a.eval (.tmp 40) = (.bool true) := hE 22 (by kernel_rfl) 40 rfl
              have h44 : a.eval (.tmp 44) = undef := hE 26 (by kernel_rfl) 44 rfl
              exact yes_none rfl (do_pick rfl h40 rfl)
            refine Steps.cons_ (step_mk (Is (.bool true)) rfl fun a W hx hE hO => ?_) ?_
            · have h45 : a.eval (.tmp 45) = (.bool true) := hE 27 (by kernel_rfl) 45 rfl
              exact yes_none rfl (do_move rfl h45)
            refine Steps.cons_ (step_mk (Is undef) rfl fun a W hx hE hO => ?_) ?_
            · have h46 : a.eval (.tmp 46) = (.bool true) := hE 28 (by kernel_rfl) 46 rfl
              have h3 : a.eval (.tmp 3) = .int .i64 k := hO 3 (by kernel_rfl)
              exact no_is (j := 28) (d := 46) (b := false) rfl rfl h46 rfl
            refine Steps.cons_ (step_mk (Is undef) rfl fun a W hx hE hO => ?_) ?_
            · have h46 : a.eval (.tmp 46) = (.bool true) := hE 28 (by kernel_rfl) 46 rfl
              have h47 : a.eval (.tmp 47) = undef := hE 29 (by kernel_rfl) 47 rfl
              exact no_is (j := 28) (d := 46) (b := false) rfl rfl h46 rfl
            refine Steps.cons_ (step_mk (Is undef) rfl fun a W hx hE hO => ?_) ?_
            · have h46 : a.eval (.tmp 46) = (.bool true) := hE 28 (by kernel_rfl) 46 rfl
              have h48 : a.eval (.tmp 48) = undef := hE 30 (by kernel_rfl) 48 rfl
              exact no_is (j := 28) (d := 46) (b := false) rfl rfl h46 rfl
            refine Steps.cons_ (step_mk (Is undef) rfl fun a W hx hE hO => ?_) ?_
            · have h49 : a.eval (.tmp 49) = undef := hE 31 (by kernel_rfl) 49 rfl
              have h0 : a.eval (.tmp 0) = .slice (some ad) l.length c := hO 0 (by kernel_rfl)
              exact no_undef (j := 31) (d := 49) (b := true) rfl rfl h49 rfl
            refine Steps.cons_ (step_mk (Is undef) rfl fun a W hx hE hO => ?_) ?_
            · have h49 : a.eval (.tmp 49) = undef := hE 31 (by kernel_rfl) 49 rfl
              have h3 : a.eval (.tmp 3) = .int .i64 k := hO 3 (by kernel_rfl)
              exact no_undef (j := 31) (d := 49) (b := true) rfl rfl h49 rfl
            refine Steps.cons_ (step_mk (Is undef) rfl fun a W hx hE hO => ?_) ?_
            · have h49 : a.eval (.tmp 49) = undef := hE 31 (by kernel_rfl) 49 rfl
              have h51 : a.eval (.tmp 51) = undef := hE 33 (by kernel_rfl) 51 rfl
              exact no_undef (j := 31) (d := 49) (b := true) rfl rfl h49 rfl
            refine Steps.cons_ (step_mk (Is undef) rfl fun a W hx hE hO => ?_) ?_
            · have h49 : a.eval (.tmp 49) = undef := hE 31 (by kernel_rfl) 49 rfl
              have h50 : a.eval (.tmp 50) = undef := hE 32 (by kernel_rfl) 50 rfl
              have h52 : a.eval (.tmp 52) = undef := hE 34 (by kernel_rfl) 52 rfl
              exact no_undef (j := 31) (d := 49) (b := true) rfl rfl h49 rfl
            refine Steps.cons_ (step_mk (Is undef) rfl fun a W hx hE hO => ?_) ?_
            · have h49 : a.eval (.tmp 49) = undef := hE 31 (by kernel_rfl) 49 rfl
              have h53 : a.eval (.tmp 53) = undef := hE 35 (by kernel_rfl) 53 rfl
              exact no_undef (j := 31) (d := 49) (b := true) rfl rfl h49 rfl
            refine Steps.cons_ (step_mk (Is undef) rfl fun a W hx hE hO => ?_) ?_
            · have h49 : a.eval (.tmp 49) = undef := hE 31 (by kernel_rfl) 49 rfl
              have h54 : a.eval (.tmp 54) = undef := hE 36 (by kernel_rfl) 54 rfl
              exact no_undef (j := 31) (d := 49) (b := true) rfl rfl h49 rfl
            refine Steps.cons_ (step_mk (Is undef) rfl fun a W hx hE hO => ?_) ?_
            · have h49 : a.eval (.tmp 49) = undef := hE 31 (by kernel_rfl) 49 rfl
              have h4 : a.eval (.tmp 4) = .pointer (some ⟨wr.heap.size, 0, none⟩) := hO 4 (by kernel_rfl)
              exact no_undef (j := 31) (d := 49) (b := true) rfl rfl h49 rfl
            refine Steps.cons_ (step_mk (Is undef) rfl fun a W hx hE hO => ?_) ?_
            · have h49 : a.eval (.tmp 49) = undef := hE 31 (by kernel_rfl) 49 rfl
              have h56 : a.eval (.tmp 56) = undef := hE 38 (by kernel_rfl) 56 rfl
              exact no_undef (j := 31) (d := 49) (b := true) rfl rfl h49 rfl
            refine Steps.cons_ (step_mk (Is undef) rfl fun a W hx hE hO => ?_) ?_
            · have h49 : a.eval (.tmp 49) = undef := hE 31 (by kernel_rfl) 49 rfl
              have h55 : a.eval (.tmp 55) = undef := hE 37 (by kernel_rfl) 55 rfl
              have h57 : a.eval (.tmp 57) = undef := hE 39 (by kernel_rfl) 57 rfl
              exact no_undef (j := 31) (d := 49) (b := true) rfl rfl h49 rfl
            refine Steps.cons_ (step_mk (Is undef) rfl fun a W hx hE hO => ?_) ?_
            · have h46 : a.eval (.tmp 46) = (.bool true) := hE 28 (by kernel_rfl) 46 rfl
              have h49 : a.eval (.tmp 49) = undef := hE 31 (by kernel_rfl) 49 rfl
              have h58 : a.eval (.tmp 58) = undef := hE 40 (by kernel_rfl) 58 rfl
              exact no_is (j := 28) (d := 46) (b := false) rfl rfl h46 rfl
            refine Steps.cons_ (step_mk (Is (.bool true)) rfl fun a W hx hE hO => ?_) ?_
            · have h46 : a.eval (.tmp 46) = (.bool true) := hE 28 (by kernel_rfl) 46 rfl
              have h59 : a.eval (.tmp 59) = undef := hE 41 (by kernel_rfl) 59 rfl
              exact yes_none rfl (do_pick rfl h46 rfl)
            exact Steps.nil_
          · intro a W hx hd hsz hE hO
            have h60 : a.eval (.tmp 60) = (.bool true) := hE 42 (of_decide_eq_true (by kernel_rfl)) 60 rfl
            have hmix := act_mix [false, false, false, false, false, false, false, false, false, false, false, false, false, false, false, false, false, false, true, true, true, true, true, true, true, true, true, true, true, true, true, true, true, true, true, true, true, true, true, true, true, true, true, true, true, true, true, true, true, true, true, true, true, true, true, true, true, true, true, true, true] (by kernel_rfl) hsz hd hO
            simp only [mixA, Nat.reduceAdd, Nat.zero_add] at hmix
            rw [hmix]
            rw [h60]
            generalize a.eval (.tmp 18) = u18
            generalize a.eval (.tmp 19) = u19
            generalize a.eval (.tmp 20) = u20
            generalize a.eval (.tmp 21) = u21
            generalize a.eval (.tmp 22) = u22
            generalize a.eval (.tmp 23) = u23
            generalize a.eval (.tmp 24) = u24
            generalize a.eval (.tmp 25) = u25
            generalize a.eval (.tmp 26) = u26
            generalize a.eval (.tmp 27) = u27
            generalize a.eval (.tmp 28) = u28
            generalize a.eval (.tmp 29) = u29
            generalize a.eval (.tmp 30) = u30
            generalize a.eval (.tmp 31) = u31
            generalize a.eval (.tmp 32) = u32
            generalize a.eval (.tmp 33) = u33
            generalize a.eval (.tmp 34) = u34
            generalize a.eval (.tmp 35) = u35
            generalize a.eval (.tmp 36) = u36
            generalize a.eval (.tmp 37) = u37
            generalize a.eval (.tmp 38) = u38
            generalize a.eval (.tmp 39) = u39
            generalize a.eval (.tmp 40) = u40
            generalize a.eval (.tmp 41) = u41
            generalize a.eval (.tmp 42) = u42
            generalize a.eval (.tmp 43) = u43
            generalize a.eval (.tmp 44) = u44
            generalize a.eval (.tmp 45) = u45
            generalize a.eval (.tmp 46) = u46
            generalize a.eval (.tmp 47) = u47
            generalize a.eval (.tmp 48) = u48
            generalize a.eval (.tmp 49) = u49
            generalize a.eval (.tmp 50) = u50
            generalize a.eval (.tmp 51) = u51
            generalize a.eval (.tmp 52) = u52
            generalize a.eval (.tmp 53) = u53
            generalize a.eval (.tmp 54) = u54
            generalize a.eval (.tmp 55) = u55
            generalize a.eval (.tmp 56) = u56
            generalize a.eval (.tmp 57) = u57
            generalize a.eval (.tmp 58) = u58
            generalize a.eval (.tmp 59) = u59
            clear hmix hd hsz hE hO
            go_wp2
            go_ret
            exact ⟨by rw [Hr.out]; rfl, Ext.trans Hx2.out hx⟩
        have D2 := Lib.hid (decide_eq_false (show ¬(65 : Int) < t.length by omega))
        cases p1 : pl x with
        | false =>
          have P1 := Lib.hid p1
          have Hr := Lib.hid (show upw [] l = false by rw [Hr0.out]; exact upw_no (.inl (by unfold eOk; simp only [p1]; simp)))
          clear c1 c2 p1
          go_wp2_with fail
          refine wp_region_list2 [Is (.pointer (some ⟨wr.heap.size, 0, none⟩)), Is (.string ⟨t.toArray⟩), Is (.int .i64 t.length), Is (.bool false), Is (.bool false), Is (.pointer (some ⟨wr.heap.size, 0, none⟩)), Is (.string ⟨t.toArray⟩), Is (.int .i64 t.length), Is (.bool false), Is (.bool false), Is (.bool false), Is (.pointer (some ⟨wr.heap.size, 1, none⟩)), Is (.int .i64 x), Is (.bool false), Is (.bool true), Is (.bool true), Is (.bool true), Is undef, Is undef, Is undef, Is undef, Is (.bool true), Is (.bool true), Is undef, Is undef, Is undef, Is undef, Is (.bool true), Is (.bool true), Is undef, Is undef, Is undef, Is undef, Is undef, Is undef, Is undef, Is undef, Is undef, Is undef, Is undef, Is undef, Is undef, Is (.bool true)] (by kernel_rfl) (by kernel_rfl) (by kernel_rfl) ?_ (Steps.all ?_) ?_
          · intro p hp
            simp only [List.mem_cons, List.not_mem_nil, or_false] at hp
            rcases hp with rfl | rfl | rfl | rfl | rfl | rfl | rfl | rfl | rfl | rfl | rfl | rfl | rfl | rfl | rfl | rfl | rfl | rfl | rfl | rfl | rfl | rfl | rfl | rfl | rfl | rfl | rfl | rfl | rfl | rfl | rfl | rfl | rfl | rfl | rfl | rfl | rfl | rfl | rfl | rfl | rfl | rfl | rfl
            all_goals first | exact mono_is _
          · refine Steps.cons_ (step_mk (Is (.pointer (some ⟨wr.heap.size, 0, none⟩))) rfl fun a W hx hE hO => ?_) ?_
            · have h4 : a.eval (.tmp 4) = .pointer (some ⟨wr.heap.size, 0, none⟩) := hO 4 (by kernel_rfl)
              refine yes_none rfl (do_run (by simp only [execOp, h4] <;> simp [go_sem, ]) rfl)
            refine Steps.cons_ (step_mk (Is (.string ⟨t.toArray⟩)) rfl fun a W hx hE hO => ?_) ?_
            · have h18 : a.eval (.tmp 18) = (.pointer (some ⟨wr.heap.size, 0, none⟩)) := hE 0 (by kernel_rfl) 18 rfl
              refine yes_none rfl ?_
              have q0 := Ext.keeps (Ext.trans (Ext.drew _) hx) Q0.out; exact do_run (by simp only [execOp, h18] <;> simp [go_sem, q0]) rfl
            refine Steps.cons_ (step_mk (Is (.int .i64 t.length)) rfl fun a W hx hE hO => ?_) ?_
            · have h19 : a.eval (.tmp 19) = (.string ⟨t.toArray⟩) := hE 1 (by kernel_rfl) 19 rfl
              refine yes_none rfl ?_
              exact do_slen rfl Try.underlying9 h19 rfl
            refine Steps.cons_ (step_mk (Is (.bool false)) rfl fun a W hx hE hO => ?_) ?_
            · have h20 : a.eval (.tmp 20) = (.int .i64 t.length) := hE 2 (by kernel_rfl) 20 rfl
              refine yes_none rfl ?_
              exact do_bin (v := .bool false) rfl h20 rfl (by simp [go_sem, D1.out]) rfl
            refine Steps.cons_ (step_mk (Is (.bool false)) rfl fun a W hx hE hO => ?_) ?_
            · have h21 : a.eval (.tmp 21) = (.bool false) := hE 3 (by kernel_rfl) 21 rfl
              exact yes_none rfl (do_move rfl h21)
            refine Steps.cons_ (step_mk (Is (.pointer (some ⟨wr.heap.size, 0, none⟩))) rfl fun a W hx hE hO => ?_) ?_
            · have h22 : a.eval (.tmp 22) = (.bool false) := hE 4 (by kernel_rfl) 22 rfl
              have h4 : a.eval (.tmp 4) = .pointer (some ⟨wr.heap.size, 0, none⟩) := hO 4 (by kernel_rfl)
              refine yes_is (j := 4) (d := 22) (b := false) rfl rfl h22 (do_run (by simp only [execOp, h4] <;> simp [go_sem, ]) rfl)
            refine Steps.cons_ (step_mk (Is (.string ⟨t.toArray⟩)) rfl fun a W hx hE hO => ?_) ?_
            · have h22 : a.eval (.tmp 22) = (.bool false) := hE 4 (by kernel_rfl) 22 rfl
              have h23 : a.eval (.tmp 23) = (.pointer (some ⟨wr.heap.size, 0, none⟩)) := hE 5 (by kernel_rfl) 23 rfl
              refine yes_is (j := 4) (d := 22) (b := false) rfl rfl h22 ?_
              have q0 := Ext.keeps (Ext.trans (Ext.drew _) hx) Q0.out; exact do_run (by simp only [execOp, h23] <;> simp [go_sem, q0]) rfl
            refine Steps.cons_ (step_mk (Is (.int .i64 t.length)) rfl fun a W hx hE hO => ?_) ?_
            · have h22 : a.eval (.tmp 22) = (.bool false) := hE 4 (by kernel_rfl) 22 rfl
              have h24 : a.eval (.tmp 24) = (.string ⟨t.toArray⟩) := hE 6 (by kernel_rfl) 24 rfl
              refine yes_is (j := 4) (d := 22) (b := false) rfl rfl h22 ?_
              exact do_slen rfl Try.underlying9 h24 rfl
            refine Steps.cons_ (step_mk (Is (.bool false)) rfl fun a W hx hE hO => ?_) ?_
            · have h22 : a.eval (.tmp 22) = (.bool false) := hE 4 (by kernel_rfl) 22 rfl
              have h25 : a.eval (.tmp 25) = (.int .i64 t.length) := hE 7 (by kernel_rfl) 25 rfl
              refine yes_is (j := 4) (d := 22) (b := false) rfl rfl h22 ?_
              exact do_bin (v := .bool false) rfl h25 rfl (by simp [go_sem, D2.out]) rfl
            refine Steps.cons_ (step_mk (Is (.bool false)) rfl fun a W hx hE hO => ?_) ?_
            · have h22 : a.eval (.tmp 22) = (.bool false) := hE 4 (by kernel_rfl) 22 rfl
              have h26 : a.eval (.tmp 26) = (.bool false) := hE 8 (by kernel_rfl) 26 rfl
              exact yes_none rfl (do_pick_no rfl h22 h26)
            refine Steps.cons_ (step_mk (Is (.bool false)) rfl fun a W hx hE hO => ?_) ?_
            · have h27 : a.eval (.tmp 27) = (.bool false) := hE 9 (by kernel_rfl) 27 rfl
              exact yes_none rfl (do_move rfl h27)
            refine Steps.cons_ (step_mk (Is (.pointer (some ⟨wr.heap.size, 1, none⟩))) rfl fun a W hx hE hO => ?_) ?_
            · have h28 : a.eval (.tmp 28) = (.bool false) := hE 10 (by kernel_rfl) 28 rfl
              have h4 : a.eval (.tmp 4) = .pointer (some ⟨wr.heap.size, 0, none⟩) := hO 4 (by kernel_rfl)
              refine yes_is (j := 10) (d := 28) (b := false) rfl rfl h28 (do_run (by simp only [execOp, h4] <;> simp [go_sem, ]) rfl)
            refine Steps.cons_ (step_mk (Is (.int .i64 x)) rfl fun a W hx hE hO => ?_) ?_
            · have h28 : a.eval (.tmp 28) = (.bool false) := hE 10 (by kernel_rfl) 28 rfl
              have h29 : a.eval (.tmp 29) = (.pointer (some ⟨wr.heap.size, 1, none⟩)) := hE 11 (by kernel_rfl) 29 rfl
              refine yes_is (j := 10) (d := 28) (b := false) rfl rfl h28 ?_
              have q0 := Ext.keeps (Ext.trans (Ext.drew _) hx) Q1.out; exact do_run (by simp only [execOp, h29] <;> simp [go_sem, q0]) rfl
            refine Steps.cons_ (step_mk (Is (.bool false)) rfl fun a W hx hE hO => ?_) ?_
            · have h28 : a.eval (.tmp 28) = (.bool false) := hE 10 (by kernel_rfl) 28 rfl
              have h30 : a.eval (.tmp 30) = (.int .i64 x) := hE 12 (by kernel_rfl) 30 rfl
              refine yes_is (j := 10) (d := 28) (b := false) rfl rfl h28 (do_call rfl Try.func42 (by kernel_rfl) (by kernel_rfl) (args := #[(.int .i64 x)]) (by simp only [List.map_toArray, List.map_cons, List.map_nil, h30]) ?_)
              exact (place_any W x).mono fun e w' ⟨he, hx⟩ => ⟨_, he, hx, by rw [P1.out]; rfl⟩
            refine Steps.cons_ (step_mk (Is (.bool true)) rfl fun a W hx hE hO => ?_) ?_
            · have h28 : a.eval (.tmp 28) = (.bool false) := hE 10 (by kernel_rfl) 28 rfl
              have h31 : a.eval (.tmp 31) = (.bool false) := hE 13 (by kernel_rfl) 31 rfl
              refine yes_is (j := 10) (d := 28) (b := false) rfl rfl h28 (do_run (by simp only [execOp, h31] <;> simp [go_sem]) rfl)
            refine Steps.cons_ (step_mk (Is (.bool true)) rfl fun a W hx hE hO => ?_) ?_
            · have h28 : a.eval (.tmp 28) = (.bool false) := hE 10 (by kernel_rfl) 28 rfl
              have h32 : a.eval (.tmp 32) = (.bool true) := hE 14 (by kernel_rfl) 32 rfl
              exact yes_none rfl (do_pick_no rfl h28 h32)
            refine Steps.cons_ (step_mk (Is (.bool true)) rfl fun a W hx hE hO => ?_) ?_
            · have h33 : a.eval (.tmp 33) = (.bool true) := hE 15 (by kernel_rfl) 33 rfl
              exact yes_none rfl (do_move rfl h33)
            refine Steps.cons_ (step_mk (Is undef) rfl fun a W hx hE hO => ?_) ?_
            · have h34 : a.eval (.tmp 34) = (.bool true) := hE 16 (by kernel_rfl) 34 rfl
              have h4 : a.eval (.tmp 4) = .pointer (some ⟨wr.heap.size, 0, none⟩) := hO 4 (by kernel_rfl)
              exact no_is (j := 16) (d := 34) (b := false) rfl rfl h34 rfl
            refine Steps.cons_ (step_mk (Is undef) rfl fun a W hx hE hO => ?_) ?_
            · have h34 : a.eval (.tmp 34) = (.bool true) := hE 16 (by kernel_rfl) 34 rfl
              have h35 : a.eval (.tmp 35) = undef := hE 17 (by kernel_rfl) 35 rfl
              exact no_is (j := 16) (d := 34) (b := false) rfl rfl h34 rfl
            refine Steps.cons_ (step_mk (Is undef) rfl fun a W hx hE hO => ?_) ?_
            · have h34 : a.eval (.tmp 34) = (.bool true) := hE 16 (by kernel_rfl) 34 rfl
              have h36 : a.eval (.tmp 36) = undef := hE 18 (by kernel_rfl) 36 rfl
              exact no_is (j := 16) (d := 34) (b := false) rfl rfl h34 rfl
            refine Steps.cons_ (step_mk (Is undef) rfl fun a W hx hE hO => ?_) ?_
            · have h34 : a.eval (.tmp 34) = (.bool true) := hE 16 (by kernel_rfl) 34 rfl
              have h37 : a.eval (.tmp 37) = undef := hE 19 (by kernel_rfl) 37 rfl
              exact no_is (j := 16) (d := 34) (b := false) rfl rfl h34 rfl
            refine Steps.cons_ (step_mk (Is (.bool true)) rfl fun a W hx hE hO => ?_) ?_
            · have h34 : a.eval (.tmp 34) = (.bool true) := hE 16 (by kernel_rfl) 34 rfl
              have h38 : a.eval (.tmp 38) = undef := hE 20 (by kernel_rfl) 38 rfl
              exact yes_none rfl (do_pick rfl h34 rfl)
            refine Steps.cons_ (step_mk (Is (.bool true)) rfl fun a W hx hE hO => ?_) ?_
            · have h39 : a.eval (.tmp 39) = (.bool true) := hE 21 (by kernel_rfl) 39 rfl
              exact yes_none rfl (do_move rfl h39)
            refine Steps.cons_ (step_mk (Is undef) rfl fun a W hx hE hO => ?_) ?_
            · have h40 : a.eval (.tmp 40) = (.bool true) := hE 22 (by kernel_rfl) 40 rfl
              have h4 : a.eval (.tmp 4) = .pointer (some ⟨wr.heap.size, 0, none⟩) := hO 4 (by kernel_rfl)
              exact no_is (j := 22) (d := 40) (b := false) rfl rfl h40 rfl
            refine Steps.cons_ (step_mk (Is undef) rfl fun a W hx hE hO => ?_) ?_
            · have h40 : a.eval (.tmp 40) = (.bool true) := hE 22 (by kernel_rfl) 40 rfl
              have h41 : a.eval (.tmp 41) = undef := hE 23 (by kernel_rfl) 41 rfl
              exact no_is (j := 22) (d := 40) (b := false) rfl rfl h40 rfl
            refine Steps.cons_ (step_mk (Is undef) rfl fun a W hx hE hO => ?_) ?_
            · have h40 : a.eval (.tmp 40) = (.bool true) := hE 22 (by kernel_rfl) 40 rfl
              have h42 : a.eval (.tmp 42) = undef := hE 24 (by kernel_rfl) 42 rfl
              exact no_is (j := 22) (d := 40) (b := false) rfl rfl h40 rfl
            refine Steps.cons_ (step_mk (Is undef) rfl fun a W hx hE hO => ?_) ?_
            · have h40 : a.eval (.tmp 40) = (.bool true) := hE 22 (by kernel_rfl) 40 rfl
              have h43 : a.eval (.tmp 43) = undef := hE 25 (by kernel_rfl) 43 rfl
              exact no_is (j := 22) (d := 40) (b := false) rfl rfl h40 rfl
            refine Steps.cons_ (step_mk (Is (.bool true)) rfl fun a W hx hE hO => ?_) ?_
            · have h40 : a.eval (.tmp 40) = (.bool true) := hE 22 (by kernel_rfl) 40 rfl
              have h44 : a.eval (.tmp 44) = undef := hE 26 (by kernel_rfl) 44 rfl
              exact yes_none rfl (do_pick rfl h40 rfl)
            refine Steps.cons_ (step_mk (Is (.bool true)) rfl fun a W hx hE hO => ?_) ?_
            · have h45 : a.eval (.tmp 45) = (.bool true) := hE 27 (by kernel_rfl) 45 rfl
              exact yes_none rfl (do_move rfl h45)
            refine Steps.cons_ (step_mk (Is undef) rfl fun a W hx hE hO => ?_) ?_
            · have h46 : a.eval (.tmp 46) = (.bool true) := hE 28 (by kernel_rfl) 46 rfl
              have h3 : a.eval (.tmp 3) = .int .i64 k := hO 3 (by kernel_rfl)
              exact no_is (j := 28) (d := 46) (b := false) rfl rfl h46 rfl
            refine Steps.cons_ (step_mk (Is undef) rfl fun a W hx hE hO => ?_) ?_
            · have h46 : a.eval (.tmp 46) = (.bool true) := hE 28 (by kernel_rfl) 46 rfl
              have h47 : a.eval (.tmp 47) = undef := hE 29 (by kernel_rfl) 47 rfl
              exact no_is (j := 28) (d := 46) (b := false) rfl rfl h46 rfl
            refine Steps.cons_ (step_mk (Is undef) rfl fun a W hx hE hO => ?_) ?_
            · have h46 : a.eval (.tmp 46) = (.bool true) := hE 28 (by kernel_rfl) 46 rfl
              have h48 : a.eval (.tmp 48) = undef := hE 30 (by kernel_rfl) 48 rfl
              exact no_is (j := 28) (d := 46) (b := false) rfl rfl h46 rfl
            refine Steps.cons_ (step_mk (Is undef) rfl fun a W hx hE hO => ?_) ?_
            · have h49 : a.eval (.tmp 49) = undef := hE 31 (by kernel_rfl) 49 rfl
              have h0 : a.eval (.tmp 0) = .slice (some ad) l.length c := hO 0 (by kernel_rfl)
              exact no_undef (j := 31) (d := 49) (b := true) rfl rfl h49 rfl
            refine Steps.cons_ (step_mk (Is undef) rfl fun a W hx hE hO => ?_) ?_
            · have h49 : a.eval (.tmp 49) = undef := hE 31 (by kernel_rfl) 49 rfl
              have h3 : a.eval (.tmp 3) = .int .i64 k := hO 3 (by kernel_rfl)
              exact no_undef (j := 31) (d := 49) (b := true) rfl rfl h49 rfl
            refine Steps.cons_ (step_mk (Is undef) rfl fun a W hx hE hO => ?_) ?_
            · have h49 : a.eval (.tmp 49) = undef := hE 31 (by kernel_rfl) 49 rfl
              have h51 : a.eval (.tmp 51) = undef := hE 33 (by kernel_rfl) 51 rfl
              exact no_undef (j := 31) (d := 49) (b := true) rfl rfl h49 rfl
            refine Steps.cons_ (step_mk (Is undef) rfl fun a W hx hE hO => ?_) ?_
            · have h49 : a.eval (.tmp 49) = undef := hE 31 (by kernel_rfl) 49 rfl
              have h50 : a.eval (.tmp 50) = undef := hE 32 (by kernel_rfl) 50 rfl
              have h52 : a.eval (.tmp 52) = undef := hE 34 (by kernel_rfl) 52 rfl
              exact no_undef (j := 31) (d := 49) (b := true) rfl rfl h49 rfl
            refine Steps.cons_ (step_mk (Is undef) rfl fun a W hx hE hO => ?_) ?_
            · have h49 : a.eval (.tmp 49) = undef := hE 31 (by kernel_rfl) 49 rfl
              have h53 : a.eval (.tmp 53) = undef := hE 35 (by kernel_rfl) 53 rfl
              exact no_undef (j := 31) (d := 49) (b := true) rfl rfl h49 rfl
            refine Steps.cons_ (step_mk (Is undef) rfl fun a W hx hE hO => ?_) ?_
            · have h49 : a.eval (.tmp 49) = undef := hE 31 (by kernel_rfl) 49 rfl
              have h54 : a.eval (.tmp 54) = undef := hE 36 (by kernel_rfl) 54 rfl
              exact no_undef (j := 31) (d := 49) (b := true) rfl rfl h49 rfl
            refine Steps.cons_ (step_mk (Is undef) rfl fun a W hx hE hO => ?_) ?_
            · have h49 : a.eval (.tmp 49) = undef := hE 31 (by kernel_rfl) 49 rfl
              have h4 : a.eval (.tmp 4) = .pointer (some ⟨wr.heap.size, 0, none⟩) := hO 4 (by kernel_rfl)
              exact no_undef (j := 31) (d := 49) (b := true) rfl rfl h49 rfl
            refine Steps.cons_ (step_mk (Is undef) rfl fun a W hx hE hO => ?_) ?_
            · have h49 : a.eval (.tmp 49) = undef := hE 31 (by kernel_rfl) 49 rfl
              have h56 : a.eval (.tmp 56) = undef := hE 38 (by kernel_rfl) 56 rfl
              exact no_undef (j := 31) (d := 49) (b := true) rfl rfl h49 rfl
            refine Steps.cons_ (step_mk (Is undef) rfl fun a W hx hE hO => ?_) ?_
            · have h49 : a.eval (.tmp 49) = undef := hE 31 (by kernel_rfl) 49 rfl
              have h55 : a.eval (.tmp 55) = undef := hE 37 (by kernel_rfl) 55 rfl
              have h57 : a.eval (.tmp 57) = undef := hE 39 (by kernel_rfl) 57 rfl
              exact no_undef (j := 31) (d := 49) (b := true) rfl rfl h49 rfl
            refine Steps.cons_ (step_mk (Is undef) rfl fun a W hx hE hO => ?_) ?_
            · have h46 : a.eval (.tmp 46) = (.bool true) := hE 28 (by kernel_rfl) 46 rfl
              have h49 : a.eval (.tmp 49) = undef := hE 31 (by kernel_rfl) 49 rfl
              have h58 : a.eval (.tmp 58) = undef := hE 40 (by kernel_rfl) 58 rfl
              exact no_is (j := 28) (d := 46) (b := false) rfl rfl h46 rfl
            refine Steps.cons_ (step_mk (Is (.bool true)) rfl fun a W hx hE hO => ?_) ?_
            · have h46 : a.eval (.tmp 46) = (.bool true) := hE 28 (by kernel_rfl) 46 rfl
              have h59 : a.eval (.tmp 59) = undef := hE 41 (by kernel_rfl) 59 rfl
              exact yes_none rfl (do_pick rfl h46 rfl)
            exact Steps.nil_
          · intro a W hx hd hsz hE hO
            have h60 : a.eval (.tmp 60) = (.bool true) := hE 42 (of_decide_eq_true (by kernel_rfl)) 60 rfl
            have hmix := act_mix [false, false, false, false, false, false, false, false, false, false, false, false, false, false, false, false, false, false, true, true, true, true, true, true, true, true, true, true, true, true, true, true, true, true, true, true, true, true, true, true, true, true, true, true, true, true, true, true, true, true, true, true, true, true, true, true, true, true, true, true, true] (by kernel_rfl) hsz hd hO
            simp only [mixA, Nat.reduceAdd, Nat.zero_add] at hmix
            rw [hmix]
            rw [h60]
            generalize a.eval (.tmp 18) = u18
            generalize a.eval (.tmp 19) = u19
            generalize a.eval (.tmp 20) = u20
            generalize a.eval (.tmp 21) = u21
            generalize a.eval (.tmp 22) = u22
            generalize a.eval (.tmp 23) = u23
            generalize a.eval (.tmp 24) = u24
            generalize a.eval (.tmp 25) = u25
            generalize a.eval (.tmp 26) = u26
            generalize a.eval (.tmp 27) = u27
            generalize a.eval (.tmp 28) = u28
            generalize a.eval (.tmp 29) = u29
            generalize a.eval (.tmp 30) = u30
            generalize a.eval (.tmp 31) = u31
            generalize a.eval (.tmp 32) = u32
            generalize a.eval (.tmp 33) = u33
            generalize a.eval (.tmp 34) = u34
            generalize a.eval (.tmp 35) = u35
            generalize a.eval (.tmp 36) = u36
            generalize a.eval (.tmp 37) = u37
            generalize a.eval (.tmp 38) = u38
            generalize a.eval (.tmp 39) = u39
            generalize a.eval (.tmp 40) = u40
            generalize a.eval (.tmp 41) = u41
            generalize a.eval (.tmp 42) = u42
            generalize a.eval (.tmp 43) = u43
            generalize a.eval (.tmp 44) = u44
            generalize a.eval (.tmp 45) = u45
            generalize a.eval (.tmp 46) = u46
            generalize a.eval (.tmp 47) = u47
            generalize a.eval (.tmp 48) = u48
            generalize a.eval (.tmp 49) = u49
            generalize a.eval (.tmp 50) = u50
            generalize a.eval (.tmp 51) = u51
            generalize a.eval (.tmp 52) = u52
            generalize a.eval (.tmp 53) = u53
            generalize a.eval (.tmp 54) = u54
            generalize a.eval (.tmp 55) = u55
            generalize a.eval (.tmp 56) = u56
            generalize a.eval (.tmp 57) = u57
            generalize a.eval (.tmp 58) = u58
            generalize a.eval (.tmp 59) = u59
            clear hmix hd hsz hE hO
            go_wp2
            go_ret
            exact ⟨by rw [Hr.out]; rfl, Ext.trans Hx2.out hx⟩
        | true =>
          have P1 := Lib.hid p1
          cases p2 : pl y with
          | false =>
            have P2 := Lib.hid p2
            have Hr := Lib.hid (show upw [] l = false by rw [Hr0.out]; exact upw_no (.inl (by unfold eOk; simp only [p1, p2]; simp)))
            clear c1 c2 p1 p2
            go_wp2_with fail
            refine wp_region_list2 [Is (.pointer (some ⟨wr.heap.size, 0, none⟩)), Is (.string ⟨t.toArray⟩), Is (.int .i64 t.length), Is (.bool false), Is (.bool false), Is (.pointer (some ⟨wr.heap.size, 0, none⟩)), Is (.string ⟨t.toArray⟩), Is (.int .i64 t.length), Is (.bool false), Is (.bool false), Is (.bool false), Is (.pointer (some ⟨wr.heap.size, 1, none⟩)), Is (.int .i64 x), Is (.bool true), Is (.bool false), Is (.bool false), Is (.bool false), Is (.pointer (some ⟨wr.heap.size, 2, none⟩)), Is (.int .i64 y), Is (.bool false), Is (.bool true), Is (.bool true), Is (.bool true), Is undef, Is undef, Is undef, Is undef, Is (.bool true), Is (.bool true), Is undef, Is undef, Is undef, Is undef, Is undef, Is undef, Is undef, Is undef, Is undef, Is undef, Is undef, Is undef, Is undef, Is (.bool true)] (by kernel_rfl) (by kernel_rfl) (by kernel_rfl) ?_ (Steps.all ?_) ?_
            · intro p hp
              simp only [List.mem_cons, List.not_mem_nil, or_false] at hp
              rcases hp with rfl | rfl | rfl | rfl | rfl | rfl | rfl | rfl | rfl | rfl | rfl | rfl | rfl | rfl | rfl | rfl | rfl | rfl | rfl | rfl | rfl | rfl | rfl | rfl | rfl | rfl | rfl | rfl | rfl | rfl | rfl | rfl | rfl | rfl | rfl | rfl | rfl | rfl | rfl | rfl | rfl | rfl | rfl
              all_goals first | exact mono_is _
            · refine Steps.cons_ (step_mk (Is (.pointer (some ⟨wr.heap.size, 0, none⟩))) rfl fun a W hx hE hO => ?_) ?_
              · have h4 : a.eval (.tmp 4) = .pointer (some ⟨wr.heap.size, 0, none⟩) := hO 4 (by kernel_rfl)
                refine yes_none rfl (do_run (by simp only [execOp, h4] <;> simp [go_sem, ]) rfl)
              refine Steps.cons_ (step_mk (Is (.string ⟨t.toArray⟩)) rfl fun a W hx hE hO => ?_) ?_
              · have h18 : a.eval (.tmp 18) = (.pointer (some ⟨wr.heap.size, 0, none⟩)) := hE 0 (by kernel_rfl) 18 rfl
                refine yes_none rfl ?_
                have q0 := Ext.keeps (Ext.trans (Ext.drew _) hx) Q0.out; exact do_run (by simp only [execOp, h18] <;> simp [go_sem, q0]) rfl
              refine Steps.cons_ (step_mk (Is (.int .i64 t.length)) rfl fun a W hx hE hO => ?_) ?_
              · have h19 : a.eval (.tmp 19) = (.string ⟨t.toArray⟩) := hE 1 (by kernel_rfl) 19 rfl
                refine yes_none rfl ?_
                exact do_slen rfl Try.underlying9 h19 rfl
              refine Steps.cons_ (step_mk (Is (.bool false)) rfl fun a W hx hE hO => ?_) ?_
              · have h20 : a.eval (.tmp 20) = (.int .i64 t.length) := hE 2 (by kernel_rfl) 20 rfl
                refine yes_none rfl ?_
                exact do_bin (v := .bool false) rfl h20 rfl (by simp [go_sem, D1.out]) rfl
              refine Steps.cons_ (step_mk (Is (.bool false)) rfl fun a W hx hE hO => ?_) ?_
              · have h21 : a.eval (.tmp 21) = (.bool false) := hE 3 (by kernel_rfl) 21 rfl
                exact yes_none rfl (do_move rfl h21)
              refine Steps.cons_ (step_mk (Is (.pointer (some ⟨wr.heap.size, 0, none⟩))) rfl fun a W hx hE hO => ?_) ?_
              · have h22 : a.eval (.tmp 22) = (.bool false) := hE 4 (by kernel_rfl) 22 rfl
                have h4 : a.eval (.tmp 4) = .pointer (some ⟨wr.heap.size, 0, none⟩) := hO 4 (by kernel_rfl)
                refine yes_is (j := 4) (d := 22) (b := false) rfl rfl h22 (do_run (by simp only [execOp, h4] <;> simp [go_sem, ]) rfl)
              refine Steps.cons_ (step_mk (Is (.string ⟨t.toArray⟩)) rfl fun a W hx hE hO => ?_) ?_
              · have h22 : a.eval (.tmp 22) = (.bool false) := hE 4 (by kernel_rfl) 22 rfl
                have h23 : a.eval (.tmp 23) = (.pointer (some ⟨wr.heap.size, 0, none⟩)) := hE 5 (by kernel_rfl) 23 rfl
                refine yes_is (j := 4) (d := 22) (b := false) rfl rfl h22 ?_
                have q0 := Ext.keeps (Ext.trans (Ext.drew _) hx) Q0.out; exact do_run (by simp only [execOp, h23] <;> simp [go_sem, q0]) rfl
              refine Steps.cons_ (step_mk (Is (.int .i64 t.length)) rfl fun a W hx hE hO => ?_) ?_
              · have h22 : a.eval (.tmp 22) = (.bool false) := hE 4 (by kernel_rfl) 22 rfl
                have h24 : a.eval (.tmp 24) = (.string ⟨t.toArray⟩) := hE 6 (by kernel_rfl) 24 rfl
                refine yes_is (j := 4) (d := 22) (b := false) rfl rfl h22 ?_
                exact do_slen rfl Try.underlying9 h24 rfl
              refine Steps.cons_ (step_mk (Is (.bool false)) rfl fun a W hx hE hO => ?_) ?_
              · have h22 : a.eval (.tmp 22) = (.bool false) := hE 4 (by kernel_rfl) 22 rfl
                have h25 : a.eval (.tmp 25) = (.int .i64 t.length) := hE 7 (by kernel_rfl) 25 rfl
                refine yes_is (j := 4) (d := 22) (b := false) rfl rfl h22 ?_
                exact do_bin (v := .bool false) rfl h25 rfl (by simp [go_sem, D2.out]) rfl
              refine Steps.cons_ (step_mk (Is (.bool false)) rfl fun a W hx hE hO => ?_) ?_
              · have h22 : a.eval (.tmp 22) = (.bool false) := hE 4 (by kernel_rfl) 22 rfl
                have h26 : a.eval (.tmp 26) = (.bool false) := hE 8 (by kernel_rfl) 26 rfl
                exact yes_none rfl (do_pick_no rfl h22 h26)
              refine Steps.cons_ (step_mk (Is (.bool false)) rfl fun a W hx hE hO => ?_) ?_
              · have h27 : a.eval (.tmp 27) = (.bool false) := hE 9 (by kernel_rfl) 27 rfl
                exact yes_none rfl (do_move rfl h27)
              refine Steps.cons_ (step_mk (Is (.pointer (some ⟨wr.heap.size, 1, none⟩))) rfl fun a W hx hE hO => ?_) ?_
              · have h28 : a.eval (.tmp 28) = (.bool false) := hE 10 (by kernel_rfl) 28 rfl
                have h4 : a.eval (.tmp 4) = .pointer (some ⟨wr.heap.size, 0, none⟩) := hO 4 (by kernel_rfl)
                refine yes_is (j := 10) (d := 28) (b := false) rfl rfl h28 (do_run (by simp only [execOp, h4] <;> simp [go_sem, ]) rfl)
              refine Steps.cons_ (step_mk (Is (.int .i64 x)) rfl fun a W hx hE hO => ?_) ?_
              · have h28 : a.eval (.tmp 28) = (.bool false) := hE 10 (by kernel_rfl) 28 rfl
                have h29 : a.eval (.tmp 29) = (.pointer (some ⟨wr.heap.size, 1, none⟩)) := hE 11 (by kernel_rfl) 29 rfl
                refine yes_is (j := 10) (d := 28) (b := false) rfl rfl h28 ?_
                have q0 := Ext.keeps (Ext.trans (Ext.drew _) hx) Q1.out; exact do_run (by simp only [execOp, h29] <;> simp [go_sem, q0]) rfl
              refine Steps.cons_ (step_mk (Is (.bool true)) rfl fun a W hx hE hO => ?_) ?_
              · have h28 : a.eval (.tmp 28) = (.bool false) := hE 10 (by kernel_rfl) 28 rfl
                have h30 : a.eval (.tmp 30) = (.int .i64 x) := hE 12 (by kernel_rfl) 30 rfl
                refine yes_is (j := 10) (d := 28) (b := false) rfl rfl h28 (do_call rfl Try.func42 (by kernel_rfl) (by kernel_rfl) (args := #[(.int .i64 x)]) (by simp only [List.map_toArray, List.map_cons, List.map_nil, h30]) ?_)
                exact (place_any W x).mono fun e w' ⟨he, hx⟩ => ⟨_, he, hx, by rw [P1.out]; rfl⟩
              refine Steps.cons_ (step_mk (Is (.bool false)) rfl fun a W hx hE hO => ?_) ?_
              · have h28 : a.eval (.tmp 28) = (.bool false) := hE 10 (by kernel_rfl) 28 rfl
                have h31 : a.eval (.tmp 31) = (.bool true) := hE 13 (by kernel_rfl) 31 rfl
                refine yes_is (j := 10) (d := 28) (b := false) rfl rfl h28 (do_run (by simp only [execOp, h31] <;> simp [go_sem]) rfl)
              refine Steps.cons_ (step_mk (Is (.bool false)) rfl fun a W hx hE hO => ?_) ?_
              · have h28 : a.eval (.tmp 28) = (.bool false) := hE 10 (by kernel_rfl) 28 rfl
                have h32 : a.eval (.tmp 32) = (.bool false) := hE 14 (by kernel_rfl) 32 rfl
                exact yes_none rfl (do_pick_no rfl h28 h32)
              refine Steps.cons_ (step_mk (Is (.bool false)) rfl fun a W hx hE hO => ?_) ?_
              · have h33 : a.eval (.tmp 33) = (.bool false) := hE 15 (by kernel_rfl) 33 rfl
                exact yes_none rfl (do_move rfl h33)
              refine Steps.cons_ (step_mk (Is (.pointer (some ⟨wr.heap.size, 2, none⟩))) rfl fun a W hx hE hO => ?_) ?_
              · have h34 : a.eval (.tmp 34) = (.bool false) := hE 16 (by kernel_rfl) 34 rfl
                have h4 : a.eval (.tmp 4) = .pointer (some ⟨wr.heap.size, 0, none⟩) := hO 4 (by kernel_rfl)
                refine yes_is (j := 16) (d := 34) (b := false) rfl rfl h34 (do_run (by simp only [execOp, h4] <;> simp [go_sem, ]) rfl)
              refine Steps.cons_ (step_mk (Is (.int .i64 y)) rfl fun a W hx hE hO => ?_) ?_
              · have h34 : a.eval (.tmp 34) = (.bool false) := hE 16 (by kernel_rfl) 34 rfl
                have h35 : a.eval (.tmp 35) = (.pointer (some ⟨wr.heap.size, 2, none⟩)) := hE 17 (by kernel_rfl) 35 rfl
                refine yes_is (j := 16) (d := 34) (b := false) rfl rfl h34 ?_
                have q0 := Ext.keeps (Ext.trans (Ext.drew _) hx) Q2.out; exact do_run (by simp only [execOp, h35] <;> simp [go_sem, q0]) rfl
              refine Steps.cons_ (step_mk (Is (.bool false)) rfl fun a W hx hE hO => ?_) ?_
              · have h34 : a.eval (.tmp 34) = (.bool false) := hE 16 (by kernel_rfl) 34 rfl
                have h36 : a.eval (.tmp 36) = (.int .i64 y) := hE 18 (by kernel_rfl) 36 rfl
                refine yes_is (j := 16) (d := 34) (b := false) rfl rfl h34 (do_call rfl Try.func42 (by kernel_rfl) (by kernel_rfl) (args := #[(.int .i64 y)]) (by simp only [List.map_toArray, List.map_cons, List.map_nil, h36]) ?_)
                exact (place_any W y).mono fun e w' ⟨he, hx⟩ => ⟨_, he, hx, by rw [P2.out]; rfl⟩
              refine Steps.cons_ (step_mk (Is (.bool true)) rfl fun a W hx hE hO => ?_) ?_
              · have h34 : a.eval (.tmp 34) = (.bool false) := hE 16 (by kernel_rfl) 34 rfl
                have h37 : a.eval (.tmp 37) = (.bool false) := hE 19 (by kernel_rfl) 37 rfl
                refine yes_is (j := 16) (d := 34) (b := false) rfl rfl h34 (do_run (by simp only [execOp, h37] <;> simp [go_sem]) rfl)
              refine Steps.cons_ (step_mk (Is (.bool true)) rfl fun a W hx hE hO => ?_) ?_
              · have h34 : a.eval (.tmp 34) = (.bool false) := hE 16 (by kernel_rfl) 34 rfl
                have h38 : a.eval (.tmp 38) = (.bool true) := hE 20 (by kernel_rfl) 38 rfl
                exact yes_none rfl (do_pick_no rfl h34 h38)
              refine Steps.cons_ (step_mk (Is (.bool true)) rfl fun a W hx hE hO => ?_) ?_
              · have h39 : a.eval (.tmp 39) = (.bool true) := hE 21 (by kernel_rfl) 39 rfl
                exact yes_none rfl (do_move rfl h39)
              refine Steps.cons_ (step_mk (Is undef) rfl fun a W hx hE hO => ?_) ?_
              · have h40 : a.eval (.tmp 40) = (.bool true) := hE 22 (by kernel_rfl) 40 rfl
                have h4 : a.eval (.tmp 4) = .pointer (some ⟨wr.heap.size, 0, none⟩) := hO 4 (by kernel_rfl)
                exact no_is (j := 22) (d := 40) (b := false) rfl rfl h40 rfl
              refine Steps.cons_ (step_mk (Is undef) rfl fun a W hx hE hO => ?_) ?_
              · have h40 : a.eval (.tmp 40) = (.bool true) := hE 22 (by kernel_rfl) 40 rfl
                have h41 : a.eval (.tmp 41) = undef := hE 23 (by kernel_rfl) 41 rfl
                exact no_is (j := 22) (d := 40) (b := false) rfl rfl h40 rfl
              refine Steps.cons_ (step_mk (Is undef) rfl fun a W hx hE hO => ?_) ?_
              · have h40 : a.eval (.tmp 40) = (.bool true) := hE 22 (by kernel_rfl) 40 rfl
                have h42 : a.eval (.tmp 42) = undef := hE 24 (by kernel_rfl) 42 rfl
                exact no_is (j := 22) (d := 40) (b := false) rfl rfl h40 rfl
              refine Steps.cons_ (step_mk (Is undef) rfl fun a W hx hE hO => ?_) ?_
              · have h40 : a.eval (.tmp 40) = (.bool true) := hE 22 (by kernel_rfl) 40 rfl
                have h43 : a.eval (.tmp 43) = undef := hE 25 (by kernel_rfl) 43 rfl
                exact no_is (j := 22) (d := 40) (b := false) rfl rfl h40 rfl
              refine Steps.cons_ (step_mk (Is (.bool true)) rfl fun a W hx hE hO => ?_) ?_
              · have h40 : a.eval (.tmp 40) = (.bool true) := hE 22 (by kernel_rfl) 40 rfl
                have h44 : a.eval (.tmp 44) = undef := hE 26 (by kernel_rfl) 44 rfl
                exact yes_none rfl (do_pick rfl h40 rfl)
              refine Steps.cons_ (step_mk (Is (.bool true)) rfl fun a W hx hE hO => ?_) ?_
              · have h45 : a.eval (.tmp 45) = (.bool true) := hE 27 (by kernel_rfl) 45 rfl
                exact yes_none rfl (do_move rfl h45)
              refine Steps.cons_ (step_mk (Is undef) rfl fun a W hx hE hO => ?_) ?_
              · have h46 : a.eval (.tmp 46) = (.bool true) := hE 28 (by kernel_rfl) 46 rfl
                have h3 : a.eval (.tmp 3) = .int .i64 k := hO 3 (by kernel_rfl)
                exact no_is (j := 28) (d := 46) (b := false) rfl rfl h46 rfl
              refine Steps.cons_ (step_mk (Is undef) rfl fun a W hx hE hO => ?_) ?_
              · have h46 : a.eval (.tmp 46) = (.bool true) := hE 28 (by kernel_rfl) 46 rfl
                have h47 : a.eval (.tmp 47) = undef := hE 29 (by kernel_rfl) 47 rfl
                exact no_is (j := 28) (d := 46) (b := false) rfl rfl h46 rfl
              refine Steps.cons_ (step_mk (Is undef) rfl fun a W hx hE hO => ?_) ?_
              · have h46 : a.eval (.tmp 46) = (.bool true) := hE 28 (by kernel_rfl) 46 rfl
                have h48 : a.eval (.tmp 48) = undef := hE 30 (by kernel_rfl) 48 rfl
                exact no_is (j := 28) (d := 46) (b := false) rfl rfl h46 rfl
              refine Steps.cons_ (step_mk (Is undef) rfl fun a W hx hE hO => ?_) ?_
              · have h49 : a.eval (.tmp 49) = undef := hE 31 (by kernel_rfl) 49 rfl
                have h0 : a.eval (.tmp 0) = .slice (some ad) l.length c := hO 0 (by kernel_rfl)
                exact no_undef (j := 31) (d := 49) (b := true) rfl rfl h49 rfl
              refine Steps.cons_ (step_mk (Is undef) rfl fun a W hx hE hO => ?_) ?_
              · have h49 : a.eval (.tmp 49) = undef := hE 31 (by kernel_rfl) 49 rfl
                have h3 : a.eval (.tmp 3) = .int .i64 k := hO 3 (by kernel_rfl)
                exact no_undef (j := 31) (d := 49) (b := true) rfl rfl h49 rfl
              refine Steps.cons_ (step_mk (Is undef) rfl fun a W hx hE hO => ?_) ?_
              · have h49 : a.eval (.tmp 49) = undef := hE 31 (by kernel_rfl) 49 rfl
                have h51 : a.eval (.tmp 51) = undef := hE 33 (by kernel_rfl) 51 rfl
                exact no_undef (j := 31) (d := 49) (b := true) rfl rfl h49 rfl
              refine Steps.cons_ (step_mk (Is undef) rfl fun a W hx hE hO => ?_) ?_
              · have h49 : a.eval (.tmp 49) = undef := hE 31 (by kernel_rfl) 49 rfl
                have h50 : a.eval (.tmp 50) = undef := hE 32 (by kernel_rfl) 50 rfl
                have h52 : a.eval (.tmp 52) = undef := hE 34 (by kernel_rfl) 52 rfl
                exact no_undef (j := 31) (d := 49) (b := true) rfl rfl h49 rfl
              refine Steps.cons_ (step_mk (Is undef) rfl fun a W hx hE hO => ?_) ?_
              · have h49 : a.eval (.tmp 49) = undef := hE 31 (by kernel_rfl) 49 rfl
                have h53 : a.eval (.tmp 53) = undef := hE 35 (by kernel_rfl) 53 rfl
                exact no_undef (j := 31) (d := 49) (b := true) rfl rfl h49 rfl
              refine Steps.cons_ (step_mk (Is undef) rfl fun a W hx hE hO => ?_) ?_
              · have h49 : a.eval (.tmp 49) = undef := hE 31 (by kernel_rfl) 49 rfl
                have h54 : a.eval (.tmp 54) = undef := hE 36 (by kernel_rfl) 54 rfl
                exact no_undef (j := 31) (d := 49) (b := true) rfl rfl h49 rfl
              refine Steps.cons_ (step_mk (Is undef) rfl fun a W hx hE hO => ?_) ?_
              · have h49 : a.eval (.tmp 49) = undef := hE 31 (by kernel_rfl) 49 rfl
                have h4 : a.eval (.tmp 4) = .pointer (some ⟨wr.heap.size, 0, none⟩) := hO 4 (by kernel_rfl)
                exact no_undef (j := 31) (d := 49) (b := true) rfl rfl h49 rfl
              refine Steps.cons_ (step_mk (Is undef) rfl fun a W hx hE hO => ?_) ?_
              · have h49 : a.eval (.tmp 49) = undef := hE 31 (by kernel_rfl) 49 rfl
                have h56 : a.eval (.tmp 56) = undef := hE 38 (by kernel_rfl) 56 rfl
                exact no_undef (j := 31) (d := 49) (b := true) rfl rfl h49 rfl
              refine Steps.cons_ (step_mk (Is undef) rfl fun a W hx hE hO => ?_) ?_
              · have h49 : a.eval (.tmp 49) = undef := hE 31 (by kernel_rfl) 49 rfl
                have h55 : a.eval (.tmp 55) = undef := hE 37 (by kernel_rfl) 55 rfl
                have h57 : a.eval (.tmp 57) = undef := hE 39 (by kernel_rfl) 57 rfl
                exact no_undef (j := 31) (d := 49) (b := true) rfl rfl h49 rfl
              refine Steps.cons_ (step_mk (Is undef) rfl fun a W hx hE hO => ?_) ?_
              · have h46 : a.eval (.tmp 46) = (.bool true) := hE 28 (by kernel_rfl) 46 rfl
                have h49 : a.eval (.tmp 49) = undef := hE 31 (by kernel_rfl) 49 rfl
                have h58 : a.eval (.tmp 58) = undef := hE 40 (by kernel_rfl) 58 rfl
                exact no_is (j := 28) (d := 46) (b := false) rfl rfl h46 rfl
              refine Steps.cons_ (step_mk (Is (.bool true)) rfl fun a W hx hE hO => ?_) ?_
              · have h46 : a.eval (.tmp 46) = (.bool true) := hE 28 (by kernel_rfl) 46 rfl
                have h59 : a.eval (.tmp 59) = undef := hE 41 (by kernel_rfl) 59 rfl
                exact yes_none rfl (do_pick rfl h46 rfl)
              exact Steps.nil_
            · intro a W hx hd hsz hE hO
              have h60 : a.eval (.tmp 60) = (.bool true) := hE 42 (of_decide_eq_true (by kernel_rfl)) 60 rfl
              have hmix := act_mix [false, false, false, false, false, false, false, false, false, false, false, false, false, false, false, false, false, false, true, true, true, true, true, true, true, true, true, true, true, true, true, true, true, true, true, true, true, true, true, true, true, true, true, true, true, true, true, true, true, true, true, true, true, true, true, true, true, true, true, true, true] (by kernel_rfl) hsz hd hO
              simp only [mixA, Nat.reduceAdd, Nat.zero_add] at hmix
              rw [hmix]
              rw [h60]
              generalize a.eval (.tmp 18) = u18
              generalize a.eval (.tmp 19) = u19
              generalize a.eval (.tmp 20) = u20
              generalize a.eval (.tmp 21) = u21
              generalize a.eval (.tmp 22) = u22
              generalize a.eval (.tmp 23) = u23
              generalize a.eval (.tmp 24) = u24
              generalize a.eval (.tmp 25) = u25
              generalize a.eval (.tmp 26) = u26
              generalize a.eval (.tmp 27) = u27
              generalize a.eval (.tmp 28) = u28
              generalize a.eval (.tmp 29) = u29
              generalize a.eval (.tmp 30) = u30
              generalize a.eval (.tmp 31) = u31
              generalize a.eval (.tmp 32) = u32
              generalize a.eval (.tmp 33) = u33
              generalize a.eval (.tmp 34) = u34
              generalize a.eval (.tmp 35) = u35
              generalize a.eval (.tmp 36) = u36
              generalize a.eval (.tmp 37) = u37
              generalize a.eval (.tmp 38) = u38
              generalize a.eval (.tmp 39) = u39
              generalize a.eval (.tmp 40) = u40
              generalize a.eval (.tmp 41) = u41
              generalize a.eval (.tmp 42) = u42
              generalize a.eval (.tmp 43) = u43
              generalize a.eval (.tmp 44) = u44
              generalize a.eval (.tmp 45) = u45
              generalize a.eval (.tmp 46) = u46
              generalize a.eval (.tmp 47) = u47
              generalize a.eval (.tmp 48) = u48
              generalize a.eval (.tmp 49) = u49
              generalize a.eval (.tmp 50) = u50
              generalize a.eval (.tmp 51) = u51
              generalize a.eval (.tmp 52) = u52
              generalize a.eval (.tmp 53) = u53
              generalize a.eval (.tmp 54) = u54
              generalize a.eval (.tmp 55) = u55
              generalize a.eval (.tmp 56) = u56
              generalize a.eval (.tmp 57) = u57
              generalize a.eval (.tmp 58) = u58
              generalize a.eval (.tmp 59) = u59
              clear hmix hd hsz hE hO
              go_wp2
              go_ret
              exact ⟨by rw [Hr.out]; rfl, Ext.trans Hx2.out hx⟩
          | true =>
            have P2 := Lib.hid p2
            cases p3 : pl z with
            | false =>
              have P3 := Lib.hid p3
              have Hr := Lib.hid (show upw [] l = false by rw [Hr0.out]; exact upw_no (.inl (by unfold eOk; simp only [p1, p2, p3]; simp)))
              clear c1 c2 p1 p2 p3
              go_wp2_with fail
              refine wp_region_list2 [Is (.pointer (some ⟨wr.heap.size, 0, none⟩)), Is (.string ⟨t.toArray⟩), Is (.int .i64 t.length), Is (.bool false), Is (.bool false), Is (.pointer (some ⟨wr.heap.size, 0, none⟩)), Is (.string ⟨t.toArray⟩), Is (.int .i64 t.length), Is (.bool false), Is (.bool false), Is (.bool false), Is (.pointer (some ⟨wr.heap.size, 1, none⟩)), Is (.int .i64 x), Is (.bool true), Is (.bool false), Is (.bool false), Is (.bool false), Is (.pointer (some ⟨wr.heap.size, 2, none⟩)), Is (.int .i64 y), Is (.bool true), Is (.bool false), Is (.bool false), Is (.bool false), Is (.pointer (some ⟨wr.heap.size, 3, none⟩)), Is (.int .i64 z), Is (.bool false), Is (.bool true), Is (.bool true), Is (.bool true), Is undef, Is undef, Is undef, Is undef, Is undef, Is undef, Is undef, Is undef, Is undef, Is undef, Is undef, Is undef, Is undef, Is (.bool true)] (by kernel_rfl) (by kernel_rfl) (by kernel_rfl) ?_ (Steps.all ?_) ?_
              · intro p hp
                simp only [List.mem_cons, List.not_mem_nil, or_false] at hp
                rcases hp with rfl | rfl | rfl | rfl | rfl | rfl | rfl | rfl | rfl | rfl | rfl | rfl | rfl | rfl | rfl | rfl | rfl | rfl | rfl | rfl | rfl | rfl | rfl | rfl | rfl | rfl | rfl | rfl | rfl | rfl | rfl | rfl | rfl | rfl | rfl | rfl | rfl | rfl | rfl | rfl | rfl | rfl | rfl
                all_goals first | exact mono_is _
              · refine Steps.cons_ (step_mk (Is (.pointer (some ⟨wr.heap.size, 0, none⟩))) rfl fun a W hx hE hO => ?_) ?_
                · have h4 : a.eval (.tmp 4) = .pointer (some ⟨wr.heap.size, 0, none⟩) := hO 4 (by kernel_rfl)
                  refine yes_none rfl (do_run (by simp only [execOp, h4] <;> simp [go_sem, ]) rfl)
                refine Steps.cons_ (step_mk (Is (.string ⟨t.toArray⟩)) rfl fun a W hx hE hO => ?_) ?_
                · have h18 : a.eval (.tmp 18) = (.pointer (some ⟨wr.heap.size, 0, none⟩)) := hE 0 (by kernel_rfl) 18 rfl
                  refine yes_none rfl ?_
                  have q0 := Ext.keeps (Ext.trans (Ext.drew _) hx) Q0.out; exact do_run (by simp only [execOp, h18] <;> simp [go_sem, q0]) rfl
                refine Steps.cons_ (step_mk (Is (.int .i64 t.length)) rfl fun a W hx hE hO => ?_) ?_
                · have h19 : a.eval (.tmp 19) = (.string ⟨t.toArray⟩) := hE 1 (by kernel_rfl) 19 rfl
                  refine yes_none rfl ?_
                  exact do_slen rfl Try.underlying9 h19 rfl
                refine Steps.cons_ (step_mk (Is (.bool false)) rfl fun a W hx hE hO => ?_) ?_
                · have h20 : a.eval (.tmp 20) = (.int .i64 t.length) := hE 2 (by kernel_rfl) 20 rfl
                  refine yes_none rfl ?_
                  exact do_bin (v := .bool false) rfl h20 rfl (by simp [go_sem, D1.out]) rfl
                refine Steps.cons_ (step_mk (Is (.bool false)) rfl fun a W hx hE hO => ?_) ?_
                · have h21 : a.eval (.tmp 21) = (.bool false) := hE 3 (by kernel_rfl) 21 rfl
                  exact yes_none rfl (do_move rfl h21)
                refine Steps.cons_ (step_mk (Is (.pointer (some ⟨wr.heap.size, 0, none⟩))) rfl fun a W hx hE hO => ?_) ?_
                · have h22 : a.eval (.tmp 22) = (.bool false) := hE 4 (by kernel_rfl) 22 rfl
                  have h4 : a.eval (.tmp 4) = .pointer (some ⟨wr.heap.size, 0, none⟩) := hO 4 (by kernel_rfl)
                  refine yes_is (j := 4) (d := 22) (b := false) rfl rfl h22 (do_run (by simp only [execOp, h4] <;> simp [go_sem, ]) rfl)
                refine Steps.cons_ (step_mk (Is (.string ⟨t.toArray⟩)) rfl fun a W hx hE hO => ?_) ?_
                · have h22 : a.eval (.tmp 22) = (.bool false) := hE 4 (by kernel_rfl) 22 rfl
                  have h23 : a.eval (.tmp 23) = (.pointer (some ⟨wr.heap.size, 0, none⟩)) := hE 5 (by kernel_rfl) 23 rfl
                  refine yes_is (j := 4) (d := 22) (b := false) rfl rfl h22 ?_
                  have q0 := Ext.keeps (Ext.trans (Ext.drew _) hx) Q0.out; exact do_run (by simp only [execOp, h23] <;> simp [go_sem, q0]) rfl
                refine Steps.cons_ (step_mk (Is (.int .i64 t.length)) rfl fun a W hx hE hO => ?_) ?_
                · have h22 : a.eval (.tmp 22) = (.bool false) := hE 4 (by kernel_rfl) 22 rfl
                  have h24 : a.eval (.tmp 24) = (.string ⟨t.toArray⟩) := hE 6 (by kernel_rfl) 24 rfl
                  refine yes_is (j := 4) (d := 22) (b := false) rfl rfl h22 ?_
                  exact do_slen rfl Try.underlying9 h24 rfl
                refine Steps.cons_ (step_mk (Is (.bool false)) rfl fun a W hx hE hO => ?_) ?_
                · have h22 : a.eval (.tmp 22) = (.bool false) := hE 4 (by kernel_rfl) 22 rfl
                  have h25 : a.eval (.tmp 25) = (.int .i64 t.length) := hE 7 (by kernel_rfl) 25 rfl
                  refine yes_is (j := 4) (d := 22) (b := false) rfl rfl h22 ?_
                  exact do_bin (v := .bool false) rfl h25 rfl (by simp [go_sem, D2.out]) rfl
                refine Steps.cons_ (step_mk (Is (.bool false)) rfl fun a W hx hE hO => ?_) ?_
                · have h22 : a.eval (.tmp 22) = (.bool false) := hE 4 (by kernel_rfl) 22 rfl
                  have h26 : a.eval (.tmp 26) = (.bool false) := hE 8 (by kernel_rfl) 26 rfl
                  exact yes_none rfl (do_pick_no rfl h22 h26)
                refine Steps.cons_ (step_mk (Is (.bool false)) rfl fun a W hx hE hO => ?_) ?_
                · have h27 : a.eval (.tmp 27) = (.bool false) := hE 9 (by kernel_rfl) 27 rfl
                  exact yes_none rfl (do_move rfl h27)
                refine Steps.cons_ (step_mk (Is (.pointer (some ⟨wr.heap.size, 1, none⟩))) rfl fun a W hx hE hO => ?_) ?_
                · have h28 : a.eval (.tmp 28) = (.bool false) := hE 10 (by kernel_rfl) 28 rfl
                  have h4 : a.eval (.tmp 4) = .pointer (some ⟨wr.heap.size, 0, none⟩) := hO 4 (by kernel_rfl)
                  refine yes_is (j := 10) (d := 28) (b := false) rfl rfl h28 (do_run (by simp only [execOp, h4] <;> simp [go_sem, ]) rfl)
                refine Steps.cons_ (step_mk (Is (.int .i64 x)) rfl fun a W hx hE hO => ?_) ?_
                · have h28 : a.eval (.tmp 28) = (.bool false) := hE 10 (by kernel_rfl) 28 rfl
                  have h29 : a.eval (.tmp 29) = (.pointer (some ⟨wr.heap.size, 1, none⟩)) := hE 11 (by kernel_rfl) 29 rfl
                  refine yes_is (j := 10) (d := 28) (b := false) rfl rfl h28 ?_
                  have q0 := Ext.keeps (Ext.trans (Ext.drew _) hx) Q1.out; exact do_run (by simp only [execOp, h29] <;> simp [go_sem, q0]) rfl
                refine Steps.cons_ (step_mk (Is (.bool true)) rfl fun a W hx hE hO => ?_) ?_
                · have h28 : a.eval (.tmp 28) = (.bool false) := hE 10 (by kernel_rfl) 28 rfl
                  have h30 : a.eval (.tmp 30) = (.int .i64 x) := hE 12 (by kernel_rfl) 30 rfl
                  refine yes_is (j := 10) (d := 28) (b := false) rfl rfl h28 (do_call rfl Try.func42 (by kernel_rfl) (by kernel_rfl) (args := #[(.int .i64 x)]) (by simp only [List.map_toArray, List.map_cons, List.map_nil, h30]) ?_)
                  exact (place_any W x).mono fun e w' ⟨he, hx⟩ => ⟨_, he, hx, by rw [P1.out]; rfl⟩
                refine Steps.cons_ (step_mk (Is (.bool false)) rfl fun a W hx hE hO => ?_) ?_
                · have h28 : a.eval (.tmp 28) = (.bool false) := hE 10 (by kernel_rfl) 28 rfl
                  have h31 : a.eval (.tmp 31) = (.bool true) := hE 13 (by kernel_rfl) 31 rfl
                  refine yes_is (j := 10) (d := 28) (b := false) rfl rfl h28 (do_run (by simp only [execOp, h31] <;> simp [go_sem]) rfl)
                refine Steps.cons_ (step_mk (Is (.bool false)) rfl fun a W hx hE hO => ?_) ?_
                · have h28 : a.eval (.tmp 28) = (.bool false) := hE 10 (by kernel_rfl) 28 rfl
                  have h32 : a.eval (.tmp 32) = (.bool false) := hE 14 (by kernel_rfl) 32 rfl
                  exact yes_none rfl (do_pick_no rfl h28 h32)
                refine Steps.cons_ (step_mk (Is (.bool false)) rfl fun a W hx hE hO => ?_) ?_
                · have h33 : a.eval (.tmp 33) = (.bool false) := hE 15 (by kernel_rfl) 33 rfl
                  exact yes_none rfl (do_move rfl h33)
                refine Steps.cons_ (step_mk (Is (.pointer (some ⟨wr.heap.size, 2, none⟩))) rfl fun a W hx hE hO => ?_) ?_
                · have h34 : a.eval (.tmp 34) = (.bool false) := hE 16 (by kernel_rfl) 34 rfl
                  have h4 : a.eval (.tmp 4) = .pointer (some ⟨wr.heap.size, 0, none⟩) := hO 4 (by kernel_rfl)
                  refine yes_is (j := 16) (d := 34) (b := false) rfl rfl h34 (do_run (by simp only [execOp, h4] <;> simp [go_sem, ]) rfl)
                refine Steps.cons_ (step_mk (Is (.int .i64 y)) rfl fun a W hx hE hO => ?_) ?_
                · have h34 : a.eval (.tmp 34) = (.bool false) := hE 16 (by kernel_rfl) 34 rfl
                  have h35 : a.eval (.tmp 35) = (.pointer (some ⟨wr.heap.size, 2, none⟩)) := hE 17 (by kernel_rfl) 35 rfl
                  refine yes_is (j := 16) (d := 34) (b := false) rfl rfl h34 ?_
                  have q0 := Ext.keeps (Ext.trans (Ext.drew _) hx) Q2.out; exact do_run (by simp only [execOp, h35] <;> simp [go_sem, q0]) rfl
                refine Steps.cons_ (step_mk (Is (.bool true)) rfl fun a W hx hE hO => ?_) ?_
                · have h34 : a.eval (.tmp 34) = (.bool false) := hE 16 (by kernel_rfl) 34 rfl
                  have h36 : a.eval (.tmp 36) = (.int .i64 y) := hE 18 (by kernel_rfl) 36 rfl
                  refine yes_is (j := 16) (d := 34) (b := false) rfl rfl h34 (do_call rfl Try.func42 (by kernel_rfl) (by kernel_rfl) (args := #[(.int .i64 y)]) (by simp only [List.map_toArray, List.map_cons, List.map_nil, h36]) ?_)
                  exact (place_any W y).mono fun e w' ⟨he, hx⟩ => ⟨_, he, hx, by rw [P2.out]; rfl⟩
                refine Steps.cons_ (step_mk (Is (.bool false)) rfl fun a W hx hE hO => ?_) ?_
                · have h34 : a.eval (.tmp 34) = (.bool false) := hE 16 (by kernel_rfl) 34 rfl
                  have h37 : a.eval (.tmp 37) = (.bool true) := hE 19 (by kernel_rfl) 37 rfl
                  refine yes_is (j := 16) (d := 34) (b := false) rfl rfl h34 (do_run (by simp only [execOp, h37] <;> simp [go_sem]) rfl)
                refine Steps.cons_ (step_mk (Is (.bool false)) rfl fun a W hx hE hO => ?_) ?_
                · have h34 : a.eval (.tmp 34) = (.bool false) := hE 16 (by kernel_rfl) 34 rfl
                  have h38 : a.eval (.tmp 38) = (.bool false) := hE 20 (by kernel_rfl) 38 rfl
                  exact yes_none rfl (do_pick_no rfl h34 h38)
                refine Steps.cons_ (step_mk (Is (.bool false)) rfl fun a W hx hE hO => ?_) ?_
                · have h39 : a.eval (.tmp 39) = (.bool false) := hE 21 (by kernel_rfl) 39 rfl
                  exact yes_none rfl (do_move rfl h39)
                refine Steps.cons_ (step_mk (Is (.pointer (some ⟨wr.heap.size, 3, none⟩))) rfl fun a W hx hE hO => ?_) ?_
                · have h40 : a.eval (.tmp 40) = (.bool false) := hE 22 (by kernel_rfl) 40 rfl
                  have h4 : a.eval (.tmp 4) = .pointer (some ⟨wr.heap.size, 0, none⟩) := hO 4 (by kernel_rfl)
                  refine yes_is (j := 22) (d := 40) (b := false) rfl rfl h40 (do_run (by simp only [execOp, h4] <;> simp [go_sem, ]) rfl)
                refine Steps.cons_ (step_mk (Is (.int .i64 z)) rfl fun a W hx hE hO => ?_) ?_
                · have h40 : a.eval (.tmp 40) = (.bool false) := hE 22 (by kernel_rfl) 40 rfl
                  have h41 : a.eval (.tmp 41) = (.pointer (some ⟨wr.heap.size, 3, none⟩)) := hE 23 (by kernel_rfl) 41 rfl
                  refine yes_is (j := 22) (d := 40) (b := false) rfl rfl h40 ?_
                  have q0 := Ext.keeps (Ext.trans (Ext.drew _) hx) Q3.out; exact do_run (by simp only [execOp, h41] <;> simp [go_sem, q0]) rfl
                refine Steps.cons_ (step_mk (Is (.bool false)) rfl fun a W hx hE hO => ?_) ?_
                · have h40 : a.eval (.tmp 40) = (.bool false) := hE 22 (by kernel_rfl) 40 rfl
                  have h42 : a.eval (.tmp 42) = (.int .i64 z) := hE 24 (by kernel_rfl) 42 rfl
                  refine yes_is (j := 22) (d := 40) (b := false) rfl rfl h40 (do_call rfl Try.func42 (by kernel_rfl) (by kernel_rfl) (args := #[(.int .i64 z)]) (by simp only [List.map_toArray, List.map_cons, List.map_nil, h42]) ?_)
                  exact (place_any W z).mono fun e w' ⟨he, hx⟩ => ⟨_, he, hx, by rw [P3.out]; rfl⟩
                refine Steps.cons_ (step_mk (Is (.bool true)) rfl fun a W hx hE hO => ?_) ?_
                · have h40 : a.eval (.tmp 40) = (.bool false) := hE 22 (by kernel_rfl) 40 rfl
                  have h43 : a.eval (.tmp 43) = (.bool false) := hE 25 (by kernel_rfl) 43 rfl
                  refine yes_is (j := 22) (d := 40) (b := false) rfl rfl h40 (do_run (by simp only [execOp, h43] <;> simp [go_sem]) rfl)
                refine Steps.cons_ (step_mk (Is (.bool true)) rfl fun a W hx hE hO => ?_) ?_
                · have h40 : a.eval (.tmp 40) = (.bool false) := hE 22 (by kernel_rfl) 40 rfl
                  have h44 : a.eval (.tmp 44) = (.bool true) := hE 26 (by kernel_rfl) 44 rfl
                  exact yes_none rfl (do_pick_no rfl h40 h44)
                refine Steps.cons_ (step_mk (Is (.bool true)) rfl fun a W hx hE hO => ?_) ?_
                · have h45 : a.eval (.tmp 45) = (.bool true) := hE 27 (by kernel_rfl) 45 rfl
                  exact yes_none rfl (do_move rfl h45)
                refine Steps.cons_ (step_mk (Is undef) rfl fun a W hx hE hO => ?_) ?_
                · have h46 : a.eval (.tmp 46) = (.bool true) := hE 28 (by kernel_rfl) 46 rfl
                  have h3 : a.eval (.tmp 3) = .int .i64 k := hO 3 (by kernel_rfl)
                  exact no_is (j := 28) (d := 46) (b := false) rfl rfl h46 rfl
                refine Steps.cons_ (step_mk (Is undef) rfl fun a W hx hE hO => ?_) ?_
                · have h46 : a.eval (.tmp 46) = (.bool true) := hE 28 (by kernel_rfl) 46 rfl
                  have h47 : a.eval (.tmp 47) = undef := hE 29 (by kernel_rfl) 47 rfl
                  exact no_is (j := 28) (d := 46) (b := false) rfl rfl h46 rfl
                refine Steps.cons_ (step_mk (Is undef) rfl fun a W hx hE hO => ?_) ?_
                · have h46 : a.eval (.tmp 46) = (.bool true) := hE 28 (by kernel_rfl) 46 rfl
                  have h48 : a.eval (.tmp 48) = undef := hE 30 (by kernel_rfl) 48 rfl
                  exact no_is (j := 28) (d := 46) (b := false) rfl rfl h46 rfl
                refine Steps.cons_ (step_mk (Is undef) rfl fun a W hx hE hO => ?_) ?_
                · have h49 : a.eval (.tmp 49) = undef := hE 31 (by kernel_rfl) 49 rfl
                  have h0 : a.eval (.tmp 0) = .slice (some ad) l.length c := hO 0 (by kernel_rfl)
                  exact no_undef (j := 31) (d := 49) (b := true) rfl rfl h49 rfl
                refine Steps.cons_ (step_mk (Is undef) rfl fun a W hx hE hO => ?_) ?_
                · have h49 : a.eval (.tmp 49) = undef := hE 31 (by kernel_rfl) 49 rfl
                  have h3 : a.eval (.tmp 3) = .int .i64 k := hO 3 (by kernel_rfl)
                  exact no_undef (j := 31) (d := 49) (b := true) rfl rfl h49 rfl
                refine Steps.cons_ (step_mk (Is undef) rfl fun a W hx hE hO => ?_) ?_
                · have h49 : a.eval (.tmp 49) = undef := hE 31 (by kernel_rfl) 49 rfl
                  have h51 : a.eval (.tmp 51) = undef := hE 33 (by kernel_rfl) 51 rfl
                  exact no_undef (j := 31) (d := 49) (b := true) rfl rfl h49 rfl
                refine Steps.cons_ (step_mk (Is undef) rfl fun a W hx hE hO => ?_) ?_
                · have h49 : a.eval (.tmp 49) = undef := hE 31 (by kernel_rfl) 49 rfl
                  have h50 : a.eval (.tmp 50) = undef := hE 32 (by kernel_rfl) 50 rfl
                  have h52 : a.eval (.tmp 52) = undef := hE 34 (by kernel_rfl) 52 rfl
                  exact no_undef (j := 31) (d := 49) (b := true) rfl rfl h49 rfl
                refine Steps.cons_ (step_mk (Is undef) rfl fun a W hx hE hO => ?_) ?_
                · have h49 : a.eval (.tmp 49) = undef := hE 31 (by kernel_rfl) 49 rfl
                  have h53 : a.eval (.tmp 53) = undef := hE 35 (by kernel_rfl) 53 rfl
                  exact no_undef (j := 31) (d := 49) (b := true) rfl rfl h49 rfl
                refine Steps.cons_ (step_mk (Is undef) rfl fun a W hx hE hO => ?_) ?_
                · have h49 : a.eval (.tmp 49) = undef := hE 31 (by kernel_rfl) 49 rfl
                  have h54 : a.eval (.tmp 54) = undef := hE 36 (by kernel_rfl) 54 rfl
                  exact no_undef (j := 31) (d := 49) (b := true) rfl rfl h49 rfl
                refine Steps.cons_ (step_mk (Is undef) rfl fun a W hx hE hO => ?_) ?_
                · have h49 : a.eval (.tmp 49) = undef := hE 31 (by kernel_rfl) 49 rfl
                  have h4 : a.eval (.tmp 4) = .pointer (some ⟨wr.heap.size, 0, none⟩) := hO 4 (by kernel_rfl)
                  exact no_undef (j := 31) (d := 49) (b := true) rfl rfl h49 rfl
                refine Steps.cons_ (step_mk (Is undef) rfl fun a W hx hE hO => ?_) ?_
                · have h49 : a.eval (.tmp 49) = undef := hE 31 (by kernel_rfl) 49 rfl
                  have h56 : a.eval (.tmp 56) = undef := hE 38 (by kernel_rfl) 56 rfl
                  exact no_undef (j := 31) (d := 49) (b := true) rfl rfl h49 rfl
                refine Steps.cons_ (step_mk (Is undef) rfl fun a W hx hE hO => ?_) ?_
                · have h49 : a.eval (.tmp 49) = undef := hE 31 (by kernel_rfl) 49 rfl
                  have h55 : a.eval (.tmp 55) = undef := hE 37 (by kernel_rfl) 55 rfl
                  have h57 : a.eval (.tmp 57) = undef := hE 39 (by kernel_rfl) 57 rfl
                  exact no_undef (j := 31) (d := 49) (b := true) rfl rfl h49 rfl
                refine Steps.cons_ (step_mk (Is undef) rfl fun a W hx hE hO => ?_) ?_
                · have h46 : a.eval (.tmp 46) = (.bool true) := hE 28 (by kernel_rfl) 46 rfl
                  have h49 : a.eval (.tmp 49) = undef := hE 31 (by kernel_rfl) 49 rfl
                  have h58 : a.eval (.tmp 58) = undef := hE 40 (by kernel_rfl) 58 rfl
                  exact no_is (j := 28) (d := 46) (b := false) rfl rfl h46 rfl
                refine Steps.cons_ (step_mk (Is (.bool true)) rfl fun a W hx hE hO => ?_) ?_
                · have h46 : a.eval (.tmp 46) = (.bool true) := hE 28 (by kernel_rfl) 46 rfl
                  have h59 : a.eval (.tmp 59) = undef := hE 41 (by kernel_rfl) 59 rfl
                  exact yes_none rfl (do_pick rfl h46 rfl)
                exact Steps.nil_
              · intro a W hx hd hsz hE hO
                have h60 : a.eval (.tmp 60) = (.bool true) := hE 42 (of_decide_eq_true (by kernel_rfl)) 60 rfl
                have hmix := act_mix [false, false, false, false, false, false, false, false, false, false, false, false, false, false, false, false, false, false, true, true, true, true, true, true, true, true, true, true, true, true, true, true, true, true, true, true, true, true, true, true, true, true, true, true, true, true, true, true, true, true, true, true, true, true, true, true, true, true, true, true, true] (by kernel_rfl) hsz hd hO
                simp only [mixA, Nat.reduceAdd, Nat.zero_add] at hmix
                rw [hmix]
                rw [h60]
                generalize a.eval (.tmp 18) = u18
                generalize a.eval (.tmp 19) = u19
                generalize a.eval (.tmp 20) = u20
                generalize a.eval (.tmp 21) = u21
                generalize a.eval (.tmp 22) = u22
                generalize a.eval (.tmp 23) = u23
                generalize a.eval (.tmp 24) = u24
                generalize a.eval (.tmp 25) = u25
                generalize a.eval (.tmp 26) = u26
                generalize a.eval (.tmp 27) = u27
                generalize a.eval (.tmp 28) = u28
                generalize a.eval (.tmp 29) = u29
                generalize a.eval (.tmp 30) = u30
                generalize a.eval (.tmp 31) = u31
                generalize a.eval (.tmp 32) = u32
                generalize a.eval (.tmp 33) = u33
                generalize a.eval (.tmp 34) = u34
                generalize a.eval (.tmp 35) = u35
                generalize a.eval (.tmp 36) = u36
                generalize a.eval (.tmp 37) = u37
                generalize a.eval (.tmp 38) = u38
                generalize a.eval (.tmp 39) = u39
                generalize a.eval (.tmp 40) = u40
                generalize a.eval (.tmp 41) = u41
                generalize a.eval (.tmp 42) = u42
                generalize a.eval (.tmp 43) = u43
                generalize a.eval (.tmp 44) = u44
                generalize a.eval (.tmp 45) = u45
                generalize a.eval (.tmp 46) = u46
                generalize a.eval (.tmp 47) = u47
                generalize a.eval (.tmp 48) = u48
                generalize a.eval (.tmp 49) = u49
                generalize a.eval (.tmp 50) = u50
                generalize a.eval (.tmp 51) = u51
                generalize a.eval (.tmp 52) = u52
                generalize a.eval (.tmp 53) = u53
                generalize a.eval (.tmp 54) = u54
                generalize a.eval (.tmp 55) = u55
                generalize a.eval (.tmp 56) = u56
                generalize a.eval (.tmp 57) = u57
                generalize a.eval (.tmp 58) = u58
                generalize a.eval (.tmp 59) = u59
                clear hmix hd hsz hE hO
                go_wp2
                go_ret
                exact ⟨by rw [Hr.out]; rfl, Ext.trans Hx2.out hx⟩
            | true =>
              have P3 := Lib.hid p3
              have heok := Lib.hid (show eOk (⟨t⟩, x, y, z) = true by unfold eOk; simp only [p1, p2, p3]; simpa using c2)
              clear p1 p2 p3 c2
              by_cases h0 : k = 0
              · have K0 := Lib.hid h0
                have Hr := Lib.hid (show upw [] l = upw (tlast [] (l.take (k + 1))) (l.drop (k + 1)) by rw [Hr0.out, Hnx.out]; exact upw_yes heok.out (by rw [h0]; exact nil_less (t := t) (by omega)))
                clear c1 h0
                go_wp2_with fail
                refine wp_region_list2 [Is (.pointer (some ⟨wr.heap.size, 0, none⟩)), Is (.string ⟨t.toArray⟩), Is (.int .i64 t.length), Is (.bool false), Is (.bool false), Is (.pointer (some ⟨wr.heap.size, 0, none⟩)), Is (.string ⟨t.toArray⟩), Is (.int .i64 t.length), Is (.bool false), Is (.bool false), Is (.bool false), Is (.pointer (some ⟨wr.heap.size, 1, none⟩)), Is (.int .i64 x), Is (.bool true), Is (.bool false), Is (.bool false), Is (.bool false), Is (.pointer (some ⟨wr.heap.size, 2, none⟩)), Is (.int .i64 y), Is (.bool true), Is (.bool false), Is (.bool false), Is (.bool false), Is (.pointer (some ⟨wr.heap.size, 3, none⟩)), Is (.int .i64 z), Is (.bool true), Is (.bool false), Is (.bool false), Is (.bool false), Is (.int .i64 k), Is (.bool false), Is (.bool false), Is undef, Is undef, Is undef, Is undef, Is undef, Is undef, Is undef, Is undef, Is undef, Is (.bool false), Is (.bool false)] (by kernel_rfl) (by kernel_rfl) (by kernel_rfl) ?_ (Steps.all ?_) ?_
                · intro p hp
                  simp only [List.mem_cons, List.not_mem_nil, or_false] at hp
                  rcases hp with rfl | rfl | rfl | rfl | rfl | rfl | rfl | rfl | rfl | rfl | rfl | rfl | rfl | rfl | rfl | rfl | rfl | rfl | rfl | rfl | rfl | rfl | rfl | rfl | rfl | rfl | rfl | rfl | rfl | rfl | rfl | rfl | rfl | rfl | rfl | rfl | rfl | rfl | rfl | rfl | rfl | rfl | rfl
                  all_goals first | exact mono_is _
                · refine Steps.cons_ (step_mk (Is (.pointer (some ⟨wr.heap.size, 0, none⟩))) rfl fun a W hx hE hO => ?_) ?_
                  · have h4 : a.eval (.tmp 4) = .pointer (some ⟨wr.heap.size, 0, none⟩) := hO 4 (by kernel_rfl)
                    refine yes_none rfl (do_run (by simp only [execOp, h4] <;> simp [go_sem, ]) rfl)
                  refine Steps.cons_ (step_mk (Is (.string ⟨t.toArray⟩)) rfl fun a W hx hE hO => ?_) ?_
                  · have h18 : a.eval (.tmp 18) = (.pointer (some ⟨wr.heap.size, 0, none⟩)) := hE 0 (by kernel_rfl) 18 rfl
                    refine yes_none rfl ?_
                    have q0 := Ext.keeps (Ext.trans (Ext.drew _) hx) Q0.out; exact do_run (by simp only [execOp, h18] <;> simp [go_sem, q0]) rfl
                  refine Steps.cons_ (step_mk (Is (.int .i64 t.length)) rfl fun a W hx hE hO => ?_) ?_
                  · have h19 : a.eval (.tmp 19) = (.string ⟨t.toArray⟩) := hE 1 (by kernel_rfl) 19 rfl
                    refine yes_none rfl ?_
                    exact do_slen rfl Try.underlying9 h19 rfl
                  refine Steps.cons_ (step_mk (Is (.bool false)) rfl fun a W hx hE hO => ?_) ?_
                  · have h20 : a.eval (.tmp 20) = (.int .i64 t.length) := hE 2 (by kernel_rfl) 20 rfl
                    refine yes_none rfl ?_
                    exact do_bin (v := .bool false) rfl h20 rfl (by simp [go_sem, D1.out]) rfl
                  refine Steps.cons_ (step_mk (Is (.bool false)) rfl fun a W hx hE hO => ?_) ?_
                  · have h21 : a.eval (.tmp 21) = (.bool false) := hE 3 (by kernel_rfl) 21 rfl
                    exact yes_none rfl (do_move rfl h21)
                  refine Steps.cons_ (step_mk (Is (.pointer (some ⟨wr.heap.size, 0, none⟩))) rfl fun a W hx hE hO => ?_) ?_
                  · have h22 : a.eval (.tmp 22) = (.bool false) := hE 4 (by kernel_rfl) 22 rfl
                    have h4 : a.eval (.tmp 4) = .pointer (some ⟨wr.heap.size, 0, none⟩) := hO 4 (by kernel_rfl)
                    refine yes_is (j := 4) (d := 22) (b := false) rfl rfl h22 (do_run (by simp only [execOp, h4] <;> simp [go_sem, ]) rfl)
                  refine Steps.cons_ (step_mk (Is (.string ⟨t.toArray⟩)) rfl fun a W hx hE hO => ?_) ?_
                  · have h22 : a.eval (.tmp 22) = (.bool false) := hE 4 (by kernel_rfl) 22 rfl
                    have h23 : a.eval (.tmp 23) = (.pointer (some ⟨wr.heap.size, 0, none⟩)) := hE 5 (by kernel_rfl) 23 rfl
                    refine yes_is (j := 4) (d := 22) (b := false) rfl rfl h22 ?_
                    have q0 := Ext.keeps (Ext.trans (Ext.drew _) hx) Q0.out; exact do_run (by simp only [execOp, h23] <;> simp [go_sem, q0]) rfl
                  refine Steps.cons_ (step_mk (Is (.int .i64 t.length)) rfl fun a W hx hE hO => ?_) ?_
                  · have h22 : a.eval (.tmp 22) = (.bool false) := hE 4 (by kernel_rfl) 22 rfl
                    have h24 : a.eval (.tmp 24) = (.string ⟨t.toArray⟩) := hE 6 (by kernel_rfl) 24 rfl
                    refine yes_is (j := 4) (d := 22) (b := false) rfl rfl h22 ?_
                    exact do_slen rfl Try.underlying9 h24 rfl
                  refine Steps.cons_ (step_mk (Is (.bool false)) rfl fun a W hx hE hO => ?_) ?_
                  · have h22 : a.eval (.tmp 22) = (.bool false) := hE 4 (by kernel_rfl) 22 rfl
                    have h25 : a.eval (.tmp 25) = (.int .i64 t.length) := hE 7 (by kernel_rfl) 25 rfl
                    refine yes_is (j := 4) (d := 22) (b := false) rfl rfl h22 ?_
                    exact do_bin (v := .bool false) rfl h25 rfl (by simp [go_sem, D2.out]) rfl
                  refine Steps.cons_ (step_mk (Is (.bool false)) rfl fun a W hx hE hO => ?_) ?_
                  · have h22 : a.eval (.tmp 22) = (.bool false) := hE 4 (by kernel_rfl) 22 rfl
                    have h26 : a.eval (.tmp 26) = (.bool false) := hE 8 (by kernel_rfl) 26 rfl
                    exact yes_none rfl (do_pick_no rfl h22 h26)
                  refine Steps.cons_ (step_mk (Is (.bool false)) rfl fun a W hx hE hO => ?_) ?_
                  · have h27 : a.eval (.tmp 27) = (.bool false) := hE 9 (by kernel_rfl) 27 rfl
                    exact yes_none rfl (do_move rfl h27)
                  refine Steps.cons_ (step_mk (Is (.pointer (some ⟨wr.heap.size, 1, none⟩))) rfl fun a W hx hE hO => ?_) ?_
                  · have h28 : a.eval (.tmp 28) = (.bool false) := hE 10 (by kernel_rfl) 28 rfl
                    have h4 : a.eval (.tmp 4) = .pointer (some ⟨wr.heap.size, 0, none⟩) := hO 4 (by kernel_rfl)
                    refine yes_is (j := 10) (d := 28) (b := false) rfl rfl h28 (do_run (by simp only [execOp, h4] <;> simp [go_sem, ]) rfl)
                  refine Steps.cons_ (step_mk (Is (.int .i64 x)) rfl fun a W hx hE hO => ?_) ?_
                  · have h28 : a.eval (.tmp 28) = (.bool false) := hE 10 (by kernel_rfl) 28 rfl
                    have h29 : a.eval (.tmp 29) = (.pointer (some ⟨wr.heap.size, 1, none⟩)) := hE 11 (by kernel_rfl) 29 rfl
                    refine yes_is (j := 10) (d := 28) (b := false) rfl rfl h28 ?_
                    have q0 := Ext.keeps (Ext.trans (Ext.drew _) hx) Q1.out; exact do_run (by simp only [execOp, h29] <;> simp [go_sem, q0]) rfl
                  refine Steps.cons_ (step_mk (Is (.bool true)) rfl fun a W hx hE hO => ?_) ?_
                  · have h28 : a.eval (.tmp 28) = (.bool false) := hE 10 (by kernel_rfl) 28 rfl
                    have h30 : a.eval (.tmp 30) = (.int .i64 x) := hE 12 (by kernel_rfl) 30 rfl
                    refine yes_is (j := 10) (d := 28) (b := false) rfl rfl h28 (do_call rfl Try.func42 (by kernel_rfl) (by kernel_rfl) (args := #[(.int .i64 x)]) (by simp only [List.map_toArray, List.map_cons, List.map_nil, h30]) ?_)
                    exact (place_any W x).mono fun e w' ⟨he, hx⟩ => ⟨_, he, hx, by rw [P1.out]; rfl⟩
                  refine Steps.cons_ (step_mk (Is (.bool false)) rfl fun a W hx hE hO => ?_) ?_
                  · have h28 : a.eval (.tmp 28) = (.bool false) := hE 10 (by kernel_rfl) 28 rfl
                    have h31 : a.eval (.tmp 31) = (.bool true) := hE 13 (by kernel_rfl) 31 rfl
                    refine yes_is (j := 10) (d := 28) (b := false) rfl rfl h28 (do_run (by simp only [execOp, h31] <;> simp [go_sem]) rfl)
                  refine Steps.cons_ (step_mk (Is (.bool false)) rfl fun a W hx hE hO => ?_) ?_
                  · have h28 : a.eval (.tmp 28) = (.bool false) := hE 10 (by kernel_rfl) 28 rfl
                    have h32 : a.eval (.tmp 32) = (.bool false) := hE 14 (by kernel_rfl) 32 rfl
                    exact yes_none rfl (do_pick_no rfl h28 h32)
                  refine Steps.cons_ (step_mk (Is (.bool false)) rfl fun a W hx hE hO => ?_) ?_
                  · have h33 : a.eval (.tmp 33) = (.bool false) := hE 15 (by kernel_rfl) 33 rfl
                    exact yes_none rfl (do_move rfl h33)
                  refine Steps.cons_ (step_mk (Is (.pointer (some ⟨wr.heap.size, 2, none⟩))) rfl fun a W hx hE hO => ?_) ?_
                  · have h34 : a.eval (.tmp 34) = (.bool false) := hE 16 (by kernel_rfl) 34 rfl
                    have h4 : a.eval (.tmp 4) = .pointer (some ⟨wr.heap.size, 0, none⟩) := hO 4 (by kernel_rfl)
                    refine yes_is (j := 16) (d := 34) (b := false) rfl rfl h34 (do_run (by simp only [execOp, h4] <;> simp [go_sem, ]) rfl)
                  refine Steps.cons_ (step_mk (Is (.int .i64 y)) rfl fun a W hx hE hO => ?_) ?_
                  · have h34 : a.eval (.tmp 34) = (.bool false) := hE 16 (by kernel_rfl) 34 rfl
                    have h35 : a.eval (.tmp 35) = (.pointer (some ⟨wr.heap.size, 2, none⟩)) := hE 17 (by kernel_rfl) 35 rfl
                    refine yes_is (j := 16) (d := 34) (b := false) rfl rfl h34 ?_
                    have q0 := Ext.keeps (Ext.trans (Ext.drew _) hx) Q2.out; exact do_run (by simp only [execOp, h35] <;> simp [go_sem, q0]) rfl
                  refine Steps.cons_ (step_mk (Is (.bool true)) rfl fun a W hx hE hO => ?_) ?_
                  · have h34 : a.eval (.tmp 34) = (.bool false) := hE 16 (by kernel_rfl) 34 rfl
                    have h36 : a.eval (.tmp 36) = (.int .i64 y) := hE 18 (by kernel_rfl) 36 rfl
                    refine yes_is (j := 16) (d := 34) (b := false) rfl rfl h34 (do_call rfl Try.func42 (by kernel_rfl) (by kernel_rfl) (args := #[(.int .i64 y)]) (by simp only [List.map_toArray, List.map_cons, List.map_nil, h36]) ?_)
                    exact (place_any W y).mono fun e w' ⟨he, hx⟩ => ⟨_, he, hx, by rw [P2.out]; rfl⟩
                  refine Steps.cons_ (step_mk (Is (.bool false)) rfl fun a W hx hE hO => ?_) ?_
                  · have h34 : a.eval (.tmp 34) = (.bool false) := hE 16 (by kernel_rfl) 34 rfl
                    have h37 : a.eval (.tmp 37) = (.bool true) := hE 19 (by kernel_rfl) 37 rfl
                    refine yes_is (j := 16) (d := 34) (b := false) rfl rfl h34 (do_run (by simp only [execOp, h37] <;> simp [go_sem]) rfl)
                  refine Steps.cons_ (step_mk (Is (.bool false)) rfl fun a W hx hE hO => ?_) ?_
                  · have h34 : a.eval (.tmp 34) = (.bool false) := hE 16 (by kernel_rfl) 34 rfl
                    have h38 : a.eval (.tmp 38) = (.bool false) := hE 20 (by kernel_rfl) 38 rfl
                    exact yes_none rfl (do_pick_no rfl h34 h38)
                  refine Steps.cons_ (step_mk (Is (.bool false)) rfl fun a W hx hE hO => ?_) ?_
                  · have h39 : a.eval (.tmp 39) = (.bool false) := hE 21 (by kernel_rfl) 39 rfl
                    exact yes_none rfl (do_move rfl h39)
                  refine Steps.cons_ (step_mk (Is (.pointer (some ⟨wr.heap.size, 3, none⟩))) rfl fun a W hx hE hO => ?_) ?_
                  · have h40 : a.eval (.tmp 40) = (.bool false) := hE 22 (by kernel_rfl) 40 rfl
                    have h4 : a.eval (.tmp 4) = .pointer (some ⟨wr.heap.size, 0, none⟩) := hO 4 (by kernel_rfl)
                    refine yes_is (j := 22) (d := 40) (b := false) rfl rfl h40 (do_run (by simp only [execOp, h4] <;> simp [go_sem, ]) rfl)
                  refine Steps.cons_ (step_mk (Is (.int .i64 z)) rfl fun a W hx hE hO => ?_) ?_
                  · have h40 : a.eval (.tmp 40) = (.bool false) := hE 22 (by kernel_rfl) 40 rfl
                    have h41 : a.eval (.tmp 41) = (.pointer (some ⟨wr.heap.size, 3, none⟩)) := hE 23 (by kernel_rfl) 41 rfl
                    refine yes_is (j := 22) (d := 40) (b := false) rfl rfl h40 ?_
                    have q0 := Ext.keeps (Ext.trans (Ext.drew _) hx) Q3.out; exact do_run (by simp only [execOp, h41] <;> simp [go_sem, q0]) rfl
                  refine Steps.cons_ (step_mk (Is (.bool true)) rfl fun a W hx hE hO => ?_) ?_
                  · have h40 : a.eval (.tmp 40) = (.bool false) := hE 22 (by kernel_rfl) 40 rfl
                    have h42 : a.eval (.tmp 42) = (.int .i64 z) := hE 24 (by kernel_rfl) 42 rfl
                    refine yes_is (j := 22) (d := 40) (b := false) rfl rfl h40 (do_call rfl Try.func42 (by kernel_rfl) (by kernel_rfl) (args := #[(.int .i64 z)]) (by simp only [List.map_toArray, List.map_cons, List.map_nil, h42]) ?_)
                    exact (place_any W z).mono fun e w' ⟨he, hx⟩ => ⟨_, he, hx, by rw [P3.out]; rfl⟩
                  refine Steps.cons_ (step_mk (Is (.bool false)) rfl fun a W hx hE hO => ?_) ?_
                  · have h40 : a.eval (.tmp 40) = (.bool false) := hE 22 (by kernel_rfl) 40 rfl
                    have h43 : a.eval (.tmp 43) = (.bool true) := hE 25 (by kernel_rfl) 43 rfl
                    refine yes_is (j := 22) (d := 40) (b := false) rfl rfl h40 (do_run (by simp only [execOp, h43] <;> simp [go_sem]) rfl)
                  refine Steps.cons_ (step_mk (Is (.bool false)) rfl fun a W hx hE hO => ?_) ?_
                  · have h40 : a.eval (.tmp 40) = (.bool false) := hE 22 (by kernel_rfl) 40 rfl
                    have h44 : a.eval (.tmp 44) = (.bool false) := hE 26 (by kernel_rfl) 44 rfl
                    exact yes_none rfl (do_pick_no rfl h40 h44)
                  refine Steps.cons_ (step_mk (Is (.bool false)) rfl fun a W hx hE hO => ?_) ?_
                  · have h45 : a.eval (.tmp 45) = (.bool false) := hE 27 (by kernel_rfl) 45 rfl
                    exact yes_none rfl (do_move rfl h45)
                  refine Steps.cons_ (step_mk (Is (.int .i64 k)) rfl fun a W hx hE hO => ?_) ?_
                  · have h46 : a.eval (.tmp 46) = (.bool false) := hE 28 (by kernel_rfl) 46 rfl
                    have h3 : a.eval (.tmp 3) = .int .i64 k := hO 3 (by kernel_rfl)
                    exact yes_is (j := 28) (d := 46) (b := false) rfl rfl h46 (do_move rfl h3)
                  refine Steps.cons_ (step_mk (Is (.bool false)) rfl fun a W hx hE hO => ?_) ?_
                  · have h46 : a.eval (.tmp 46) = (.bool false) := hE 28 (by kernel_rfl) 46 rfl
                    have h47 : a.eval (.tmp 47) = (.int .i64 k) := hE 29 (by kernel_rfl) 47 rfl
                    refine yes_is (j := 28) (d := 46) (b := false) rfl rfl h46 ?_
                    exact do_bin (v := .bool false) rfl h47 rfl (by simp [go_sem, K0.out]) rfl
                  refine Steps.cons_ (step_mk (Is (.bool false)) rfl fun a W hx hE hO => ?_) ?_
                  · have h46 : a.eval (.tmp 46) = (.bool false) := hE 28 (by kernel_rfl) 46 rfl
                    have h48 : a.eval (.tmp 48) = (.bool false) := hE 30 (by kernel_rfl) 48 rfl
                    exact yes_is (j := 28) (d := 46) (b := false) rfl rfl h46 (do_move rfl h48)
                  refine Steps.cons_ (step_mk (Is undef) rfl fun a W hx hE hO => ?_) ?_
                  · have h49 : a.eval (.tmp 49) = (.bool false) := hE 31 (by kernel_rfl) 49 rfl
                    have h0 : a.eval (.tmp 0) = .slice (some ad) l.length c := hO 0 (by kernel_rfl)
                    exact no_is (j := 31) (d := 49) (b := true) rfl rfl h49 rfl
                  refine Steps.cons_ (step_mk (Is undef) rfl fun a W hx hE hO => ?_) ?_
                  · have h49 : a.eval (.tmp 49) = (.bool false) := hE 31 (by kernel_rfl) 49 rfl
                    have h3 : a.eval (.tmp 3) = .int .i64 k := hO 3 (by kernel_rfl)
                    exact no_is (j := 31) (d := 49) (b := true) rfl rfl h49 rfl
                  refine Steps.cons_ (step_mk (Is undef) rfl fun a W hx hE hO => ?_) ?_
                  · have h49 : a.eval (.tmp 49) = (.bool false) := hE 31 (by kernel_rfl) 49 rfl
                    have h51 : a.eval (.tmp 51) = undef := hE 33 (by kernel_rfl) 51 rfl
                    exact no_is (j := 31) (d := 49) (b := true) rfl rfl h49 rfl
                  refine Steps.cons_ (step_mk (Is undef) rfl fun a W hx hE hO => ?_) ?_
                  · have h49 : a.eval (.tmp 49) = (.bool false) := hE 31 (by kernel_rfl) 49 rfl
                    have h50 : a.eval (.tmp 50) = undef := hE 32 (by kernel_rfl) 50 rfl
                    have h52 : a.eval (.tmp 52) = undef := hE 34 (by kernel_rfl) 52 rfl
                    exact no_is (j := 31) (d := 49) (b := true) rfl rfl h49 rfl
                  refine Steps.cons_ (step_mk (Is undef) rfl fun a W hx hE hO => ?_) ?_
                  · have h49 : a.eval (.tmp 49) = (.bool false) := hE 31 (by kernel_rfl) 49 rfl
                    have h53 : a.eval (.tmp 53) = undef := hE 35 (by kernel_rfl) 53 rfl
                    exact no_is (j := 31) (d := 49) (b := true) rfl rfl h49 rfl
                  refine Steps.cons_ (step_mk (Is undef) rfl fun a W hx hE hO => ?_) ?_
                  · have h49 : a.eval (.tmp 49) = (.bool false) := hE 31 (by kernel_rfl) 49 rfl
                    have h54 : a.eval (.tmp 54) = undef := hE 36 (by kernel_rfl) 54 rfl
                    exact no_is (j := 31) (d := 49) (b := true) rfl rfl h49 rfl
                  refine Steps.cons_ (step_mk (Is undef) rfl fun a W hx hE hO => ?_) ?_
                  · have h49 : a.eval (.tmp 49) = (.bool false) := hE 31 (by kernel_rfl) 49 rfl
                    have h4 : a.eval (.tmp 4) = .pointer (some ⟨wr.heap.size, 0, none⟩) := hO 4 (by kernel_rfl)
                    exact no_is (j := 31) (d := 49) (b := true) rfl rfl h49 rfl
                  refine Steps.cons_ (step_mk (Is undef) rfl fun a W hx hE hO => ?_) ?_
                  · have h49 : a.eval (.tmp 49) = (.bool false) := hE 31 (by kernel_rfl) 49 rfl
                    have h56 : a.eval (.tmp 56) = undef := hE 38 (by kernel_rfl) 56 rfl
                    exact no_is (j := 31) (d := 49) (b := true) rfl rfl h49 rfl
                  refine Steps.cons_ (step_mk (Is undef) rfl fun a W hx hE hO => ?_) ?_
                  · have h49 : a.eval (.tmp 49) = (.bool false) := hE 31 (by kernel_rfl) 49 rfl
                    have h55 : a.eval (.tmp 55) = undef := hE 37 (by kernel_rfl) 55 rfl
                    have h57 : a.eval (.tmp 57) = undef := hE 39 (by kernel_rfl) 57 rfl
                    exact no_is (j := 31) (d := 49) (b := true) rfl rfl h49 rfl
                  refine Steps.cons_ (step_mk (Is (.bool false)) rfl fun a W hx hE hO => ?_) ?_
                  · have h46 : a.eval (.tmp 46) = (.bool false) := hE 28 (by kernel_rfl) 46 rfl
                    have h49 : a.eval (.tmp 49) = (.bool false) := hE 31 (by kernel_rfl) 49 rfl
                    have h58 : a.eval (.tmp 58) = undef := hE 40 (by kernel_rfl) 58 rfl
                    exact yes_is (j := 28) (d := 46) (b := false) rfl rfl h46 (do_pick_no rfl h49 rfl)
                  refine Steps.cons_ (step_mk (Is (.bool false)) rfl fun a W hx hE hO => ?_) ?_
                  · have h46 : a.eval (.tmp 46) = (.bool false) := hE 28 (by kernel_rfl) 46 rfl
                    have h59 : a.eval (.tmp 59) = (.bool false) := hE 41 (by kernel_rfl) 59 rfl
                    exact yes_none rfl (do_pick_no rfl h46 h59)
                  exact Steps.nil_
                · intro a W hx hd hsz hE hO
                  have h60 : a.eval (.tmp 60) = (.bool false) := hE 42 (of_decide_eq_true (by kernel_rfl)) 60 rfl
                  have hmix := act_mix [false, false, false, false, false, false, false, false, false, false, false, false, false, false, false, false, false, false, true, true, true, true, true, true, true, true, true, true, true, true, true, true, true, true, true, true, true, true, true, true, true, true, true, true, true, true, true, true, true, true, true, true, true, true, true, true, true, true, true, true, true] (by kernel_rfl) hsz hd hO
                  simp only [mixA, Nat.reduceAdd, Nat.zero_add] at hmix
                  rw [hmix]
                  rw [h60]
                  generalize a.eval (.tmp 18) = u18
                  generalize a.eval (.tmp 19) = u19
                  generalize a.eval (.tmp 20) = u20
                  generalize a.eval (.tmp 21) = u21
                  generalize a.eval (.tmp 22) = u22
                  generalize a.eval (.tmp 23) = u23
                  generalize a.eval (.tmp 24) = u24
                  generalize a.eval (.tmp 25) = u25
                  generalize a.eval (.tmp 26) = u26
                  generalize a.eval (.tmp 27) = u27
                  generalize a.eval (.tmp 28) = u28
                  generalize a.eval (.tmp 29) = u29
                  generalize a.eval (.tmp 30) = u30
                  generalize a.eval (.tmp 31) = u31
                  generalize a.eval (.tmp 32) = u32
                  generalize a.eval (.tmp 33) = u33
                  generalize a.eval (.tmp 34) = u34
                  generalize a.eval (.tmp 35) = u35
                  generalize a.eval (.tmp 36) = u36
                  generalize a.eval (.tmp 37) = u37
                  generalize a.eval (.tmp 38) = u38
                  generalize a.eval (.tmp 39) = u39
                  generalize a.eval (.tmp 40) = u40
                  generalize a.eval (.tmp 41) = u41
                  generalize a.eval (.tmp 42) = u42
                  generalize a.eval (.tmp 43) = u43
                  generalize a.eval (.tmp 44) = u44
                  generalize a.eval (.tmp 45) = u45
                  generalize a.eval (.tmp 46) = u46
                  generalize a.eval (.tmp 47) = u47
                  generalize a.eval (.tmp 48) = u48
                  generalize a.eval (.tmp 49) = u49
                  generalize a.eval (.tmp 50) = u50
                  generalize a.eval (.tmp 51) = u51
                  generalize a.eval (.tmp 52) = u52
                  generalize a.eval (.tmp 53) = u53
                  generalize a.eval (.tmp 54) = u54
                  generalize a.eval (.tmp 55) = u55
                  generalize a.eval (.tmp 56) = u56
                  generalize a.eval (.tmp 57) = u57
                  generalize a.eval (.tmp 58) = u58
                  generalize a.eval (.tmp 59) = u59
                  clear hmix hd hsz hE hO
                  go_wp2
                  exact ⟨⟨k + 1, rfl, by omega, Hr.out, Ext.trans Hx2.out hx⟩, by simp only [intOf]; omega⟩
              have hkp : 0 < k := by omega
              obtain ⟨j, hkj⟩ : ∃ j, k = j + 1 := ⟨k - 1, by omega⟩
              have hjl : j < l.length := by omega
              have Hwr := Lib.hid (show IntKind.i64.wrap ((k : Int) - 1) = (j : Int) by rw [hkj]; exact (by rw [show ((j + 1 : Nat) : Int) - 1 = (j : Int) from by omega]; exact wrap64_nat (by omega)))
              obtain ⟨ad2, had2, _, hcj, _⟩ := (Hv.out.up Hx.out).ent_at hjl
              obtain rfl : ad = ad2 := by injection had2
              have hpj := Hpj.out j hkj hjl
              generalize l[j].1.b = T at hcj hpj
              have QJ := Lib.hid (Ext.keeps (Ext.of_alloc wr (.cells #[.string ⟨t.toArray⟩, .int .i64 x, .int .i64 y, .int .i64 z] 42)) hcj)
              clear had2 hkj h0 hcj c1
              cases hle : bytesLess T t with
              | false =>
                have LE := Lib.hid hle
                have Hr := Lib.hid (show upw [] l = false by rw [Hr0.out, hpj]; exact upw_no (.inr hle))
                clear hle hpj
                go_wp2_with fail
                refine wp_region_list2 [Is (.pointer (some ⟨wr.heap.size, 0, none⟩)), Is (.string ⟨t.toArray⟩), Is (.int .i64 t.length), Is (.bool false), Is (.bool false), Is (.pointer (some ⟨wr.heap.size, 0, none⟩)), Is (.string ⟨t.toArray⟩), Is (.int .i64 t.length), Is (.bool false), Is (.bool false), Is (.bool false), Is (.pointer (some ⟨wr.heap.size, 1, none⟩)), Is (.int .i64 x), Is (.bool true), Is (.bool false), Is (.bool false), Is (.bool false), Is (.pointer (some ⟨wr.heap.size, 2, none⟩)), Is (.int .i64 y), Is (.bool true), Is (.bool false), Is (.bool false), Is (.bool false), Is (.pointer (some ⟨wr.heap.size, 3, none⟩)), Is (.int .i64 z), Is (.bool true), Is (.bool false), Is (.bool false), Is (.bool false), Is (.int .i64 k), Is (.bool true), Is (.bool true), Is (.slice (some ad) l.length c), Is (.int .i64 k), Is (.int .i64 j), Is (.pointer (some (ad.add (j * 4)))), Is (.pointer (some (ad.add (j * 4)))), Is (.string ⟨T.toArray⟩), Is (.pointer (some ⟨wr.heap.size, 0, none⟩)), Is (.string ⟨t.toArray⟩), Is (.bool true), Is (.bool true), Is (.bool true)] (by kernel_rfl) (by kernel_rfl) (by kernel_rfl) ?_ (Steps.all ?_) ?_
                · intro p hp
                  simp only [List.mem_cons, List.not_mem_nil, or_false] at hp
                  rcases hp with rfl | rfl | rfl | rfl | rfl | rfl | rfl | rfl | rfl | rfl | rfl | rfl | rfl | rfl | rfl | rfl | rfl | rfl | rfl | rfl | rfl | rfl | rfl | rfl | rfl | rfl | rfl | rfl | rfl | rfl | rfl | rfl | rfl | rfl | rfl | rfl | rfl | rfl | rfl | rfl | rfl | rfl | rfl
                  all_goals first | exact mono_is _
                · refine Steps.cons_ (step_mk (Is (.pointer (some ⟨wr.heap.size, 0, none⟩))) rfl fun a W hx hE hO => ?_) ?_
                  · have h4 : a.eval (.tmp 4) = .pointer (some ⟨wr.heap.size, 0, none⟩) := hO 4 (by kernel_rfl)
                    refine yes_none rfl (do_run (by simp only [execOp, h4] <;> simp [go_sem, ]) rfl)
                  refine Steps.cons_ (step_mk (Is (.string ⟨t.toArray⟩)) rfl fun a W hx hE hO => ?_) ?_
                  · have h18 : a.eval (.tmp 18) = (.pointer (some ⟨wr.heap.size, 0, none⟩)) := hE 0 (by kernel_rfl) 18 rfl
                    refine yes_none rfl ?_
                    have q0 := Ext.keeps (Ext.trans (Ext.drew _) hx) Q0.out; exact do_run (by simp only [execOp, h18] <;> simp [go_sem, q0]) rfl
                  refine Steps.cons_ (step_mk (Is (.int .i64 t.length)) rfl fun a W hx hE hO => ?_) ?_
                  · have h19 : a.eval (.tmp 19) = (.string ⟨t.toArray⟩) := hE 1 (by kernel_rfl) 19 rfl
                    refine yes_none rfl ?_
                    exact do_slen rfl Try.underlying9 h19 rfl
                  refine Steps.cons_ (step_mk (Is (.bool false)) rfl fun a W hx hE hO => ?_) ?_
                  · have h20 : a.eval (.tmp 20) = (.int .i64 t.length) := hE 2 (by kernel_rfl) 20 rfl
                    refine yes_none rfl ?_
                    exact do_bin (v := .bool false) rfl h20 rfl (by simp [go_sem, D1.out]) rfl
                  refine Steps.cons_ (step_mk (Is (.bool false)) rfl fun a W hx hE hO => ?_) ?_
                  · have h21 : a.eval (.tmp 21) = (.bool false) := hE 3 (by kernel_rfl) 21 rfl
                    exact yes_none rfl (do_move rfl h21)
                  refine Steps.cons_ (step_mk (Is (.pointer (some ⟨wr.heap.size, 0, none⟩))) rfl fun a W hx hE hO => ?_) ?_
                  · have h22 : a.eval (.tmp 22) = (.bool false) := hE 4 (by kernel_rfl) 22 rfl
                    have h4 : a.eval (.tmp 4) = .pointer (some ⟨wr.heap.size, 0, none⟩) := hO 4 (by kernel_rfl)
                    refine yes_is (j := 4) (d := 22) (b := false) rfl rfl h22 (do_run (by simp only [execOp, h4] <;> simp [go_sem, ]) rfl)
                  refine Steps.cons_ (step_mk (Is (.string ⟨t.toArray⟩)) rfl fun a W hx hE hO => ?_) ?_
                  · have h22 : a.eval (.tmp 22) = (.bool false) := hE 4 (by kernel_rfl) 22 rfl
                    have h23 : a.eval (.tmp 23) = (.pointer (some ⟨wr.heap.size, 0, none⟩)) := hE 5 (by kernel_rfl) 23 rfl
                    refine yes_is (j := 4) (d := 22) (b := false) rfl rfl h22 ?_
                    have q0 := Ext.keeps (Ext.trans (Ext.drew _) hx) Q0.out; exact do_run (by simp only [execOp, h23] <;> simp [go_sem, q0]) rfl
                  refine Steps.cons_ (step_mk (Is (.int .i64 t.length)) rfl fun a W hx hE hO => ?_) ?_
                  · have h22 : a.eval (.tmp 22) = (.bool false) := hE 4 (by kernel_rfl) 22 rfl
                    have h24 : a.eval (.tmp 24) = (.string ⟨t.toArray⟩) := hE 6 (by kernel_rfl) 24 rfl
                    refine yes_is (j := 4) (d := 22) (b := false) rfl rfl h22 ?_
                    exact do_slen rfl Try.underlying9 h24 rfl
                  refine Steps.cons_ (step_mk (Is (.bool false)) rfl fun a W hx hE hO => ?_) ?_
                  · have h22 : a.eval (.tmp 22) = (.bool false) := hE 4 (by kernel_rfl) 22 rfl
                    have h25 : a.eval (.tmp 25) = (.int .i64 t.length) := hE 7 (by kernel_rfl) 25 rfl
                    refine yes_is (j := 4) (d := 22) (b := false) rfl rfl h22 ?_
                    exact do_bin (v := .bool false) rfl h25 rfl (by simp [go_sem, D2.out]) rfl
                  refine Steps.cons_ (step_mk (Is (.bool false)) rfl fun a W hx hE hO => ?_) ?_
                  · have h22 : a.eval (.tmp 22) = (.bool false) := hE 4 (by kernel_rfl) 22 rfl
                    have h26 : a.eval (.tmp 26) = (.bool false) := hE 8 (by kernel_rfl) 26 rfl
                    exact yes_none rfl (do_pick_no rfl h22 h26)
                  refine Steps.cons_ (step_mk (Is (.bool false)) rfl fun a W hx hE hO => ?_) ?_
                  · have h27 : a.eval (.tmp 27) = (.bool false) := hE 9 (by kernel_rfl) 27 rfl
                    exact yes_none rfl (do_move rfl h27)
                  refine Steps.cons_ (step_mk (Is (.pointer (some ⟨wr.heap.size, 1, none⟩))) rfl fun a W hx hE hO => ?_) ?_
                  · have h28 : a.eval (.tmp 28) = (.bool false) := hE 10 (by kernel_rfl) 28 rfl
                    have h4 : a.eval (.tmp 4) = .pointer (some ⟨wr.heap.size, 0, none⟩) := hO 4 (by kernel_rfl)
                    refine yes_is (j := 10) (d := 28) (b := false) rfl rfl h28 (do_run (by simp only [execOp, h4] <;> simp [go_sem, ]) rfl)
                  refine Steps.cons_ (step_mk (Is (.int .i64 x)) rfl fun a W hx hE hO => ?_) ?_
                  · have h28 : a.eval (.tmp 28) = (.bool false) := hE 10 (by kernel_rfl) 28 rfl
                    have h29 : a.eval (.tmp 29) = (.pointer (some ⟨wr.heap.size, 1, none⟩)) := hE 11 (by kernel_rfl) 29 rfl
                    refine yes_is (j := 10) (d := 28) (b := false) rfl rfl h28 ?_
                    have q0 := Ext.keeps (Ext.trans (Ext.drew _) hx) Q1.out; exact do_run (by simp only [execOp, h29] <;> simp [go_sem, q0]) rfl
                  refine Steps.cons_ (step_mk (Is (.bool true)) rfl fun a W hx hE hO => ?_) ?_
                  · have h28 : a.eval (.tmp 28) = (.bool false) := hE 10 (by kernel_rfl) 28 rfl
                    have h30 : a.eval (.tmp 30) = (.int .i64 x) := hE 12 (by kernel_rfl) 30 rfl
                    refine yes_is (j := 10) (d := 28) (b := false) rfl rfl h28 (do_call rfl Try.func42 (by kernel_rfl) (by kernel_rfl) (args := #[(.int .i64 x)]) (by simp only [List.map_toArray, List.map_cons, List.map_nil, h30]) ?_)
                    exact (place_any W x).mono fun e w' ⟨he, hx⟩ => ⟨_, he, hx, by rw [P1.out]; rfl⟩
                  refine Steps.cons_ (step_mk (Is (.bool false)) rfl fun a W hx hE hO => ?_) ?_
                  · have h28 : a.eval (.tmp 28) = (.bool false) := hE 10 (by kernel_rfl) 28 rfl
                    have h31 : a.eval (.tmp 31) = (.bool true) := hE 13 (by kernel_rfl) 31 rfl
                    refine yes_is (j := 10) (d := 28) (b := false) rfl rfl h28 (do_run (by simp only [execOp, h31] <;> simp [go_sem]) rfl)
                  refine Steps.cons_ (step_mk (Is (.bool false)) rfl fun a W hx hE hO => ?_) ?_
                  · have h28 : a.eval (.tmp 28) = (.bool false) := hE 10 (by kernel_rfl) 28 rfl
                    have h32 : a.eval (.tmp 32) = (.bool false) := hE 14 (by kernel_rfl) 32 rfl
                    exact yes_none rfl (do_pick_no rfl h28 h32)
                  refine Steps.cons_ (step_mk (Is (.bool false)) rfl fun a W hx hE hO => ?_) ?_
                  · have h33 : a.eval (.tmp 33) = (.bool false) := hE 15 (by kernel_rfl) 33 rfl
                    exact yes_none rfl (do_move rfl h33)
                  refine Steps.cons_ (step_mk (Is (.pointer (some ⟨wr.heap.size, 2, none⟩))) rfl fun a W hx hE hO => ?_) ?_
                  · have h34 : a.eval (.tmp 34) = (.bool false) := hE 16 (by kernel_rfl) 34 rfl
                    have h4 : a.eval (.tmp 4) = .pointer (some ⟨wr.heap.size, 0, none⟩) := hO 4 (by kernel_rfl)
                    refine yes_is (j := 16) (d := 34) (b := false) rfl rfl h34 (do_run (by simp only [execOp, h4] <;> simp [go_sem, ]) rfl)
                  refine Steps.cons_ (step_mk (Is (.int .i64 y)) rfl fun a W hx hE hO => ?_) ?_
                  · have h34 : a.eval (.tmp 34) = (.bool false) := hE 16 (by kernel_rfl) 34 rfl
                    have h35 : a.eval (.tmp 35) = (.pointer (some ⟨wr.heap.size, 2, none⟩)) := hE 17 (by kernel_rfl) 35 rfl
                    refine yes_is (j := 16) (d := 34) (b := false) rfl rfl h34 ?_
                    have q0 := Ext.keeps (Ext.trans (Ext.drew _) hx) Q2.out; exact do_run (by simp only [execOp, h35] <;> simp [go_sem, q0]) rfl
                  refine Steps.cons_ (step_mk (Is (.bool true)) rfl fun a W hx hE hO => ?_) ?_
                  · have h34 : a.eval (.tmp 34) = (.bool false) := hE 16 (by kernel_rfl) 34 rfl
                    have h36 : a.eval (.tmp 36) = (.int .i64 y) := hE 18 (by kernel_rfl) 36 rfl
                    refine yes_is (j := 16) (d := 34) (b := false) rfl rfl h34 (do_call rfl Try.func42 (by kernel_rfl) (by kernel_rfl) (args := #[(.int .i64 y)]) (by simp only [List.map_toArray, List.map_cons, List.map_nil, h36]) ?_)
                    exact (place_any W y).mono fun e w' ⟨he, hx⟩ => ⟨_, he, hx, by rw [P2.out]; rfl⟩
                  refine Steps.cons_ (step_mk (Is (.bool false)) rfl fun a W hx hE hO => ?_) ?_
                  · have h34 : a.eval (.tmp 34) = (.bool false) := hE 16 (by kernel_rfl) 34 rfl
                    have h37 : a.eval (.tmp 37) = (.bool true) := hE 19 (by kernel_rfl) 37 rfl
                    refine yes_is (j := 16) (d := 34) (b := false) rfl rfl h34 (do_run (by simp only [execOp, h37] <;> simp [go_sem]) rfl)
                  refine Steps.cons_ (step_mk (Is (.bool false)) rfl fun a W hx hE hO => ?_) ?_
                  · have h34 : a.eval (.tmp 34) = (.bool false) := hE 16 (by kernel_rfl) 34 rfl
                    have h38 : a.eval (.tmp 38) = (.bool false) := hE 20 (by kernel_rfl) 38 rfl
                    exact yes_none rfl (do_pick_no rfl h34 h38)
                  refine Steps.cons_ (step_mk (Is (.bool false)) rfl fun a W hx hE hO => ?_) ?_
                  · have h39 : a.eval (.tmp 39) = (.bool false) := hE 21 (by kernel_rfl) 39 rfl
                    exact yes_none rfl (do_move rfl h39)
                  refine Steps.cons_ (step_mk (Is (.pointer (some ⟨wr.heap.size, 3, none⟩))) rfl fun a W hx hE hO => ?_) ?_
                  · have h40 : a.eval (.tmp 40) = (.bool false) := hE 22 (by kernel_rfl) 40 rfl
                    have h4 : a.eval (.tmp 4) = .pointer (some ⟨wr.heap.size, 0, none⟩) := hO 4 (by kernel_rfl)
                    refine yes_is (j := 22) (d := 40) (b := false) rfl rfl h40 (do_run (by simp only [execOp, h4] <;> simp [go_sem, ]) rfl)
                  refine Steps.cons_ (step_mk (Is (.int .i64 z)) rfl fun a W hx hE hO => ?_) ?_
                  · have h40 : a.eval (.tmp 40) = (.bool false) := hE 22 (by kernel_rfl) 40 rfl
                    have h41 : a.eval (.tmp 41) = (.pointer (some ⟨wr.heap.size, 3, none⟩)) := hE 23 (by kernel_rfl) 41 rfl
                    refine yes_is (j := 22) (d := 40) (b := false) rfl rfl h40 ?_
                    have q0 := Ext.keeps (Ext.trans (Ext.drew _) hx) Q3.out; exact do_run (by simp only [execOp, h41] <;> simp [go_sem, q0]) rfl
                  refine Steps.cons_ (step_mk (Is (.bool true)) rfl fun a W hx hE hO => ?_) ?_
                  · have h40 : a.eval (.tmp 40) = (.bool false) := hE 22 (by kernel_rfl) 40 rfl
                    have h42 : a.eval (.tmp 42) = (.int .i64 z) := hE 24 (by kernel_rfl) 42 rfl
                    refine yes_is (j := 22) (d := 40) (b := false) rfl rfl h40 (do_call rfl Try.func42 (by kernel_rfl) (by kernel_rfl) (args := #[(.int .i64 z)]) (by simp only [List.map_toArray, List.map_cons, List.map_nil, h42]) ?_)
                    exact (place_any W z).mono fun e w' ⟨he, hx⟩ => ⟨_, he, hx, by rw [P3.out]; rfl⟩
                  refine Steps.cons_ (step_mk (Is (.bool false)) rfl fun a W hx hE hO => ?_) ?_
                  · have h40 : a.eval (.tmp 40) = (.bool false) := hE 22 (by kernel_rfl) 40 rfl
                    have h43 : a.eval (.tmp 43) = (.bool true) := hE 25 (by kernel_rfl) 43 rfl
                    refine yes_is (j := 22) (d := 40) (b := false) rfl rfl h40 (do_run (by simp only [execOp, h43] <;> simp [go_sem]) rfl)
                  refine Steps.cons_ (step_mk (Is (.bool false)) rfl fun a W hx hE hO => ?_) ?_
                  · have h40 : a.eval (.tmp 40) = (.bool false) := hE 22 (by kernel_rfl) 40 rfl
                    have h44 : a.eval (.tmp 44) = (.bool false) := hE 26 (by kernel_rfl) 44 rfl
                    exact yes_none rfl (do_pick_no rfl h40 h44)
                  refine Steps.cons_ (step_mk (Is (.bool false)) rfl fun a W hx hE hO => ?_) ?_
                  · have h45 : a.eval (.tmp 45) = (.bool false) := hE 27 (by kernel_rfl) 45 rfl
                    exact yes_none rfl (do_move rfl h45)
                  refine Steps.cons_ (step_mk (Is (.int .i64 k)) rfl fun a W hx hE hO => ?_) ?_
                  · have h46 : a.eval (.tmp 46) = (.bool false) := hE 28 (by kernel_rfl) 46 rfl
                    have h3 : a.eval (.tmp 3) = .int .i64 k := hO 3 (by kernel_rfl)
                    exact yes_is (j := 28) (d := 46) (b := false) rfl rfl h46 (do_move rfl h3)
                  refine Steps.cons_ (step_mk (Is (.bool true)) rfl fun a W hx hE hO => ?_) ?_
                  · have h46 : a.eval (.tmp 46) = (.bool false) := hE 28 (by kernel_rfl) 46 rfl
                    have h47 : a.eval (.tmp 47) = (.int .i64 k) := hE 29 (by kernel_rfl) 47 rfl
                    refine yes_is (j := 28) (d := 46) (b := false) rfl rfl h46 ?_
                    exact do_bin (v := .bool true) rfl h47 rfl (by simp [go_sem, hkp]) rfl
                  refine Steps.cons_ (step_mk (Is (.bool true)) rfl fun a W hx hE hO => ?_) ?_
                  · have h46 : a.eval (.tmp 46) = (.bool false) := hE 28 (by kernel_rfl) 46 rfl
                    have h48 : a.eval (.tmp 48) = (.bool true) := hE 30 (by kernel_rfl) 48 rfl
                    exact yes_is (j := 28) (d := 46) (b := false) rfl rfl h46 (do_move rfl h48)
                  refine Steps.cons_ (step_mk (Is (.slice (some ad) l.length c)) rfl fun a W hx hE hO => ?_) ?_
                  · have h49 : a.eval (.tmp 49) = (.bool true) := hE 31 (by kernel_rfl) 49 rfl
                    have h0 : a.eval (.tmp 0) = .slice (some ad) l.length c := hO 0 (by kernel_rfl)
                    exact yes_is (j := 31) (d := 49) (b := true) rfl rfl h49 (do_move rfl h0)
                  refine Steps.cons_ (step_mk (Is (.int .i64 k)) rfl fun a W hx hE hO => ?_) ?_
                  · have h49 : a.eval (.tmp 49) = (.bool true) := hE 31 (by kernel_rfl) 49 rfl
                    have h3 : a.eval (.tmp 3) = .int .i64 k := hO 3 (by kernel_rfl)
                    exact yes_is (j := 31) (d := 49) (b := true) rfl rfl h49 (do_move rfl h3)
                  refine Steps.cons_ (step_mk (Is (.int .i64 j)) rfl fun a W hx hE hO => ?_) ?_
                  · have h49 : a.eval (.tmp 49) = (.bool true) := hE 31 (by kernel_rfl) 49 rfl
                    have h51 : a.eval (.tmp 51) = (.int .i64 k) := hE 33 (by kernel_rfl) 51 rfl
                    refine yes_is (j := 31) (d := 49) (b := true) rfl rfl h49 ?_
                    exact do_bin (v := .int .i64 j) rfl h51 rfl (by simp [go_sem, Hwr.out]) rfl
                  refine Steps.cons_ (step_mk (Is (.pointer (some (ad.add (j * 4))))) rfl fun a W hx hE hO => ?_) ?_
                  · have h49 : a.eval (.tmp 49) = (.bool true) := hE 31 (by kernel_rfl) 49 rfl
                    have h50 : a.eval (.tmp 50) = (.slice (some ad) l.length c) := hE 32 (by kernel_rfl) 50 rfl
                    have h52 : a.eval (.tmp 52) = (.int .i64 j) := hE 34 (by kernel_rfl) 52 rfl
                    refine yes_is (j := 31) (d := 49) (b := true) rfl rfl h49 (do_run (by simp only [execOp, h50, h52] <;> simp [go_sem, hjl]) rfl)
                  refine Steps.cons_ (step_mk (Is (.pointer (some (ad.add (j * 4))))) rfl fun a W hx hE hO => ?_) ?_
                  · have h49 : a.eval (.tmp 49) = (.bool true) := hE 31 (by kernel_rfl) 49 rfl
                    have h53 : a.eval (.tmp 53) = (.pointer (some (ad.add (j * 4)))) := hE 35 (by kernel_rfl) 53 rfl
                    refine yes_is (j := 31) (d := 49) (b := true) rfl rfl h49 (do_run (by simp only [execOp, h53] <;> simp [go_sem]) rfl)
                  refine Steps.cons_ (step_mk (Is (.string ⟨T.toArray⟩)) rfl fun a W hx hE hO => ?_) ?_
                  · have h49 : a.eval (.tmp 49) = (.bool true) := hE 31 (by kernel_rfl) 49 rfl
                    have h54 : a.eval (.tmp 54) = (.pointer (some (ad.add (j * 4)))) := hE 36 (by kernel_rfl) 54 rfl
                    refine yes_is (j := 31) (d := 49) (b := true) rfl rfl h49 ?_
                    have q0 := Ext.keeps (Ext.trans (Ext.drew _) hx) QJ.out; exact do_run (by simp only [execOp, h54] <;> simp [go_sem, q0]) rfl
                  refine Steps.cons_ (step_mk (Is (.pointer (some ⟨wr.heap.size, 0, none⟩))) rfl fun a W hx hE hO => ?_) ?_
                  · have h49 : a.eval (.tmp 49) = (.bool true) := hE 31 (by kernel_rfl) 49 rfl
                    have h4 : a.eval (.tmp 4) = .pointer (some ⟨wr.heap.size, 0, none⟩) := hO 4 (by kernel_rfl)
                    refine yes_is (j := 31) (d := 49) (b := true) rfl rfl h49 (do_run (by simp only [execOp, h4] <;> simp [go_sem, ]) rfl)
                  refine Steps.cons_ (step_mk (Is (.string ⟨t.toArray⟩)) rfl fun a W hx hE hO => ?_) ?_
                  · have h49 : a.eval (.tmp 49) = (.bool true) := hE 31 (by kernel_rfl) 49 rfl
                    have h56 : a.eval (.tmp 56) = (.pointer (some ⟨wr.heap.size, 0, none⟩)) := hE 38 (by kernel_rfl) 56 rfl
                    refine yes_is (j := 31) (d := 49) (b := true) rfl rfl h49 ?_
                    have q0 := Ext.keeps (Ext.trans (Ext.drew _) hx) Q0.out; exact do_run (by simp only [execOp, h56] <;> simp [go_sem, q0]) rfl
                  refine Steps.cons_ (step_mk (Is (.bool true)) rfl fun a W hx hE hO => ?_) ?_
                  · have h49 : a.eval (.tmp 49) = (.bool true) := hE 31 (by kernel_rfl) 49 rfl
                    have h55 : a.eval (.tmp 55) = (.string ⟨T.toArray⟩) := hE 37 (by kernel_rfl) 55 rfl
                    have h57 : a.eval (.tmp 57) = (.string ⟨t.toArray⟩) := hE 39 (by kernel_rfl) 57 rfl
                    refine yes_is (j := 31) (d := 49) (b := true) rfl rfl h49 ?_
                    exact do_bin (v := .bool true) rfl h55 h57 (by simp [go_sem, LE.out]) rfl
                  refine Steps.cons_ (step_mk (Is (.bool true)) rfl fun a W hx hE hO => ?_) ?_
                  · have h46 : a.eval (.tmp 46) = (.bool false) := hE 28 (by kernel_rfl) 46 rfl
                    have h49 : a.eval (.tmp 49) = (.bool true) := hE 31 (by kernel_rfl) 49 rfl
                    have h58 : a.eval (.tmp 58) = (.bool true) := hE 40 (by kernel_rfl) 58 rfl
                    exact yes_is (j := 28) (d := 46) (b := false) rfl rfl h46 (do_pick rfl h49 h58)
                  refine Steps.cons_ (step_mk (Is (.bool true)) rfl fun a W hx hE hO => ?_) ?_
                  · have h46 : a.eval (.tmp 46) = (.bool false) := hE 28 (by kernel_rfl) 46 rfl
                    have h59 : a.eval (.tmp 59) = (.bool true) := hE 41 (by kernel_rfl) 59 rfl
                    exact yes_none rfl (do_pick_no rfl h46 h59)
                  exact Steps.nil_
                · intro a W hx hd hsz hE hO
                  have h60 : a.eval (.tmp 60) = (.bool true) := hE 42 (of_decide_eq_true (by kernel_rfl)) 60 rfl
                  have hmix := act_mix [false, false, false, false, false, false, false, false, false, false, false, false, false, false, false, false, false, false, true, true, true, true, true, true, true, true, true, true, true, true, true, true, true, true, true, true, true, true, true, true, true, true, true, true, true, true, true, true, true, true, true, true, true, true, true, true, true, true, true, true, true] (by kernel_rfl) hsz hd hO
                  simp only [mixA, Nat.reduceAdd, Nat.zero_add] at hmix
                  rw [hmix]
                  rw [h60]
                  generalize a.eval (.tmp 18) = u18
                  generalize a.eval (.tmp 19) = u19
                  generalize a.eval (.tmp 20) = u20
                  generalize a.eval (.tmp 21) = u21
                  generalize a.eval (.tmp 22) = u22
                  generalize a.eval (.tmp 23) = u23
                  generalize a.eval (.tmp 24) = u24
                  generalize a.eval (.tmp 25) = u25
                  generalize a.eval (.tmp 26) = u26
                  generalize a.eval (.tmp 27) = u27
                  generalize a.eval (.tmp 28) = u28
                  generalize a.eval (.tmp 29) = u29
                  generalize a.eval (.tmp 30) = u30
                  generalize a.eval (.tmp 31) = u31
                  generalize a.eval (.tmp 32) = u32
                  generalize a.eval (.tmp 33) = u33
                  generalize a.eval (.tmp 34) = u34
                  generalize a.eval (.tmp 35) = u35
                  generalize a.eval (.tmp 36) = u36
                  generalize a.eval (.tmp 37) = u37
                  generalize a.eval (.tmp 38) = u38
                  generalize a.eval (.tmp 39) = u39
                  generalize a.eval (.tmp 40) = u40
                  generalize a.eval (.tmp 41) = u41
                  generalize a.eval (.tmp 42) = u42
                  generalize a.eval (.tmp 43) = u43
                  generalize a.eval (.tmp 44) = u44
                  generalize a.eval (.tmp 45) = u45
                  generalize a.eval (.tmp 46) = u46
                  generalize a.eval (.tmp 47) = u47
                  generalize a.eval (.tmp 48) = u48
                  generalize a.eval (.tmp 49) = u49
                  generalize a.eval (.tmp 50) = u50
                  generalize a.eval (.tmp 51) = u51
                  generalize a.eval (.tmp 52) = u52
                  generalize a.eval (.tmp 53) = u53
                  generalize a.eval (.tmp 54) = u54
                  generalize a.eval (.tmp 55) = u55
                  generalize a.eval (.tmp 56) = u56
                  generalize a.eval (.tmp 57) = u57
                  generalize a.eval (.tmp 58) = u58
                  generalize a.eval (.tmp 59) = u59
                  clear hmix hd hsz hE hO
                  go_wp2
                  go_ret
                  exact ⟨by rw [Hr.out]; rfl, Ext.trans Hx2.out hx⟩
              | true =>
                have LE := Lib.hid hle
                have Hr := Lib.hid (show upw [] l = upw (tlast [] (l.take (k + 1))) (l.drop (k + 1)) by rw [Hr0.out, Hnx.out, hpj]; exact upw_yes heok.out hle)
                clear hle hpj
                go_wp2_with fail
                refine wp_region_list2 [Is (.pointer (some ⟨wr.heap.size, 0, none⟩)), Is (.string ⟨t.toArray⟩), Is (.int .i64 t.length), Is (.bool false), Is (.bool false), Is (.pointer (some ⟨wr.heap.size, 0, none⟩)), Is (.string ⟨t.toArray⟩), Is (.int .i64 t.length), Is (.bool false), Is (.bool false), Is (.bool false), Is (.pointer (some ⟨wr.heap.size, 1, none⟩)), Is (.int .i64 x), Is (.bool true), Is (.bool false), Is (.bool false), Is (.bool false), Is (.pointer (some ⟨wr.heap.size, 2, none⟩)), Is (.int .i64 y), Is (.bool true), Is (.bool false), Is (.bool false), Is (.bool false), Is (.pointer (some ⟨wr.heap.size, 3, none⟩)), Is (.int .i64 z), Is (.bool true), Is (.bool false), Is (.bool false), Is (.bool false), Is (.int .i64 k), Is (.bool true), Is (.bool true), Is (.slice (some ad) l.length c), Is (.int .i64 k), Is (.int .i64 j), Is (.pointer (some (ad.add (j * 4)))), Is (.pointer (some (ad.add (j * 4)))), Is (.string ⟨T.toArray⟩), Is (.pointer (some ⟨wr.heap.size, 0, none⟩)), Is (.string ⟨t.toArray⟩), Is (.bool false), Is (.bool false), Is (.bool false)] (by kernel_rfl) (by kernel_rfl) (by kernel_rfl) ?_ (Steps.all ?_) ?_
                · intro p hp
                  simp only [List.mem_cons, List.not_mem_nil, or_false] at hp
                  rcases hp with rfl | rfl | rfl | rfl | rfl | rfl | rfl | rfl | rfl | rfl | rfl | rfl | rfl | rfl | rfl | rfl | rfl | rfl | rfl | rfl | rfl | rfl | rfl | rfl | rfl | rfl | rfl | rfl | rfl | rfl | rfl | rfl | rfl | rfl | rfl | rfl | rfl | rfl | rfl | rfl | rfl | rfl | rfl
                  all_goals first | exact mono_is _
                · refine Steps.cons_ (step_mk (Is (.pointer (some ⟨wr.heap.size, 0, none⟩))) rfl fun a W hx hE hO => ?_) ?_
                  · have h4 : a.eval (.tmp 4) = .pointer (some ⟨wr.heap.size, 0, none⟩) := hO 4 (by kernel_rfl)
                    refine yes_none rfl (do_run (by simp only [execOp, h4] <;> simp [go_sem, ]) rfl)
                  refine Steps.cons_ (step_mk (Is (.string ⟨t.toArray⟩)) rfl fun a W hx hE hO => ?_) ?_
                  · have h18 : a.eval (.tmp 18) = (.pointer (some ⟨wr.heap.size, 0, none⟩)) := hE 0 (by kernel_rfl) 18 rfl
                    refine yes_none rfl ?_
                    have q0 := Ext.keeps (Ext.trans (Ext.drew _) hx) Q0.out; exact do_run (by simp only [execOp, h18] <;> simp [go_sem, q0]) rfl
                  refine Steps.cons_ (step_mk (Is (.int .i64 t.length)) rfl fun a W hx hE hO => ?_) ?_
                  · have h19 : a.eval (.tmp 19) = (.string ⟨t.toArray⟩) := hE 1 (by kernel_rfl) 19 rfl
                    refine yes_none rfl ?_
                    exact do_slen rfl Try.underlying9 h19 rfl
                  refine Steps.cons_ (step_mk (Is (.bool false)) rfl fun a W hx hE hO => ?_) ?_
                  · have h20 : a.eval (.tmp 20) = (.int .i64 t.length) := hE 2 (by kernel_rfl) 20 rfl
                    refine yes_none rfl ?_
                    exact do_bin (v := .bool false) rfl h20 rfl (by simp [go_sem, D1.out]) rfl
                  refine Steps.cons_ (step_mk (Is (.bool false)) rfl fun a W hx hE hO => ?_) ?_
                  · have h21 : a.eval (.tmp 21) = (.bool false) := hE 3 (by kernel_rfl) 21 rfl
                    exact yes_none rfl (do_move rfl h21)
                  refine Steps.cons_ (step_mk (Is (.pointer (some ⟨wr.heap.size, 0, none⟩))) rfl fun a W hx hE hO => ?_) ?_
                  · have h22 : a.eval (.tmp 22) = (.bool false) := hE 4 (by kernel_rfl) 22 rfl
                    have h4 : a.eval (.tmp 4) = .pointer (some ⟨wr.heap.size, 0, none⟩) := hO 4 (by kernel_rfl)
                    refine yes_is (j := 4) (d := 22) (b := false) rfl rfl h22 (do_run (by simp only [execOp, h4] <;> simp [go_sem, ]) rfl)
                  refine Steps.cons_ (step_mk (Is (.string ⟨t.toArray⟩)) rfl fun a W hx hE hO => ?_) ?_
                  · have h22 : a.eval (.tmp 22) = (.bool false) := hE 4 (by kernel_rfl) 22 rfl
                    have h23 : a.eval (.tmp 23) = (.pointer (some ⟨wr.heap.size, 0, none⟩)) := hE 5 (by kernel_rfl) 23 rfl
                    refine yes_is (j := 4) (d := 22) (b := false) rfl rfl h22 ?_
                    have q0 := Ext.keeps (Ext.trans (Ext.drew _) hx) Q0.out; exact do_run (by simp only [execOp, h23] <;> simp [go_sem, q0]) rfl
                  refine Steps.cons_ (step_mk (Is (.int .i64 t.length)) rfl fun a W hx hE hO => ?_) ?_
                  · have h22 : a.eval (.tmp 22) = (.bool false) := hE 4 (by kernel_rfl) 22 rfl
                    have h24 : a.eval (.tmp 24) = (.string ⟨t.toArray⟩) := hE 6 (by kernel_rfl) 24 rfl
                    refine yes_is (j := 4) (d := 22) (b := false) rfl rfl h22 ?_
                    exact do_slen rfl Try.underlying9 h24 rfl
                  refine Steps.cons_ (step_mk (Is (.bool false)) rfl fun a W hx hE hO => ?_) ?_
                  · have h22 : a.eval (.tmp 22) = (.bool false) := hE 4 (by kernel_rfl) 22 rfl
                    have h25 : a.eval (.tmp 25) = (.int .i64 t.length) := hE 7 (by kernel_rfl) 25 rfl
                    refine yes_is (j := 4) (d := 22) (b := false) rfl rfl h22 ?_
                    exact do_bin (v := .bool false) rfl h25 rfl (by simp [go_sem, D2.out]) rfl
                  refine Steps.cons_ (step_mk (Is (.bool false)) rfl fun a W hx hE hO => ?_) ?_
                  · have h22 : a.eval (.tmp 22) = (.bool false) := hE 4 (by kernel_rfl) 22 rfl
                    have h26 : a.eval (.tmp 26) = (.bool false) := hE 8 (by kernel_rfl) 26 rfl
                    exact yes_none rfl (do_pick_no rfl h22 h26)
                  refine Steps.cons_ (step_mk (Is (.bool false)) rfl fun a W hx hE hO => ?_) ?_
                  · have h27 : a.eval (.tmp 27) = (.bool false) := hE 9 (by kernel_rfl) 27 rfl
                    exact yes_none rfl (do_move rfl h27)
                  refine Steps.cons_ (step_mk (Is (.pointer (some ⟨wr.heap.size, 1, none⟩))) rfl fun a W hx hE hO => ?_) ?_
                  · have h28 : a.eval (.tmp 28) = (.bool false) := hE 10 (by kernel_rfl) 28 rfl
                    have h4 : a.eval (.tmp 4) = .pointer (some ⟨wr.heap.size, 0, none⟩) := hO 4 (by kernel_rfl)
                    refine yes_is (j := 10) (d := 28) (b := false) rfl rfl h28 (do_run (by simp only [execOp, h4] <;> simp [go_sem, ]) rfl)
                  refine Steps.cons_ (step_mk (Is (.int .i64 x)) rfl fun a W hx hE hO => ?_) ?_
                  · have h28 : a.eval (.tmp 28) = (.bool false) := hE 10 (by kernel_rfl) 28 rfl
                    have h29 : a.eval (.tmp 29) = (.pointer (some ⟨wr.heap.size, 1, none⟩)) := hE 11 (by kernel_rfl) 29 rfl
                    refine yes_is (j := 10) (d := 28) (b := false) rfl rfl h28 ?_
                    have q0 := Ext.keeps (Ext.trans (Ext.drew _) hx) Q1.out; exact do_run (by simp only [execOp, h29] <;> simp [go_sem, q0]) rfl
                  refine Steps.cons_ (step_mk (Is (.bool true)) rfl fun a W hx hE hO => ?_) ?_
                  · have h28 : a.eval (.tmp 28) = (.bool false) := hE 10 (by kernel_rfl) 28 rfl
                    have h30 : a.eval (.tmp 30) = (.int .i64 x) := hE 12 (by kernel_rfl) 30 rfl
                    refine yes_is (j := 10) (d := 28) (b := false) rfl rfl h28 (do_call rfl Try.func42 (by kernel_rfl) (by kernel_rfl) (args := #[(.int .i64 x)]) (by simp only [List.map_toArray, List.map_cons, List.map_nil, h30]) ?_)
                    exact (place_any W x).mono fun e w' ⟨he, hx⟩ => ⟨_, he, hx, by rw [P1.out]; rfl⟩
                  refine Steps.cons_ (step_mk (Is (.bool false)) rfl fun a W hx hE hO => ?_) ?_
                  · have h28 : a.eval (.tmp 28) = (.bool false) := hE 10 (by kernel_rfl) 28 rfl
                    have h31 : a.eval (.tmp 31) = (.bool true) := hE 13 (by kernel_rfl) 31 rfl
                    refine yes_is (j := 10) (d := 28) (b := false) rfl rfl h28 (do_run (by simp only [execOp, h31] <;> simp [go_sem]) rfl)
                  refine Steps.cons_ (step_mk (Is (.bool false)) rfl fun a W hx hE hO => ?_) ?_
                  · have h28 : a.eval (.tmp 28) = (.bool false) := hE 10 (by kernel_rfl) 28 rfl
                    have h32 : a.eval (.tmp 32) = (.bool false) := hE 14 (by kernel_rfl) 32 rfl
                    exact yes_none rfl (do_pick_no rfl h28 h32)
                  refine Steps.cons_ (step_mk (Is (.bool false)) rfl fun a W hx hE hO => ?_) ?_
                  · have h33 : a.eval (.tmp 33) = (.bool false) := hE 15 (by kernel_rfl) 33 rfl
                    exact yes_none rfl (do_move rfl h33)
                  refine Steps.cons_ (step_mk (Is (.pointer (some ⟨wr.heap.size, 2, none⟩))) rfl fun a W hx hE hO => ?_) ?_
                  · have h34 : a.eval (.tmp 34) = (.bool false) := hE 16 (by kernel_rfl) 34 rfl
                    have h4 : a.eval (.tmp 4) = .pointer (some ⟨wr.heap.size, 0, none⟩) := hO 4 (by kernel_rfl)
                    refine yes_is (j := 16) (d := 34) (b := false) rfl rfl h34 (do_run (by simp only [execOp, h4] <;> simp [go_sem, ]) rfl)
                  refine Steps.cons_ (step_mk (Is (.int .i64 y)) rfl fun a W hx hE hO => ?_) ?_
                  · have h34 : a.eval (.tmp 34) = (.bool false) := hE 16 (by kernel_rfl) 34 rfl
                    have h35 : a.eval (.tmp 35) = (.pointer (some ⟨wr.heap.size, 2, none⟩)) := hE 17 (by kernel_rfl) 35 rfl
                    refine yes_is (j := 16) (d := 34) (b := false) rfl rfl h34 ?_
                    have q0 := Ext.keeps (Ext.trans (Ext.drew _) hx) Q2.out; exact do_run (by simp only [execOp, h35] <;> simp [go_sem, q0]) rfl
                  refine Steps.cons_ (step_mk (Is (.bool true)) rfl fun a W hx hE hO => ?_) ?_
                  · have h34 : a.eval (.tmp 34) = (.bool false) := hE 16 (by kernel_rfl) 34 rfl
                    have h36 : a.eval (.tmp 36) = (.int .i64 y) := hE 18 (by kernel_rfl) 36 rfl
                    refine yes_is (j := 16) (d := 34) (b := false) rfl rfl h34 (do_call rfl Try.func42 (by kernel_rfl) (by kernel_rfl) (args := #[(.int .i64 y)]) (by simp only [List.map_toArray, List.map_cons, List.map_nil, h36]) ?_)
                    exact (place_any W y).mono fun e w' ⟨he, hx⟩ => ⟨_, he, hx, by rw [P2.out]; rfl⟩
                  refine Steps.cons_ (step_mk (Is (.bool false)) rfl fun a W hx hE hO => ?_) ?_
                  · have h34 : a.eval (.tmp 34) = (.bool false) := hE 16 (by kernel_rfl) 34 rfl
                    have h37 : a.eval (.tmp 37) = (.bool true) := hE 19 (by kernel_rfl) 37 rfl
                    refine yes_is (j := 16) (d := 34) (b := false) rfl rfl h34 (do_run (by simp only [execOp, h37] <;> simp [go_sem]) rfl)
                  refine Steps.cons_ (step_mk (Is (.bool false)) rfl fun a W hx hE hO => ?_) ?_
                  · have h34 : a.eval (.tmp 34) = (.bool false) := hE 16 (by kernel_rfl) 34 rfl
                    have h38 : a.eval (.tmp 38) = (.bool false) := hE 20 (by kernel_rfl) 38 rfl
                    exact yes_none rfl (do_pick_no rfl h34 h38)
                  refine Steps.cons_ (step_mk (Is (.bool false)) rfl fun a W hx hE hO => ?_) ?_
                  · have h39 : a.eval (.tmp 39) = (.bool false) := hE 21 (by kernel_rfl) 39 rfl
                    exact yes_none rfl (do_move rfl h39)
                  refine Steps.cons_ (step_mk (Is (.pointer (some ⟨wr.heap.size, 3, none⟩))) rfl fun a W hx hE hO => ?_) ?_
                  · have h40 : a.eval (.tmp 40) = (.bool false) := hE 22 (by kernel_rfl) 40 rfl
                    have h4 : a.eval (.tmp 4) = .pointer (some ⟨wr.heap.size, 0, none⟩) := hO 4 (by kernel_rfl)
                    refine yes_is (j := 22) (d := 40) (b := false) rfl rfl h40 (do_run (by simp only [execOp, h4] <;> simp [go_sem, ]) rfl)
                  refine Steps.cons_ (step_mk (Is (.int .i64 z)) rfl fun a W hx hE hO => ?_) ?_
                  · have h40 : a.eval (.tmp 40) = (.bool false) := hE 22 (by kernel_rfl) 40 rfl
                    have h41 : a.eval (.tmp 41) = (.pointer (some ⟨wr.heap.size, 3, none⟩)) := hE 23 (by kernel_rfl) 41 rfl
                    refine yes_is (j := 22) (d := 40) (b := false) rfl rfl h40 ?_
                    have q0 := Ext.keeps (Ext.trans (Ext.drew _) hx) Q3.out; exact do_run (by simp only [execOp, h41] <;> simp [go_sem, q0]) rfl
                  refine Steps.cons_ (step_mk (Is (.bool true)) rfl fun a W hx hE hO => ?_) ?_
                  · have h40 : a.eval (.tmp 40) = (.bool false) := hE 22 (by kernel_rfl) 40 rfl
                    have h42 : a.eval (.tmp 42) = (.int .i64 z) := hE 24 (by kernel_rfl) 42 rfl
                    refine yes_is (j := 22) (d := 40) (b := false) rfl rfl h40 (do_call rfl Try.func42 (by kernel_rfl) (by kernel_rfl) (args := #[(.int .i64 z)]) (by simp only [List.map_toArray, List.map_cons, List.map_nil, h42]) ?_)
                    exact (place_any W z).mono fun e w' ⟨he, hx⟩ => ⟨_, he, hx, by rw [P3.out]; rfl⟩
                  refine Steps.cons_ (step_mk (Is (.bool false)) rfl fun a W hx hE hO => ?_) ?_
                  · have h40 : a.eval (.tmp 40) = (.bool false) := hE 22 (by kernel_rfl) 40 rfl
                    have h43 : a.eval (.tmp 43) = (.bool true) := hE 25 (by kernel_rfl) 43 rfl
                    refine yes_is (j := 22) (d := 40) (b := false) rfl rfl h40 (do_run (by simp only [execOp, h43] <;> simp [go_sem]) rfl)
                  refine Steps.cons_ (step_mk (Is (.bool false)) rfl fun a W hx hE hO => ?_) ?_
                  · have h40 : a.eval (.tmp 40) = (.bool false) := hE 22 (by kernel_rfl) 40 rfl
                    have h44 : a.eval (.tmp 44) = (.bool false) := hE 26 (by kernel_rfl) 44 rfl
                    exact yes_none rfl (do_pick_no rfl h40 h44)
                  refine Steps.cons_ (step_mk (Is (.bool false)) rfl fun a W hx hE hO => ?_) ?_
                  · have h45 : a.eval (.tmp 45) = (.bool false) := hE 27 (by kernel_rfl) 45 rfl
                    exact yes_none rfl (do_move rfl h45)
                  refine Steps.cons_ (step_mk (Is (.int .i64 k)) rfl fun a W hx hE hO => ?_) ?_
                  · have h46 : a.eval (.tmp 46) = (.bool false) := hE 28 (by kernel_rfl) 46 rfl
                    have h3 : a.eval (.tmp 3) = .int .i64 k := hO 3 (by kernel_rfl)
                    exact yes_is (j := 28) (d := 46) (b := false) rfl rfl h46 (do_move rfl h3)
                  refine Steps.cons_ (step_mk (Is (.bool true)) rfl fun a W hx hE hO => ?_) ?_
                  · have h46 : a.eval (.tmp 46) = (.bool false) := hE 28 (by kernel_rfl) 46 rfl
                    have h47 : a.eval (.tmp 47) = (.int .i64 k) := hE 29 (by kernel_rfl) 47 rfl
                    refine yes_is (j := 28) (d := 46) (b := false) rfl rfl h46 ?_
                    exact do_bin (v := .bool true) rfl h47 rfl (by simp [go_sem, hkp]) rfl
                  refine Steps.cons_ (step_mk (Is (.bool true)) rfl fun a W hx hE hO => ?_) ?_
                  · have h46 : a.eval (.tmp 46) = (.bool false) := hE 28 (by kernel_rfl) 46 rfl
                    have h48 : a.eval (.tmp 48) = (.bool true) := hE 30 (by kernel_rfl) 48 rfl
                    exact yes_is (j := 28) (d := 46) (b := false) rfl rfl h46 (do_move rfl h48)
                  refine Steps.cons_ (step_mk (Is (.slice (some ad) l.length c)) rfl fun a W hx hE hO => ?_) ?_
                  · have h49 : a.eval (.tmp 49) = (.bool true) := hE 31 (by kernel_rfl) 49 rfl
                    have h0 : a.eval (.tmp 0) = .slice (some ad) l.length c := hO 0 (by kernel_rfl)
                    exact yes_is (j := 31) (d := 49) (b := true) rfl rfl h49 (do_move rfl h0)
                  refine Steps.cons_ (step_mk (Is (.int .i64 k)) rfl fun a W hx hE hO => ?_) ?_
                  · have h49 : a.eval (.tmp 49) = (.bool true) := hE 31 (by kernel_rfl) 49 rfl
                    have h3 : a.eval (.tmp 3) = .int .i64 k := hO 3 (by kernel_rfl)
                    exact yes_is (j := 31) (d := 49) (b := true) rfl rfl h49 (do_move rfl h3)
                  refine Steps.cons_ (step_mk (Is (.int .i64 j)) rfl fun a W hx hE hO => ?_) ?_
                  · have h49 : a.eval (.tmp 49) = (.bool true) := hE 31 (by kernel_rfl) 49 rfl
                    have h51 : a.eval (.tmp 51) = (.int .i64 k) := hE 33 (by kernel_rfl) 51 rfl
                    refine yes_is (j := 31) (d := 49) (b := true) rfl rfl h49 ?_
                    exact do_bin (v := .int .i64 j) rfl h51 rfl (by simp [go_sem, Hwr.out]) rfl
                  refine Steps.cons_ (step_mk (Is (.pointer (some (ad.add (j * 4))))) rfl fun a W hx hE hO => ?_) ?_
                  · have h49 : a.eval (.tmp 49) = (.bool true) := hE 31 (by kernel_rfl) 49 rfl
                    have h50 : a.eval (.tmp 50) = (.slice (some ad) l.length c) := hE 32 (by kernel_rfl) 50 rfl
                    have h52 : a.eval (.tmp 52) = (.int .i64 j) := hE 34 (by kernel_rfl) 52 rfl
                    refine yes_is (j := 31) (d := 49) (b := true) rfl rfl h49 (do_run (by simp only [execOp, h50, h52] <;> simp [go_sem, hjl]) rfl)
                  refine Steps.cons_ (step_mk (Is (.pointer (some (ad.add (j * 4))))) rfl fun a W hx hE hO => ?_) ?_
                  · have h49 : a.eval (.tmp 49) = (.bool true) := hE 31 (by kernel_rfl) 49 rfl
                    have h53 : a.eval (.tmp 53) = (.pointer (some (ad.add (j * 4)))) := hE 35 (by kernel_rfl) 53 rfl
                    refine yes_is (j := 31) (d := 49) (b := true) rfl rfl h49 (do_run (by simp only [execOp, h53] <;> simp [go_sem]) rfl)
                  refine Steps.cons_ (step_mk (Is (.string ⟨T.toArray⟩)) rfl fun a W hx hE hO => ?_) ?_
                  · have h49 : a.eval (.tmp 49) = (.bool true) := hE 31 (by kernel_rfl) 49 rfl
                    have h54 : a.eval (.tmp 54) = (.pointer (some (ad.add (j * 4)))) := hE 36 (by kernel_rfl) 54 rfl
                    refine yes_is (j := 31) (d := 49) (b := true) rfl rfl h49 ?_
                    have q0 := Ext.keeps (Ext.trans (Ext.drew _) hx) QJ.out; exact do_run (by simp only [execOp, h54] <;> simp [go_sem, q0]) rfl
                  refine Steps.cons_ (step_mk (Is (.pointer (some ⟨wr.heap.size, 0, none⟩))) rfl fun a W hx hE hO => ?_) ?_
                  · have h49 : a.eval (.tmp 49) = (.bool true) := hE 31 (by kernel_rfl) 49 rfl
                    have h4 : a.eval (.tmp 4) = .pointer (some ⟨wr.heap.size, 0, none⟩) := hO 4 (by kernel_rfl)
                    refine yes_is (j := 31) (d := 49) (b := true) rfl rfl h49 (do_run (by simp only [execOp, h4] <;> simp [go_sem, ]) rfl)
                  refine Steps.cons_ (step_mk (Is (.string ⟨t.toArray⟩)) rfl fun a W hx hE hO => ?_) ?_
                  · have h49 : a.eval (.tmp 49) = (.bool true) := hE 31 (by kernel_rfl) 49 rfl
                    have h56 : a.eval (.tmp 56) = (.pointer (some ⟨wr.heap.size, 0, none⟩)) := hE 38 (by kernel_rfl) 56 rfl
                    refine yes_is (j := 31) (d := 49) (b := true) rfl rfl h49 ?_
                    have q0 := Ext.keeps (Ext.trans (Ext.drew _) hx) Q0.out; exact do_run (by simp only [execOp, h56] <;> simp [go_sem, q0]) rfl
                  refine Steps.cons_ (step_mk (Is (.bool false)) rfl fun a W hx hE hO => ?_) ?_
                  · have h49 : a.eval (.tmp 49) = (.bool true) := hE 31 (by kernel_rfl) 49 rfl
                    have h55 : a.eval (.tmp 55) = (.string ⟨T.toArray⟩) := hE 37 (by kernel_rfl) 55 rfl
                    have h57 : a.eval (.tmp 57) = (.string ⟨t.toArray⟩) := hE 39 (by kernel_rfl) 57 rfl
                    refine yes_is (j := 31) (d := 49) (b := true) rfl rfl h49 ?_
                    exact do_bin (v := .bool false) rfl h55 h57 (by simp [go_sem, LE.out]) rfl
                  refine Steps.cons_ (step_mk (Is (.bool false)) rfl fun a W hx hE hO => ?_) ?_
                  · have h46 : a.eval (.tmp 46) = (.bool false) := hE 28 (by kernel_rfl) 46 rfl
                    have h49 : a.eval (.tmp 49) = (.bool true) := hE 31 (by kernel_rfl) 49 rfl
                    have h58 : a.eval (.tmp 58) = (.bool false) := hE 40 (by kernel_rfl) 58 rfl
                    exact yes_is (j := 28) (d := 46) (b := false) rfl rfl h46 (do_pick rfl h49 h58)
                  refine Steps.cons_ (step_mk (Is (.bool false)) rfl fun a W hx hE hO => ?_) ?_
                  · have h46 : a.eval (.tmp 46) = (.bool false) := hE 28 (by kernel_rfl) 46 rfl
                    have h59 : a.eval (.tmp 59) = (.bool false) := hE 41 (by kernel_rfl) 59 rfl
                    exact yes_none rfl (do_pick_no rfl h46 h59)
                  exact Steps.nil_
                · intro a W hx hd hsz hE hO
                  have h60 : a.eval (.tmp 60) = (.bool false) := hE 42 (of_decide_eq_true (by kernel_rfl)) 60 rfl
                  have hmix := act_mix [false, false, false, false, false, false, false, false, false, false, false, false, false, false, false, false, false, false, true, true, true, true, true, true, true, true, true, true, true, true, true, true, true, true, true, true, true, true, true, true, true, true, true, true, true, true, true, true, true, true, true, true, true, true, true, true, true, true, true, true, true] (by kernel_rfl) hsz hd hO
                  simp only [mixA, Nat.reduceAdd, Nat.zero_add] at hmix
                  rw [hmix]
                  rw [h60]
                  generalize a.eval (.tmp 18) = u18
                  generalize a.eval (.tmp 19) = u19
                  generalize a.eval (.tmp 20) = u20
                  generalize a.eval (.tmp 21) = u21
                  generalize a.eval (.tmp 22) = u22
                  generalize a.eval (.tmp 23) = u23
                  generalize a.eval (.tmp 24) = u24
                  generalize a.eval (.tmp 25) = u25
                  generalize a.eval (.tmp 26) = u26
                  generalize a.eval (.tmp 27) = u27
                  generalize a.eval (.tmp 28) = u28
                  generalize a.eval (.tmp 29) = u29
                  generalize a.eval (.tmp 30) = u30
                  generalize a.eval (.tmp 31) = u31
                  generalize a.eval (.tmp 32) = u32
                  generalize a.eval (.tmp 33) = u33
                  generalize a.eval (.tmp 34) = u34
                  generalize a.eval (.tmp 35) = u35
                  generalize a.eval (.tmp 36) = u36
                  generalize a.eval (.tmp 37) = u37
                  generalize a.eval (.tmp 38) = u38
                  generalize a.eval (.tmp 39) = u39
                  generalize a.eval (.tmp 40) = u40
                  generalize a.eval (.tmp 41) = u41
                  generalize a.eval (.tmp 42) = u42
                  generalize a.eval (.tmp 43) = u43
                  generalize a.eval (.tmp 44) = u44
                  generalize a.eval (.tmp 45) = u45
                  generalize a.eval (.tmp 46) = u46
                  generalize a.eval (.tmp 47) = u47
                  generalize a.eval (.tmp 48) = u48
                  generalize a.eval (.tmp 49) = u49
                  generalize a.eval (.tmp 50) = u50
                  generalize a.eval (.tmp 51) = u51
                  generalize a.eval (.tmp 52) = u52
                  generalize a.eval (.tmp 53) = u53
                  generalize a.eval (.tmp 54) = u54
                  generalize a.eval (.tmp 55) = u55
                  generalize a.eval (.tmp 56) = u56
                  generalize a.eval (.tmp 57) = u57
                  generalize a.eval (.tmp 58) = u58
                  generalize a.eval (.tmp 59) = u59
                  clear hmix hd hsz hE hO
                  go_wp2
                  exact ⟨⟨k + 1, rfl, by omega, Hr.out, Ext.trans Hx2.out hx⟩, by simp only [intOf]; omega⟩
      · have hlt' : ¬(k : Int) < l.length := by omega
        rw [List.drop_of_length_le (by omega)] at hr
        have Hr := Lib.hid hr
        clear hr hx
        go_wp2
        go_ret
        exact ⟨by rw [Hr.out]; rfl, Hx.out⟩
  · have hLi : ¬(l.length : Int) ≤ 262144 := by omega
    have hLg : (262144 : Int) < l.length := by omega
    have he : esOk l = false := by unfold esOk; rw [decide_eq_false hL, Bool.and_false]
    rw [he]
    clear he
    go_enter Try.func26, Try.ntmps26
    go_wp2
    go_ret
    exact ⟨rfl, Below.refl _ _⟩

end Go.Proofs.Ytmgbhmmmegknjaa
