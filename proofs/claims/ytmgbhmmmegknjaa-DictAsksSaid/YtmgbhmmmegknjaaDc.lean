/-
  Contracts of dict.shared, dict.may and the reference's shared, place.
  Conditions: those of each statement.
-/
import Derived.Test.YtmgbhmmmegknjaaDb
import Derived.Test.YtmgbhmmmegknjaaVt
import Derived.BigQuiet
namespace Go.Proofs.Ytmgbhmmmegknjaa
open Go.RowKit Go.Op

theorem addField (x : Addr) (n : Nat) : x.add (n + 1) = ⟨(x.add n).block, (x.add n).off + 1, none⟩ := by
  unfold Addr.add
  by_cases h : n = 0
  · simp [h]
  · simp [h, Nat.add_assoc]
theorem addField2 (x : Addr) (n : Nat) : x.add (n + 2) = ⟨(x.add n).block, (x.add n).off + 2, none⟩ := by
  unfold Addr.add
  by_cases h : n = 0
  · simp [h]
  · simp [h, Nat.add_assoc]
theorem addField3 (x : Addr) (n : Nat) : x.add (n + 3) = ⟨(x.add n).block, (x.add n).off + 3, none⟩ := by
  unfold Addr.add
  by_cases h : n = 0
  · simp [h]
  · simp [h, Nat.add_assoc]
section
variable {w : World} {S : Nat → Prop} {A : Option Addr} {c n : Nat}
/-- an entry, where it lies -/
theorem SL.ent_at {l : List Ent} (h : SL w S (.slice A n c) l) {i : Nat} (hi : i < l.length) : ∃ ad, A = some ad ∧ S ad.block ∧ w.cell? (ad.add (i * 4)) = some (.string ⟨(l[i]).1.b.toArray⟩) ∧
    w.cell? ⟨(ad.add (i * 4)).block, (ad.add (i * 4)).off + 1, none⟩ = some (.int .i64 (l[i]).2.1) ∧ w.cell? ⟨(ad.add (i * 4)).block, (ad.add (i * 4)).off + 2, none⟩ = some (.int .i64 (l[i]).2.2.1) ∧
    w.cell? ⟨(ad.add (i * 4)).block, (ad.add (i * 4)).off + 3, none⟩ = some (.int .i64 (l[i]).2.2.2) ∧ (l[i]).1.b.length ≤ maxLen ∧ I6 (l[i]).2.1 ∧ I6 (l[i]).2.2.1 ∧ I6 (l[i]).2.2.2 := by
  obtain ⟨ad, cs, rfl, hS, ⟨c1, c2, rfl, ⟨rfl, h1⟩, d1, d2, rfl, ⟨rfl, h2⟩, e1, e2, rfl, ⟨rfl, h3⟩, ⟨rfl, h4⟩⟩, hc⟩ := h.at_ hi
  have q0 := hc 0 _ rfl
  have q1 := hc 1 _ rfl
  have q2 := hc 2 _ rfl
  have q3 := hc 3 _ rfl
  simp only [Rep.n, Nat.add_zero, Nat.reduceAdd] at q0 q1 q2 q3
  rw [addField] at q1
  rw [addField2] at q2
  rw [addField3] at q3
  exact ⟨ad, rfl, hS, q0, q1, q2, q3, h1, h2, h3, h4⟩
theorem rep_ent {t : List UInt8} {a b d : Int} (h1 : t.length ≤ maxLen) (h2 : I6 a) (h3 : I6 b) (h4 : I6 d) : Rep.r w S [.string ⟨t.toArray⟩, .int .i64 a, .int .i64 b, .int .i64 d] ((⟨t⟩, a, b, d) : Ent) :=
  ⟨[.string ⟨t.toArray⟩], [.int .i64 a, .int .i64 b, .int .i64 d], rfl, ⟨rfl, h1⟩, [.int .i64 a], [.int .i64 b, .int .i64 d], rfl, ⟨rfl, h2⟩, [.int .i64 b], [.int .i64 d], rfl, ⟨rfl, h3⟩, ⟨rfl, h4⟩⟩
end
theorem info_ent : (Try.prog.info? 42).map (fun i => (i.zero, i.size, i.bytes)) = some (some (.agg #[.string ⟨#[]⟩, .int .i64 0, .int .i64 0, .int .i64 0]), 4, 40) := by kernel_rfl

theorem less_gt : ∀ (a b : List UInt8), (!bytesLess b a && !b == a) = bytesLess a b
  | [], [] => rfl
  | [], _ :: _ => rfl
  | _ :: _, [] => rfl
  | x :: a, y :: b => by
    have ih := less_gt a b
    simp only [bytesLess]
    by_cases h1 : x < y
    · have h2 : ¬y < x := fun h => by
        have a1 := UInt8.lt_iff_toNat_lt.1 h1
        have a2 := UInt8.lt_iff_toNat_lt.1 h
        omega
      have h3 : ¬y = x := fun h => h2 (by rw [h] at h1; exact absurd h1 (by rw [UInt8.lt_iff_toNat_lt]; omega))
      simp [h1, h2, h3]
    · by_cases h2 : y < x
      · have h3 : ¬x = y := fun h => h1 (by rw [h] at h2; exact absurd h2 (by rw [UInt8.lt_iff_toNat_lt]; omega))
        simp [h1, h2, h3]
      · have h3 : x = y := by
          apply UInt8.toNat_inj.1
          rw [UInt8.lt_iff_toNat_lt] at h1 h2
          omega
        subst h3
        simp only [h1, decide_false, Bool.false_or, beq_self_eq_true, Bool.true_and, List.cons_beq_cons]
        exact ih

/-- what holds behind the first numbers -/
def rt (r : Bool) (x y z : Int) : Nat → Bool
  | 0 => r
  | 1 => r && pl x
  | 2 => (r && pl x) && pl y
  | _ => ((r && pl x) && pl y) && pl z
theorem pl_eq (n : Int) : pl n = (decide (0 ≤ n) && decide (n ≤ 67108864)) := rfl

/-- one of three -/
def nth3 (x y z : Int) : Nat → Int
  | 0 => x
  | 1 => y
  | _ => z
theorem run_idx3 (w : World) (x y z : Int) : ∀ j, j < 3 → (Instr.index 72 (.agg #[.int .i64 x, .int .i64 y, .int .i64 z]) (.int .i64 (j : Nat))).run Try.prog w = .ok (.int .i64 (nth3 x y z j)) w := by
  intro j hj
  have h1 := Try.underlying72
  have h2 := Try.underlying3
  rcases (by omega : j = 0 ∨ j = 1 ∨ j = 2) with rfl | rfl | rfl
  all_goals
    simp [Instr.index, go_sem, run_underlying h1, run_underlying h2, part, isAgg, nth3]
/-- an element of an array of three -/
theorem wpList_idx3 {ops : Array Oper} {rest : List Oper} {o : Oper} {a : Act} {Q : Exit → Act → World → Prop} (w : World) (hgd : o.guard = none) (s i : Operand) (ho : o.op = .index 72 s i) (x y z : Int) (j : Nat)
    (hs : a.eval s = .agg #[.int .i64 x, .int .i64 y, .int .i64 z]) (hi : a.eval i = .int .i64 j) (hj : j < 3) (h : wpList Try.prog ops Q rest (a.put o.dst (.int .i64 (nth3 x y z j))) w) : wpList Try.prog ops Q (o :: rest) a w := by
  refine wpList_plain hgd fun K hK => ?_
  unfold Oper.wp
  rcases (by omega : j = 0 ∨ j = 1 ∨ j = 2) with rfl | rfl | rfl
  all_goals
    simp only [execOp, ho, hs, hi]
    simp [go_sem]
    exact hK _ _ h

set_option maxHeartbeats 1600000 in
set_option maxRecDepth 100000 in
theorem may_any (w : World) (v : Value) (l : List Ent) (hv : SL w (Bw w) v l) (hl : l.length ≤ 1000000) :
    Calls Try.prog 24 #[v] w fun e w' => e = .returned (.bool (esOk l)) ∧ Ext w w' := by
  obtain ⟨A, c, rfl, hc, hm⟩ := hv.form
  have Hv := Lib.hid hv
  clear hv hm
  go_enter Try.func24, Try.ntmps24
  go_wp2_with fail
  go_loopw [3, 11] (fun x i wr => ∃ (k : Nat) (last : List UInt8), i = .int .i64 k ∧ k ≤ l.length ∧ x = .string ⟨last.toArray⟩ ∧ upw [] l = upw last (l.drop k) ∧ Ext w wr) (fun _ i _ => l.length - (intOf i).toNat)
  case atStart => exact ⟨0, [], rfl, Nat.zero_le _, rfl, rfl, Below.refl _ _⟩
  case round =>
    rename World => wq
    obtain ⟨k, last, rfl, hk, rfl, hr, hx⟩ := hrel
    have Hx := Lib.hid hx
    by_cases hlt : k < l.length
    · obtain ⟨ad, rfl, _, hc0, hc1, hc2, hc3, h1, h2, h3, h4⟩ := (Hv.out.up hx).ent_at hlt
      rw [List.drop_eq_getElem_cons hlt] at hr
      have hklt : (k : Int) < l.length := by omega
      generalize l[k] = N at hc0 hc1 hc2 hc3 h1 h2 h3 h4 hr
      obtain ⟨⟨t⟩, x, y, z⟩ := N
      dsimp only at hc0 hc1 hc2 hc3 h1 h2 h3 h4 hr
      have Hr := Lib.hid hr
      have hgt := less_gt last t
      have hb : ∀ n : Int, pl n = (decide (0 ≤ n) && decide (n ≤ 67108864)) := fun n => rfl
      have hr0 : decide ((t.length : Int) ≤ 65) = decide (t.length ≤ 65) := by simp only [decide_eq_decide]; omega
      generalize hB : bytesLess last t = B at hgt
      generalize hT : decide (t.length ≤ 65) = T at hr0
      have HB := Lib.hid hB
      have HT := Lib.hid hT
      clear hr hx hB hT hb
      have hx2 := Ext.al Hx.out (.cells #[.string ⟨t.toArray⟩, .int .i64 x, .int .i64 y, .int .i64 z] 42)
      have Hx2 := Lib.hid hx2
      clear hx2
      obtain ⟨R0, hR0⟩ : ∃ R0, R0 = (T && B) := ⟨_, rfl⟩
      cases T <;> cases B
      all_goals
        go_wp2_with fail
        go_loop [6, 32] (fun q i => ∃ j : Nat, i = .int .i64 j ∧ j ≤ 3 ∧ q = .bool (rt R0 x y z j)) (fun _ i => 3 - (intOf i).toNat)
        case atStart => exact ⟨0, rfl, by omega, by rw [hR0]; rfl⟩
        case round =>
          obtain ⟨j, rfl, hj, rfl⟩ := hrel
          have HR0 := Lib.hid hR0
          clear hR0
          rcases (by omega : j = 0 ∨ j = 1 ∨ j = 2 ∨ j = 3) with rfl | rfl | rfl | rfl
          · generalize hv : rt R0 x y z 0 = v
            cases v with
            | false =>
              go_wp2_with ((with_reducible (refine wpList_idx3 _ rfl (.tmp 31) (.tmp 32) rfl x y z 0 ?_ ?_ ?_ ?_)); exact rfl; exact rfl; exact (by decide); simp only [nth3])
              go_round
              case rel => exact ⟨1, rfl, by omega, by rw [show rt R0 x y z 1 = (rt R0 x y z 0 && pl x) from rfl, hv]; rfl⟩
              case measure => simp only [intOf]; decide
            | true =>
              generalize h1 : decide (0 ≤ x) = p1
              generalize h2 : decide (x ≤ 67108864) = p2
              have e1 : rt R0 x y z 1 = (p1 && p2) := by rw [show rt R0 x y z 1 = (rt R0 x y z 0 && pl x) from rfl, hv, pl_eq, h1, h2, Bool.true_and]
              have E1 := Lib.hid e1
              clear hv e1
              cases p1 with
              | false =>
                go_wp2_with ((with_reducible (refine wpList_idx3 _ rfl (.tmp 31) (.tmp 32) rfl x y z 0 ?_ ?_ ?_ ?_)); exact rfl; exact rfl; exact (by decide); simp only [nth3])
                go_round
                case rel => exact ⟨1, rfl, by omega, by rw [E1.out]; rfl⟩
                case measure => simp only [intOf]; decide
              | true =>
                cases p2 with
                | false =>
                  go_wp2_with ((with_reducible (refine wpList_idx3 _ rfl (.tmp 31) (.tmp 32) rfl x y z 0 ?_ ?_ ?_ ?_)); exact rfl; exact rfl; exact (by decide); simp only [nth3])
                  go_round
                  case rel => exact ⟨1, rfl, by omega, by rw [E1.out]; rfl⟩
                  case measure => simp only [intOf]; decide
                | true =>
                  go_wp2_with ((with_reducible (refine wpList_idx3 _ rfl (.tmp 31) (.tmp 32) rfl x y z 0 ?_ ?_ ?_ ?_)); exact rfl; exact rfl; exact (by decide); simp only [nth3])
                  go_round
                  case rel => exact ⟨1, rfl, by omega, by rw [E1.out]; rfl⟩
                  case measure => simp only [intOf]; decide
          · generalize hv : rt R0 x y z 1 = v
            cases v with
            | false =>
              go_wp2_with ((with_reducible (refine wpList_idx3 _ rfl (.tmp 31) (.tmp 32) rfl x y z 1 ?_ ?_ ?_ ?_)); exact rfl; exact rfl; exact (by decide); simp only [nth3])
              go_round
              case rel => exact ⟨2, rfl, by omega, by rw [show rt R0 x y z 2 = (rt R0 x y z 1 && pl y) from rfl, hv]; rfl⟩
              case measure => simp only [intOf]; decide
            | true =>
              generalize h1 : decide (0 ≤ y) = p1
              generalize h2 : decide (y ≤ 67108864) = p2
              have e1 : rt R0 x y z 2 = (p1 && p2) := by rw [show rt R0 x y z 2 = (rt R0 x y z 1 && pl y) from rfl, hv, pl_eq, h1, h2, Bool.true_and]
              have E1 := Lib.hid e1
              clear hv e1
              cases p1 with
              | false =>
                go_wp2_with ((with_reducible (refine wpList_idx3 _ rfl (.tmp 31) (.tmp 32) rfl x y z 1 ?_ ?_ ?_ ?_)); exact rfl; exact rfl; exact (by decide); simp only [nth3])
                go_round
                case rel => exact ⟨2, rfl, by omega, by rw [E1.out]; rfl⟩
                case measure => simp only [intOf]; decide
              | true =>
                cases p2 with
                | false =>
                  go_wp2_with ((with_reducible (refine wpList_idx3 _ rfl (.tmp 31) (.tmp 32) rfl x y z 1 ?_ ?_ ?_ ?_)); exact rfl; exact rfl; exact (by decide); simp only [nth3])
                  go_round
                  case rel => exact ⟨2, rfl, by omega, by rw [E1.out]; rfl⟩
                  case measure => simp only [intOf]; decide
                | true =>
                  go_wp2_with ((with_reducible (refine wpList_idx3 _ rfl (.tmp 31) (.tmp 32) rfl x y z 1 ?_ ?_ ?_ ?_)); exact rfl; exact rfl; exact (by decide); simp only [nth3])
                  go_round
                  case rel => exact ⟨2, rfl, by omega, by rw [E1.out]; rfl⟩
                  case measure => simp only [intOf]; decide
          · generalize hv : rt R0 x y z 2 = v
            cases v with
            | false =>
              go_wp2_with ((with_reducible (refine wpList_idx3 _ rfl (.tmp 31) (.tmp 32) rfl x y z 2 ?_ ?_ ?_ ?_)); exact rfl; exact rfl; exact (by decide); simp only [nth3])
              go_round
              case rel => exact ⟨3, rfl, by omega, by rw [show rt R0 x y z 3 = (rt R0 x y z 2 && pl z) from rfl, hv]; rfl⟩
              case measure => simp only [intOf]; decide
            | true =>
              generalize h1 : decide (0 ≤ z) = p1
              generalize h2 : decide (z ≤ 67108864) = p2
              have e1 : rt R0 x y z 3 = (p1 && p2) := by rw [show rt R0 x y z 3 = (rt R0 x y z 2 && pl z) from rfl, hv, pl_eq, h1, h2, Bool.true_and]
              have E1 := Lib.hid e1
              clear hv e1
              cases p1 with
              | false =>
                go_wp2_with ((with_reducible (refine wpList_idx3 _ rfl (.tmp 31) (.tmp 32) rfl x y z 2 ?_ ?_ ?_ ?_)); exact rfl; exact rfl; exact (by decide); simp only [nth3])
                go_round
                case rel => exact ⟨3, rfl, by omega, by rw [E1.out]; rfl⟩
                case measure => simp only [intOf]; decide
              | true =>
                cases p2 with
                | false =>
                  go_wp2_with ((with_reducible (refine wpList_idx3 _ rfl (.tmp 31) (.tmp 32) rfl x y z 2 ?_ ?_ ?_ ?_)); exact rfl; exact rfl; exact (by decide); simp only [nth3])
                  go_round
                  case rel => exact ⟨3, rfl, by omega, by rw [E1.out]; rfl⟩
                  case measure => simp only [intOf]; decide
                | true =>
                  go_wp2_with ((with_reducible (refine wpList_idx3 _ rfl (.tmp 31) (.tmp 32) rfl x y z 2 ?_ ?_ ?_ ?_)); exact rfl; exact rfl; exact (by decide); simp only [nth3])
                  go_round
                  case rel => exact ⟨3, rfl, by omega, by rw [E1.out]; rfl⟩
                  case measure => simp only [intOf]; decide
          · generalize hv : rt R0 x y z 3 = v
            have HV := Lib.hid hv
            clear hv
            cases v with
            | false =>
              go_wp2
              go_ret
              refine ⟨?_, Hx2.out⟩
              have e : upw last ((⟨t⟩, x, y, z) :: l.drop (k + 1)) = false := by
                have h := HV.out
                rw [HR0.out] at h
                simp only [upw, eOk, HT.out, HB.out]
                simp only [rt] at h
                revert h
                cases pl x <;> cases pl y <;> cases pl z <;> simp
              rw [esOk, Hr.out, e]
              rfl
            | true =>
              go_wp2
              go_roundw
              case rel =>
                refine ⟨k + 1, t, rfl, by omega, rfl, ?_, Hx2.out⟩
                have h := HV.out
                rw [HR0.out] at h
                rw [Hr.out]
                simp only [upw, eOk, HT.out, HB.out]
                simp only [rt] at h
                revert h
                cases pl x <;> cases pl y <;> cases pl z <;> simp
              case measure => simp only [intOf]; omega
    · have hklt : ¬(k : Int) < l.length := by omega
      rw [List.drop_of_length_le (by omega)] at hr
      have Hr := Lib.hid hr
      clear hr hx
      by_cases h : l.length ≤ 262144
      · have hi : (l.length : Int) ≤ 262144 := by omega
        go_wp2
        go_ret
        refine ⟨?_, Hx.out⟩
        rw [esOk, Hr.out, decide_eq_true h]
        rfl
      · have hi : ¬(l.length : Int) ≤ 262144 := by omega
        go_wp2
        go_ret
        refine ⟨?_, Hx.out⟩
        rw [esOk, Hr.out, decide_eq_false h]
        rfl

end Go.Proofs.Ytmgbhmmmegknjaa
