/-
  Rows of docs: which may be; contracts of stored.Check, the reference's Is and Check.
  Conditions: none.
-/
import Derived.Test.YtnajmpkdeenkbaaEg
namespace Go.Proofs.Ytnajmpkdeenkbaa
open Go.RowKit Go.Op

/-- a doc: a number, an event -/
abbrev Doc := Int × Ev
/-- a row from 'last' on -/
def dRis : Int → List Doc → Bool
  | _, [] => true
  | last, d :: l => decide (last < d.1) && (decide (d.1 ≤ 1099511627776) && (decide (evE d.2 = 0) && dRis d.1 l))
def sOk (l : List Doc) : Bool := decide (l.length ≤ 65536) && dRis 0 l
theorem dRis_at {l : List Doc} {k : Nat} (hk : k < l.length) (last : Int) : dRis last (l.drop k) = (decide (last < l[k].1) && (decide (l[k].1 ≤ 1099511627776) && (decide (evE l[k].2 = 0) && dRis l[k].1 (l.drop (k + 1))))) := by
  rw [List.drop_eq_getElem_cons hk]
  rfl
section
variable {w : World} {S : Nat → Prop} {A : Option Addr} {c n : Nat}
theorem addField2 (x : Addr) (n : Nat) : x.add (n + 2) = ⟨(x.add n).block, (x.add n).off + 2, none⟩ := by
  unfold Addr.add
  by_cases h : n = 0
  · simp [h]
  · simp [h, Nat.add_assoc]
/-- a doc, where it lies -/
theorem SL.doc_at {l : List Doc} (h : SL w S (.slice A n c) l) {i : Nat} (hi : i < l.length) : ∃ ad u, A = some ad ∧ S ad.block ∧ w.cell? (ad.add (i * 3)) = some (.int .i64 (l[i]).1) ∧
    w.cell? ⟨(ad.add (i * 3)).block, (ad.add (i * 3)).off + 1, none⟩ = some (.int .i64 (l[i]).2.1) ∧ w.cell? ⟨(ad.add (i * 3)).block, (ad.add (i * 3)).off + 2, none⟩ = some u ∧ SL w S u (l[i]).2.2 ∧ I6 (l[i]).1 ∧ I6 (l[i]).2.1 := by
  obtain ⟨ad, cs, rfl, hS, ⟨c1, c2, rfl, ⟨rfl, h1⟩, d1, d2, rfl, ⟨rfl, h2⟩, u, rfl, hu⟩, hc⟩ := h.at_ hi
  have q0 := hc 0 _ rfl
  have q1 := hc 1 _ rfl
  have q2 := hc 2 _ rfl
  simp only [Rep.n, Nat.add_zero, Nat.reduceAdd] at q0 q1 q2
  rw [addField] at q1
  rw [addField2] at q2
  exact ⟨ad, u, rfl, hS, q0, q1, q2, hu, h1, h2⟩
theorem rep_doc {a b : Int} {u : Value} {fs : List Fld} (h1 : I6 a) (h2 : I6 b) (hu : SL w S u fs) : Rep.r w S [.int .i64 a, .int .i64 b, u] ((a, b, fs) : Doc) :=
  ⟨[.int .i64 a], [.int .i64 b, u], rfl, ⟨rfl, h1⟩, [.int .i64 b], [u], rfl, ⟨rfl, h2⟩, u, rfl, hu⟩
end
theorem info_doc : (Try.prog.info? 45).map (fun i => (i.zero, i.size, i.bytes)) = some (some (.agg #[.int .i64 0, .int .i64 0, .slice none 0 0]), 3, 40) := by kernel_rfl

theorem doc_eq (s t : Int) (e f : Ev) : decide (((s, e) : Doc) = (t, f)) = (s == t && decide (e = f)) := by
  by_cases h1 : s = t <;> by_cases h2 : e = f <;> simp [h1, h2]

def errS (l : List Doc) : Nat := if sOk l = true then 0 else 120

set_option maxHeartbeats 3200000 in
set_option maxRecDepth 100000 in
theorem scheck_any (w : World) (v : Value) (l : List Doc) (hv : SL w (Bw w) v l) :
    Calls Try.prog 17 #[v] w fun e w' => e = .returned (.int .i64 (errS l)) ∧ Ext w w' := by
  obtain ⟨A, c, rfl, hc, hm⟩ := hv.form
  have Hv := Lib.hid hv
  clear hv
  by_cases hL : 65536 < l.length
  · have hLi : (65536 : Int) < l.length := by omega
    have He := Lib.hid (show errS l = 120 by unfold errS sOk; rw [decide_eq_false (by omega)]; rfl)
    clear hL
    go_enter Try.func17, Try.ntmps17
    go_wp2
    go_ret
    exact ⟨by rw [He.out]; rfl, Below.refl _ _⟩
  · have hLi : ¬(65536 : Int) < l.length := by omega
    have He := Lib.hid (show errS l = if dRis 0 l = true then 0 else 120 by unfold errS sOk; rw [decide_eq_true (by omega), Bool.true_and])
    clear hL
    go_enter Try.func17, Try.ntmps17
    go_wp2_with fail
    go_loopw [3, 11] (fun x i wr => ∃ (k : Nat) (last : Int), i = .int .i64 k ∧ k ≤ l.length ∧ x = .int .i64 last ∧ dRis 0 l = dRis last (l.drop k) ∧ Ext w wr) (fun _ i _ => l.length - (intOf i).toNat)
    case atStart => exact ⟨0, 0, rfl, Nat.zero_le _, rfl, rfl, Below.refl _ _⟩
    case round =>
      obtain ⟨k, last, rfl, hk, rfl, hr, hx⟩ := hrel
      have Hx := Lib.hid hx
      by_cases hlt : k < l.length
      · have hklt : (k : Int) < l.length := by omega
        obtain ⟨ad, u, rfl, _, d0, d1, d2, hu, _⟩ := (Hv.out.up hx).doc_at hlt
        rw [dRis_at hlt] at hr
        generalize l[k] = N at d0 d1 d2 hu hr
        obtain ⟨s, a, fs⟩ := N
        dsimp only at d0 d1 d2 hu hr
        obtain ⟨Au, cu, rfl, _⟩ := hu.form
        have hx2 := Ext.al Hx.out (.cells #[.int .i64 s, .int .i64 a, .slice Au fs.length cu] 45)
        have Hx2 := Lib.hid hx2
        have Hu := Lib.hid (hu.up (Ext.of_alloc wr (.cells #[.int .i64 s, .int .i64 a, .slice Au fs.length cu] 45)))
        have Q0 := Lib.hid (cell_new wr #[.int .i64 s, .int .i64 a, .slice Au fs.length cu] 45 0 (v := .int .i64 s) rfl)
        clear hx hx2 hu
        by_cases h1 : s ≤ last
        · have Hr := Lib.hid (show dRis 0 l = false by rw [hr, decide_eq_false (by omega)]; rfl)
          clear hr
          go_wp2
          go_ret
          exact ⟨by rw [He.out, Hr.out]; rfl, Hx2.out⟩
        · by_cases h2 : 1099511627776 < s
          · have Hr := Lib.hid (show dRis 0 l = false by rw [hr, decide_eq_false (p := s ≤ 1099511627776) (by omega), Bool.false_and, Bool.and_false])
            clear hr
            go_wp2
            go_ret
            exact ⟨by rw [He.out, Hr.out]; rfl, Hx2.out⟩
          · rw [decide_eq_true (p := last < s) (by omega), decide_eq_true (p := s ≤ 1099511627776) (by omega), Bool.true_and, Bool.true_and] at hr
            have Hr := Lib.hid hr
            clear hr
            go_wp2_with fail
            refine (check_any _ a _ fs Hu.out).mono ?_
            rintro e w1 ⟨rfl, hx1⟩
            have q0 := Ext.keeps hx1 Q0.out
            have HX := Lib.hid (Ext.trans Hx2.out hx1)
            have hr := Hr.out
            clear Hr hx1
            generalize evE (a, fs) = E at hr ⊢
            by_cases hE : E = 0
            · have hE' : ((E : Int) != 0) = false := by simp [hE]
              rw [decide_eq_true hE, Bool.true_and] at hr
              have Hr := Lib.hid hr
              clear hr hE
              go_wp2
              exact ⟨⟨k + 1, s, rfl, by omega, rfl, Hr.out, HX.out⟩, by simp only [intOf]; omega⟩
            · have hE' : ((E : Int) != 0) = true := by simp; omega
              rw [decide_eq_false hE, Bool.false_and] at hr
              have Hr := Lib.hid hr
              clear hr hE
              go_wp2
              go_ret
              exact ⟨by rw [He.out, Hr.out]; rfl, HX.out⟩
      · have hklt : ¬(k : Int) < l.length := by omega
        rw [List.drop_of_length_le (by omega)] at hr
        have Hr := Lib.hid hr
        clear hr hx
        go_wp2
        go_ret
        exact ⟨by rw [He.out, Hr.out]; rfl, Hx.out⟩

set_option maxHeartbeats 3200000 in
set_option maxRecDepth 100000 in
theorem ris_any (w : World) (v : Value) (l : List Doc) (hv : SL w (Bw w) v l) :
    Calls Try.prog 30 #[v] w fun e w' => e = .returned (.bool (sOk l)) ∧ Ext w w' := by
  obtain ⟨A, c, rfl, hc, hm⟩ := hv.form
  have Hv := Lib.hid hv
  clear hv
  by_cases hL : 65536 < l.length
  · have hLi : (65536 : Int) < l.length := by omega
    have He := Lib.hid (show sOk l = false by unfold sOk; rw [decide_eq_false (by omega)]; rfl)
    clear hL
    go_enter Try.func30, Try.ntmps30
    go_wp2
    go_ret
    exact ⟨by rw [He.out]; rfl, Below.refl _ _⟩
  · have hLi : ¬(65536 : Int) < l.length := by omega
    have He := Lib.hid (show sOk l = dRis 0 l by unfold sOk; rw [decide_eq_true (by omega), Bool.true_and])
    clear hL
    go_enter Try.func30, Try.ntmps30
    go_wp2_with fail
    go_loopw [3, 4] (fun x i wr => ∃ (k : Nat) (last : Int), i = .int .i64 k ∧ k ≤ l.length ∧ x = .int .i64 last ∧ dRis 0 l = dRis last (l.drop k) ∧ Ext w wr) (fun _ i _ => l.length - (intOf i).toNat)
    case atStart => exact ⟨0, 0, rfl, Nat.zero_le _, rfl, rfl, Below.refl _ _⟩
    case round =>
      obtain ⟨k, last, rfl, hk, rfl, hr, hx⟩ := hrel
      have Hx := Lib.hid hx
      by_cases hlt : k < l.length
      · have hklt : (k : Int) < l.length := by omega
        obtain ⟨ad, u, rfl, _, d0, d1, d2, hu, _⟩ := (Hv.out.up hx).doc_at hlt
        rw [dRis_at hlt] at hr
        generalize l[k] = N at d0 d1 d2 hu hr
        obtain ⟨s, a, fs⟩ := N
        dsimp only at d0 d1 d2 hu hr
        obtain ⟨Au, cu, rfl, _⟩ := hu.form
        have Hu := Lib.hid hu
        have D0 := Lib.hid d0
        clear hx hu
        by_cases h1 : s ≤ last
        · have Hr := Lib.hid (show dRis 0 l = false by rw [hr, decide_eq_false (by omega)]; rfl)
          clear hr
          go_wp2
          go_ret
          exact ⟨by rw [He.out, Hr.out]; rfl, Hx.out⟩
        · by_cases h2 : 1099511627776 < s
          · have Hr := Lib.hid (show dRis 0 l = false by rw [hr, decide_eq_false (p := s ≤ 1099511627776) (by omega), Bool.false_and, Bool.and_false])
            clear hr
            go_wp2
            go_ret
            exact ⟨by rw [He.out, Hr.out]; rfl, Hx.out⟩
          · rw [decide_eq_true (p := last < s) (by omega), decide_eq_true (p := s ≤ 1099511627776) (by omega), Bool.true_and, Bool.true_and] at hr
            have Hr := Lib.hid hr
            clear hr
            go_wp2_with fail
            refine (rcheck_any _ a _ fs Hu.out).mono ?_
            rintro e w1 ⟨rfl, hx1⟩
            have q0 := Ext.keeps hx1 D0.out
            have HX := Lib.hid (Ext.trans Hx.out hx1)
            have hr := Hr.out
            clear Hr hx1 d0 d1 d2
            generalize evE (a, fs) = E at hr ⊢
            by_cases hE : E = 0
            · have hE' : ((E : Int) != 0) = false := by simp [hE]
              rw [decide_eq_true hE, Bool.true_and] at hr
              have Hr := Lib.hid hr
              clear hr hE
              go_wp2
              exact ⟨⟨k + 1, s, rfl, by omega, rfl, Hr.out, HX.out⟩, by simp only [intOf]; omega⟩
            · have hE' : ((E : Int) != 0) = true := by simp; omega
              rw [decide_eq_false hE, Bool.false_and] at hr
              have Hr := Lib.hid hr
              clear hr hE
              go_wp2
              go_ret
              exact ⟨by rw [He.out, Hr.out]; rfl, HX.out⟩
      · have hklt : ¬(k : Int) < l.length := by omega
        rw [List.drop_of_length_le (by omega)] at hr
        have Hr := Lib.hid hr
        clear hr hx
        go_wp2
        go_ret
        exact ⟨by rw [He.out, Hr.out]; rfl, Hx.out⟩

set_option maxHeartbeats 400000 in
theorem rscheck_any (w : World) (v : Value) (l : List Doc) (hv : SL w (Bw w) v l) :
    Calls Try.prog 18 #[v] w fun e w' => e = .returned (.int .i64 (errS l)) ∧ Ext w w' := by
  obtain ⟨A, c, rfl, hc, hm⟩ := hv.form
  have Hv := Lib.hid hv
  clear hv
  go_enter Try.func18, Try.ntmps18
  go_wp2_with fail
  refine (ris_any _ _ l Hv.out).mono ?_
  rintro e w1 ⟨rfl, hx⟩
  have He : errS l = if sOk l = true then 0 else 120 := rfl
  cases h : sOk l with
  | true =>
    rw [h] at He
    have He := Lib.hid He
    have Hx := Lib.hid hx
    clear hx h
    go_wp2
    go_ret
    exact ⟨by rw [He.out]; rfl, Hx.out⟩
  | false =>
    rw [h] at He
    have He := Lib.hid He
    have Hx := Lib.hid hx
    clear hx h
    go_wp2
    go_ret
    exact ⟨by rw [He.out]; rfl, Hx.out⟩
end Go.Proofs.Ytnajmpkdeenkbaa
