/-
  Contract of the reference's less (chapter 10); putting a place in, plain.
  Conditions: none.
-/
import Derived.Test.YtbnjhpknagkiaaaYc
import Derived.Test.YtbnjhpknagkiaaaEc
import Derived.BigQuiet
namespace Go.Proofs.Ytbnjhpknagkiaaa
open Go.RowKit Go.Op

theorem cmp_cons (x y : UInt8) (s t : List UInt8) : cmpT (x :: s) (y :: t) = if x < y then -1 else if y < x then 1 else cmpT s t := rfl
theorem cmp_drop {a b : List UInt8} {k : Nat} (ha : k < a.length) (hb : k < b.length) : cmpT (a.drop k) (b.drop k) = if a[k] < b[k] then -1 else if b[k] < a[k] then 1 else cmpT (a.drop (k + 1)) (b.drop (k + 1)) := by
  rw [List.drop_eq_getElem_cons ha, List.drop_eq_getElem_cons hb, cmp_cons]

set_option maxHeartbeats 1600000 in
set_option maxRecDepth 100000 in
theorem rless_any (w : World) (a b : List UInt8) (ha : a.length ≤ 1000000) :
    Calls Try.prog 72 #[.string ⟨a.toArray⟩, .string ⟨b.toArray⟩] w fun e w' => e = .returned (.bool (decide (cmpT a b < 0))) ∧ Ext w w' := by
  have hsa : (ByteArray.mk a.toArray).size = a.length := by show a.toArray.size = _; simp
  have hsb : (ByteArray.mk b.toArray).size = b.length := by show b.toArray.size = _; simp
  go_enter Try.func72, Try.ntmps72
  go_wp2_with fail
  go_loopw [5] (fun iv wr => ∃ k : Nat, iv = .int .i64 k ∧ k ≤ a.length ∧ k ≤ b.length ∧ cmpT a b = cmpT (a.drop k) (b.drop k) ∧ Ext w wr) (fun iv _ => a.length - (intOf iv).toNat)
  case atStart => exact ⟨0, rfl, Nat.zero_le _, Nat.zero_le _, rfl, Below.refl _ _⟩
  case round =>
    obtain ⟨k, rfl, hka, hkb, hcm, hx⟩ := hrel
    have Hcm := Lib.hid hcm
    have Hx := Lib.hid hx
    clear hcm hx
    by_cases hla : k < a.length
    · by_cases hlb : k < b.length
      · have t1 : decide ((k : Int) < a.length) = true := decide_eq_true (by omega)
        have t2 : decide ((k : Int) < b.length) = true := decide_eq_true (by omega)
        have hba := ba_lt hla
        have hbb := ba_lt hlb
        have hva : (((ByteArray.mk a.toArray)[k]'hba).toNat : Int) = ((a[k]).toNat : Int) := by rw [ba_at hla]
        have hvb : (((ByteArray.mk b.toArray)[k]'hbb).toNat : Int) = ((b[k]).toNat : Int) := by rw [ba_at hlb]
        have hst := cmp_drop hla hlb
        generalize a[k] = x at hva hst
        generalize b[k] = y at hvb hst
        by_cases he : x = y
        · subst he
          rw [if_neg (UInt8.lt_irrefl x), if_neg (UInt8.lt_irrefl x)] at hst
          have Hst := Lib.hid (Hcm.out.trans hst)
          have tz : ((x.toNat : Int) != (x.toNat : Int)) = false := by simp
          clear hst
          go_wp2_with fail
          go_quiet (fail)
          go_wp2
          go_roundw
          case rel => exact ⟨k + 1, by go_num, by omega, by omega, Hst.out, Ext.trans Hx.out (Ext.drewN _ _)⟩
          case measure => simp [intOf]; omega
        · have tz : ((x.toNat : Int) != (y.toNat : Int)) = true := by
            rw [bne_iff_ne]
            intro h
            exact he (UInt8.toNat_inj.1 (by omega))
          have hres : decide (cmpT a b < 0) = decide (x.toNat < y.toNat) := by
            rw [Hcm.out, hst]
            by_cases hlt : x < y
            · rw [if_pos hlt, decide_eq_true (by decide), decide_eq_true (by rw [UInt8.lt_iff_toNat_lt] at hlt; omega)]
            · have hlt2 : y < x := by
                rw [UInt8.lt_iff_toNat_lt] at hlt ⊢
                have : x.toNat ≠ y.toNat := fun h => he (UInt8.toNat_inj.1 h)
                omega
              rw [if_neg hlt, if_pos hlt2, decide_eq_false (by decide), decide_eq_false (by rw [UInt8.lt_iff_toNat_lt] at hlt; omega)]
          have Hres := Lib.hid hres
          clear hst hres he
          go_wp2_with fail
          go_quiet (fail)
          go_wp2_with fail
          go_quiet (fail)
          go_wp2
          go_ret
          exact ⟨by rw [Hres.out]; rfl, Ext.trans Hx.out (Ext.trans (Ext.drewN _ _) (Ext.drewN _ _))⟩
      · have t1 : decide ((k : Int) < a.length) = true := decide_eq_true (by omega)
        have t2 : decide ((k : Int) < b.length) = false := decide_eq_false (by omega)
        have hres : decide (cmpT a b < 0) = decide (a.length < b.length) := by
          rw [Hcm.out, List.drop_of_length_le (l := b) (by omega), List.drop_eq_getElem_cons hla, decide_eq_false (show ¬a.length < b.length by omega)]
          rfl
        have Hres := Lib.hid hres
        clear hres
        go_wp2
        go_ret
        exact ⟨by rw [Hres.out]; rfl, Hx.out⟩
    · have t1 : decide ((k : Int) < a.length) = false := decide_eq_false (by omega)
      have hres : decide (cmpT a b < 0) = decide (a.length < b.length) := by
        rw [Hcm.out, List.drop_of_length_le (l := a) (by omega)]
        by_cases hlb : k < b.length
        · rw [List.drop_eq_getElem_cons hlb, decide_eq_true (show a.length < b.length by omega)]
          rfl
        · rw [List.drop_of_length_le (l := b) (by omega), decide_eq_false (show ¬a.length < b.length by omega)]
          rfl
      have Hres := Lib.hid hres
      clear hres
      go_wp2
      go_ret
      exact ⟨by rw [Hres.out]; rfl, Hx.out⟩

abbrev Rw := List UInt8 × Int
abbrev TG := List UInt8 × List Int
/-- a place more of a term -/
def addL : List TG → Rw → List TG
  | [], x => [(x.1, [x.2])]
  | (s, ps) :: L, x => if cmpT s x.1 < 0 then (s, ps) :: addL L x else if s = x.1 then (s, ps ++ [x.2]) :: L else (x.1, [x.2]) :: (s, ps) :: L
def tgT (t : TG) : Tx × List Int := (⟨t.1⟩, t.2)
theorem addL_pass (s : List UInt8) (p : Int) : ∀ A B : List TG, (∀ x ∈ A, cmpT x.1 s < 0) → addL (A ++ B) (s, p) = A ++ addL B (s, p)
  | [], _, _ => rfl
  | (t, ps) :: A, B, h => by
    rw [List.cons_append, addL, if_pos (show cmpT t s < 0 from h (t, ps) (by simp)), addL_pass s p A B fun x hx => h x (by simp [hx])]
    rfl
/-- where the texts lesser than this one end -/
theorem addL_at {L : List TG} {s : List UInt8} {p : Int} {k : Nat} (hA : ∀ x ∈ L.take k, cmpT x.1 s < 0) : addL L (s, p) = L.take k ++ addL (L.drop k) (s, p) := by
  conv => lhs; rw [← List.take_append_drop k L]
  exact addL_pass s p _ _ hA
theorem addL_same {L : List TG} {s : List UInt8} {p : Int} {k : Nat} (hk : k < L.length) (he : (L[k]).1 = s) : addL (L.drop k) (s, p) = (s, (L[k]).2 ++ [p]) :: L.drop (k + 1) := by
  rw [List.drop_eq_getElem_cons hk]
  generalize L[k] = T at he ⊢
  obtain ⟨t, ps⟩ := T
  dsimp only at he
  subst he
  rw [addL, if_neg (by rw [cmp_self]; decide), if_pos rfl]
theorem addL_new {L : List TG} {s : List UInt8} {p : Int} {k : Nat} (h : ∀ hk : k < L.length, ¬cmpT (L[k]).1 s < 0 ∧ ¬(L[k]).1 = s) : addL (L.drop k) (s, p) = (s, [p]) :: L.drop k := by
  by_cases hk : k < L.length
  · obtain ⟨h1, h2⟩ := h hk
    rw [List.drop_eq_getElem_cons hk]
    generalize L[k] = T at h1 h2 ⊢
    obtain ⟨t, ps⟩ := T
    rw [addL, if_neg h1, if_neg h2]
  · rw [List.drop_of_length_le (by omega)]
    rfl
theorem SL.trm_at {w : World} {S : Nat → Prop} {A : Option Addr} {c n : Nat} {l : List (Tx × List Int)} (h : SL w S (.slice A n c) l) {i : Nat} (hi : i < l.length) : ∃ ad u, A = some ad ∧ w.cell? (ad.add (i * 2)) = some (.string ⟨(l[i]).1.b.toArray⟩) ∧
    w.cell? ⟨(ad.add (i * 2)).block, (ad.add (i * 2)).off + 1, none⟩ = some u ∧ SL w S u (l[i]).2 := by
  obtain ⟨ad, cs, rfl, hS, ⟨c1, c2, rfl, ⟨rfl, h1⟩, u, rfl, h2⟩, hc⟩ := h.at_ hi
  have q0 := hc 0 _ rfl
  have q1 := hc 1 _ rfl
  simp only [Rep.n, Nat.add_zero, Nat.reduceAdd] at q0 q1
  rw [addField] at q1
  exact ⟨ad, u, rfl, q0, q1, h2⟩
end Go.Proofs.Ytbnjhpknagkiaaa
