/-
  Contract of posting.Find; plain law of finding.
  Conditions: at most 20,000 bytes.
-/
import Derived.Test.YtccmhjlniljhcaaRb
import Derived.Test.YtccmhjlniljhcaaQq
namespace Go.Proofs.Ytccmhjlniljhcaa
open Go.RowKit

theorem ris_rise : ∀ (l : List Post) (last b : Int), ris last b (l.map (·.1)) = true → Rise l
  | [], _, _, _ => fun i j hi _ _ => absurd hi (by simp)
  | p :: l, last, b, h => by
    rw [List.map_cons] at h
    obtain ⟨h1, h2, h3⟩ := ris_cons.1 h
    intro i j hi hj hij
    cases j with
    | zero => omega
    | succ j =>
      cases i with
      | zero => exact (ris_bounds _ _ _ h3 _ (List.mem_map_of_mem (List.getElem_mem (Nat.lt_of_succ_lt_succ hj)))).1
      | succ i => exact ris_rise l _ _ h3 i j (Nat.lt_of_succ_lt_succ hi) (Nat.lt_of_succ_lt_succ hj) (by omega)
theorem ok_rise {l : List Post} (h : psOk l = true) : Rise l := ris_rise l _ _ (psOk_spec h).1
theorem fnd_none {doc : Int} : ∀ {l : List Post}, (∀ j (h : j < l.length), (l[j]).1 ≠ doc) → fnd doc l = none
  | [], _ => rfl
  | p :: l, h => by
    have h0 : p.1 ≠ doc := h 0 (by simp)
    unfold fnd
    rw [if_neg h0]
    exact fnd_none fun j hj => h (j + 1) (by simp; omega)
theorem fnd_at {doc : Int} : ∀ {l : List Post} (i : Nat) (h : i < l.length), Rise l → (l[i]).1 = doc → fnd doc l = some (l[i]).2
  | p :: l, 0, h, _, he => if_pos he
  | p :: l, i + 1, h, hr, he => by
    have h0 := hr 0 (i + 1) (by simp) h (by omega)
    have hne : p.1 ≠ doc := by
      rw [he] at h0
      exact fun e => by
        have : ((p :: l)[0]).1 = p.1 := rfl
        omega
    unfold fnd
    rw [if_neg hne]
    exact fnd_at i (by simpa using h) (fun a b ha hb hab => hr (a + 1) (b + 1) (by simp; omega) (by simp; omega) (by omega)) he

/-- what Find answers -/
def FindIs (w' : World) (bs : List UInt8) (doc : Int) (e : Ending) : Prop := ∃ (u : Value) (l : List Post) (E : Nat), e = .returned (.tuple #[u, .bool (fnd doc l).isSome, .int .i64 E]) ∧ DecIs bs l E ∧ SL w' (Bw w') u ((fnd doc l).getD [])
set_option maxHeartbeats 1600000 in
theorem find_any (w : World) (v : Value) (bs : List UInt8) (doc : Int) (hv : BS w w.heap.size v bs) (hl : bs.length ≤ 20000) :
    Calls Try.prog 26 #[v, .int .i64 doc] w fun e w' => FindIs w' bs doc e ∧ Ext w w' := by
  have Hv := Lib.hid hv
  clear hv
  go_enter Try.func26, Try.ntmps26
  go_wp2_with fail
  refine (decode_any w v bs Hv.out hl).mono ?_
  rintro e w1 ⟨u, l, E, rfl, hu, hd, hx⟩
  obtain ⟨A, c, rfl, hc, hm⟩ := hu.form
  have Hx := Lib.hid hx
  have Hu := Lib.hid hu
  have Hd := Lib.hid hd
  clear hx hu
  rcases hd with ⟨rfl, hok, hpe⟩ | ⟨rfl, rfl, _⟩
  · have hw := (penc_len l).1
    rw [hpe] at hw
    have hll : l.length ≤ 1000000 := by have := wt_len l; omega
    have Hr := Lib.hid (ok_rise hok)
    clear hok hpe hw
    go_wp2_with fail
    refine (bs_any w1 _ l doc Hu.out hll Hr.out).mono ?_
    rintro e w2 ⟨hb, hx⟩
    obtain ⟨i, b, rfl, h1, h2⟩ := hb
    have Hx2 := Lib.hid (Ext.trans Hx.out hx)
    have Hu2 := Lib.hid (SL.up Hu.out hx)
    clear hx
    cases b with
    | true =>
      obtain ⟨hi, he⟩ := h1 rfl
      obtain ⟨ad, up, rfl, _, hc0, hc1, hup, h6⟩ := Hu2.out.post_at hi
      obtain ⟨Ap, cp, rfl, _, _⟩ := hup.form
      have hf := fnd_at i hi Hr.out he
      have Hf := Lib.hid hf
      have Hup := Lib.hid hup
      have hii : (i : Int) < l.length := by omega
      clear h1 h2 hup hf he
      generalize (l[i]).2 = PS at hc1 Hf Hup
      go_wp2
      go_ret3
      refine ⟨⟨.slice Ap PS.length cp, l, 0, ?_, Hd.out, ?_⟩, Hx2.out⟩
      · rw [Hf.out]; rfl
      · rw [Hf.out]; exact Hup.out
    | false =>
      have hf := fnd_none (h2 rfl)
      have Hf := Lib.hid hf
      clear h1 h2 hf
      go_wp2
      go_ret3
      refine ⟨⟨.slice none 0 0, l, 0, ?_, Hd.out, ?_⟩, Hx2.out⟩
      · rw [Hf.out]; rfl
      · rw [Hf.out]; exact SL.nil_ _ _
  · go_wp2
    go_ret3
    exact ⟨⟨_, [], 80, rfl, Hd.out, SL.nil_ _ _⟩, Hx.out⟩

end Go.Proofs.Ytccmhjlniljhcaa
