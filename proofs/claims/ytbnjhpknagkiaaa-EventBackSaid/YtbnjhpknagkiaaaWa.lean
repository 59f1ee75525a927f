/-
  Docs and batches: words; contracts of event.CheckBatch and the reference's CheckBatch.
  Conditions: none.
-/
import Derived.Test.YtbnjhpknagkiaaaUp
namespace Go.Proofs.Ytbnjhpknagkiaaa
open Go.RowKit Go.Op

/-- a doc: a number, an event -/
abbrev Doc := Int × Ev
/-- a batch: a number, events -/
abbrev Bat := Int × List Ev
/-- the first event that may not be -/
def evsE : List Ev → Nat
  | [] => 0
  | e :: l => if evE e = 0 then evsE l else evE e
def evsz : List Ev → Nat
  | [] => 0
  | e :: l => 16 + fszs e.2 + evsz l
def batE (b : Bat) : Nat :=
  if b.2.length = 0 then 1 else if 64 < b.2.length then 3 else if evsE b.2 ≠ 0 then evsE b.2 else if 65536 < evsz b.2 then 2
  else if b.1 < 1 ∨ (1099511627776 : Int) - b.2.length + 1 < b.1 then 5 else 0
theorem evsE_at {l : List Ev} {k : Nat} (hk : k < l.length) : evsE (l.drop k) = if evE l[k] = 0 then evsE (l.drop (k + 1)) else evE l[k] := by
  rw [List.drop_eq_getElem_cons hk]
  rfl
theorem evsz_take {l : List Ev} {k : Nat} (hk : k < l.length) : evsz (l.take (k + 1)) = evsz (l.take k) + (16 + fszs (l[k]).2) := by
  induction l generalizing k with
  | nil => simp at hk
  | cons x l ih =>
    cases k with
    | zero => simp [evsz]
    | succ k =>
      have := ih (k := k) (by simpa using hk)
      simp only [List.take_succ_cons, evsz, List.getElem_cons_succ] at this ⊢
      omega
theorem evE_sz {e : Ev} (h : evE e = 0) : fszs e.2 ≤ 70000 := by
  obtain ⟨h1, h2⟩ := evE_spec h
  have := fszs_le (l := e.2) fun f hf => by
    obtain ⟨_, h3, h4⟩ := fldE_spec (fldsE_spec h2 f hf)
    exact ⟨by omega, h4⟩
  omega
theorem evsE_spec : ∀ {l : List Ev}, evsE l = 0 → ∀ e ∈ l, evE e = 0
  | [], _, _, h => by cases h
  | a :: l, h, f, hf => by
    unfold evsE at h
    split at h
    · rename_i h1
      rcases List.mem_cons.1 hf with rfl | hf
      · exact h1
      · exact evsE_spec h f hf
    · rename_i h1
      exact absurd h h1
theorem batE_none {b : Bat} (h : b.2.length = 0) : batE b = 1 := if_pos h
theorem batE_many {b : Bat} (h : 64 < b.2.length) : batE b = 3 := by unfold batE; rw [if_neg (by omega), if_pos h]
theorem batE_ev {b : Bat} (h : b.2.length ≠ 0) (h2 : b.2.length ≤ 64) (h3 : evsE b.2 ≠ 0) : batE b = evsE b.2 := by unfold batE; rw [if_neg h, if_neg (by omega), if_pos h3]
theorem batE_long {b : Bat} (h : b.2.length ≠ 0) (h2 : b.2.length ≤ 64) (h3 : evsE b.2 = 0) (h4 : 65536 < evsz b.2) : batE b = 2 := by unfold batE; rw [if_neg h, if_neg (by omega), if_neg (by simp [h3]), if_pos h4]
theorem batE_range {b : Bat} (h : b.2.length ≠ 0) (h2 : b.2.length ≤ 64) (h3 : evsE b.2 = 0) (h4 : ¬65536 < evsz b.2) (h5 : b.1 < 1 ∨ (1099511627776 : Int) - b.2.length + 1 < b.1) : batE b = 5 := by
  unfold batE; rw [if_neg h, if_neg (by omega), if_neg (by simp [h3]), if_neg h4, if_pos h5]
theorem batE_ok {b : Bat} (h : b.2.length ≠ 0) (h2 : b.2.length ≤ 64) (h3 : evsE b.2 = 0) (h4 : ¬65536 < evsz b.2) (h5 : ¬(b.1 < 1 ∨ (1099511627776 : Int) - b.2.length + 1 < b.1)) : batE b = 0 := by
  unfold batE; rw [if_neg h, if_neg (by omega), if_neg (by simp [h3]), if_neg h4, if_neg h5]
theorem evE_ne (e : Ev) : evE e = 0 ∨ evE e = 2 ∨ evE e = 3 ∨ evE e = 100 := by
  unfold evE
  split
  · exact .inr (.inr (.inl rfl))
  · generalize e.2 = l
    induction l with
    | nil => exact .inl rfl
    | cons f l ih =>
      unfold fldsE
      split
      · exact ih
      · unfold fldE
        split
        · exact .inr (.inr (.inr rfl))
        · split
          · exact .inr (.inl rfl)
          · exact .inl rfl
theorem evsE_ne : ∀ l : List Ev, evsE l = 0 ∨ evsE l = 2 ∨ evsE l = 3 ∨ evsE l = 100
  | [] => .inl rfl
  | e :: l => by
    unfold evsE
    split
    · exact evsE_ne l
    · exact evE_ne e
theorem batE_spec {b : Bat} (h : batE b = 0) : b.2.length ≠ 0 ∧ b.2.length ≤ 64 ∧ (∀ e ∈ b.2, evE e = 0) ∧ 1 ≤ b.1 ∧ b.1 ≤ (1099511627776 : Int) - b.2.length + 1 := by
  unfold batE at h
  split at h
  · cases h
  · rename_i h1
    split at h
    · cases h
    · split at h
      · rename_i h3
        exact absurd h h3
      · rename_i h3
        split at h
        · cases h
        · split at h
          · cases h
          · rename_i h5
            exact ⟨h1, by omega, evsE_spec (by simpa using h3), by omega, by omega⟩

theorem w64_sum (a b : Nat) (h : a ≤ 10000000) (h2 : b ≤ 70000) : wrap64 ((a : Int) + (16 + (b : Int))) = ((a + (16 + b) : Nat) : Int) := by
  unfold wrap64; omega

section
variable {w : World} {S : Nat → Prop} {A : Option Addr} {c n : Nat}
theorem addField2 (x : Addr) (n : Nat) : x.add (n + 2) = ⟨(x.add n).block, (x.add n).off + 2, none⟩ := by
  unfold Addr.add
  by_cases h : n = 0
  · simp [h]
  · simp [h, Nat.add_assoc]
/-- a doc, where it lies -/
theorem SL.doc_at {l : List Doc} (h : SL w S (.slice A n c) l) {i : Nat} (hi : i < l.length) : ∃ ad u, A = some ad ∧ S ad.block ∧ w.cell? (ad.add (i * 3)) = some (.int .i64 (l[i]).1) ∧
    w.cell? ⟨(ad.add (i * 3)).block, (ad.add (i * 3)).off + 1, none⟩ = some (.int .i64 (l[i]).2.1) ∧ w.cell? ⟨(ad.add (i * 3)).block, (ad.add (i * 3)).off + 2, none⟩ = some u ∧ SL w S u (l[i]).2.2 ∧ I6 (l[i]).1 ∧ I6 (l[i]).2.1 := by
  obtain ⟨ad, cs, rfl, hS, ⟨c1, c2, rfl, ⟨rfl, h1⟩, d1, d2, rfl, ⟨rfl, h2⟩, u, rfl, hu⟩, hc⟩ := h.at_ hi
  have q0 := hc 0 _ rfl
  have q1 := hc 1 _ rfl
  have q2 := hc 2 _ rfl
  simp only [Rep.n, Nat.add_zero, Nat.reduceAdd] at q0 q1 q2
  rw [addField] at q1
  rw [addField2] at q2
  exact ⟨ad, u, rfl, hS, q0, q1, q2, hu, h1, h2⟩
/-- an event, where it lies -/
theorem SL.ev_at {l : List Ev} (h : SL w S (.slice A n c) l) {i : Nat} (hi : i < l.length) : ∃ ad u, A = some ad ∧ S ad.block ∧ w.cell? (ad.add (i * 2)) = some (.int .i64 (l[i]).1) ∧
    w.cell? ⟨(ad.add (i * 2)).block, (ad.add (i * 2)).off + 1, none⟩ = some u ∧ SL w S u (l[i]).2 ∧ I6 (l[i]).1 := by
  obtain ⟨ad, cs, rfl, hS, ⟨c1, c2, rfl, ⟨rfl, h1⟩, u, rfl, hu⟩, hc⟩ := h.at_ hi
  have q0 := hc 0 _ rfl
  have q1 := hc 1 _ rfl
  simp only [Rep.n, Nat.add_zero, Nat.reduceAdd] at q0 q1
  rw [addField] at q1
  exact ⟨ad, u, rfl, hS, q0, q1, hu, h1⟩
theorem rep_doc {a b : Int} {u : Value} {fs : List Fld} (h1 : I6 a) (h2 : I6 b) (hu : SL w S u fs) : Rep.r w S [.int .i64 a, .int .i64 b, u] ((a, b, fs) : Doc) :=
  ⟨[.int .i64 a], [.int .i64 b, u], rfl, ⟨rfl, h1⟩, [.int .i64 b], [u], rfl, ⟨rfl, h2⟩, u, rfl, hu⟩
theorem rep_ev {b : Int} {u : Value} {fs : List Fld} (h2 : I6 b) (hu : SL w S u fs) : Rep.r w S [.int .i64 b, u] ((b, fs) : Ev) :=
  ⟨[.int .i64 b], [u], rfl, ⟨rfl, h2⟩, u, rfl, hu⟩
end
theorem info_doc : (Try.prog.info? 93).map (fun i => (i.zero, i.size, i.bytes)) = some (some (.agg #[.int .i64 0, .int .i64 0, .slice none 0 0]), 3, 40) := by kernel_rfl
theorem info_ev : (Try.prog.info? 40).map (fun i => (i.zero, i.size, i.bytes)) = some (some (.agg #[.int .i64 0, .slice none 0 0]), 2, 32) := by kernel_rfl
theorem doc_eq (s t : Int) (e f : Ev) : decide (((s, e) : Doc) = (t, f)) = (s == t && decide (e = f)) := by
  by_cases h1 : s = t <;> by_cases h2 : e = f <;> simp [h1, h2]

set_option maxHeartbeats 3200000 in
set_option maxRecDepth 100000 in
theorem cbatch_any (w : World) (s : Int) (v : Value) (l : List Ev) (hv : SL w (Bw w) v l) (_hs : I6 s) :
    Calls Try.prog 33 #[.agg #[.int .i64 s, v]] w fun e w' => e = .returned (.int .i64 (batE (s, l) : Nat)) ∧ Ext w w' := by
  obtain ⟨A, c, rfl, hc, hm⟩ := hv.form
  have Hx0 : Hid (Ext w (w.alloc (.cells #[.int .i64 s, .slice A l.length c] 24))) := Lib.hid (Ext.of_alloc _ _)
  have hS : ∀ W, Ext (w.alloc (.cells #[.int .i64 s, .slice A l.length c] 24)) W → W.cell? ⟨w.heap.size, 0, none⟩ = some (.int .i64 s) ∧ W.cell? ⟨w.heap.size, 1, none⟩ = some (.slice A l.length c) := fun W h =>
    ⟨Ext.keeps h (cell_new w #[.int .i64 s, .slice A l.length c] 24 0 (v := .int .i64 s) rfl), Ext.keeps h (cell_new w #[.int .i64 s, .slice A l.length c] 24 1 (v := .slice A l.length c) rfl)⟩
  have HS := Lib.hid hS
  have Hv := Lib.hid (hv.up Hx0.out)
  clear hv hS
  by_cases h0 : l.length = 0
  · have He := Lib.hid (batE_none (b := (s, l)) h0)
    have h0i : ((l.length : Int) == 0) = true := by simp [h0]
    clear h0
    go_enter Try.func33, Try.ntmps33
    go_wp2
    go_ret
    exact ⟨by rw [He.out]; rfl, Hx0.out⟩
  have h0i : ((l.length : Int) == 0) = false := by simpa using h0
  have hne := Lib.hid h0
  clear h0
  by_cases h64 : 64 < l.length
  · have He := Lib.hid (batE_many (b := (s, l)) h64)
    have h64i : (64 : Int) < l.length := by omega
    clear h64
    go_enter Try.func33, Try.ntmps33
    go_wp2
    go_ret
    exact ⟨by rw [He.out]; rfl, Hx0.out⟩
  have h64i : ¬(64 : Int) < l.length := by omega
  have hle : l.length ≤ 64 := by omega
  have HeE := Lib.hid (batE_ev (b := (s, l)) hne.out hle)
  have HeL := Lib.hid (batE_long (b := (s, l)) hne.out hle)
  have HeR := Lib.hid (batE_range (b := (s, l)) hne.out hle)
  have HeO := Lib.hid (batE_ok (b := (s, l)) hne.out hle)
  clear h64
  go_enter Try.func33, Try.ntmps33
  go_wp2_with fail
  go_loopw [4, 20] (fun n i wr => ∃ k N : Nat, i = .int .i64 k ∧ k ≤ l.length ∧ n = .int .i64 N ∧ N ≤ 100000 * k ∧ evsz (l.take k) = N ∧ evsE l = evsE (l.drop k) ∧ Ext (w.alloc (.cells #[.int .i64 s, .slice A l.length c] 24)) wr) (fun _ i _ => l.length - (intOf i).toNat)
  case atStart => exact ⟨0, 0, rfl, Nat.zero_le _, rfl, Nat.zero_le _, rfl, rfl, Below.refl _ _⟩
  case round =>
    obtain ⟨k, N, rfl, hk, rfl, hN, hsz, hE, hx⟩ := hrel
    have Hx := Lib.hid hx
    by_cases hlt : k < l.length
    · have hklt : (k : Int) < l.length := by omega
      obtain ⟨ad, u, rfl, _, d0, d1, hu, h6⟩ := (Hv.out.up hx).ev_at hlt
      rw [evsE_at hlt] at hE
      have hsn := evsz_take hlt
      generalize l[k] = E at d0 d1 hu h6 hE hsn
      obtain ⟨a, fs⟩ := E
      dsimp only at d0 d1 hu h6 hsn
      obtain ⟨Au, cu, rfl, _⟩ := hu.form
      rw [hsz] at hsn
      have Hsn := Lib.hid hsn
      have HE := Lib.hid hE
      have Hxa := Lib.hid (Ext.of_alloc wr (.cells #[.int .i64 a, .slice Au fs.length cu] 40))
      have Hu := Lib.hid (hu.up Hxa.out)
      have Q0 := Lib.hid (cell_new wr #[.int .i64 a, .slice Au fs.length cu] 40 0 (v := .int .i64 a) rfl)
      have Q1 := Lib.hid (cell_new wr #[.int .i64 a, .slice Au fs.length cu] 40 1 (v := .slice Au fs.length cu) rfl)
      clear hu h6 hE hsn hsz hx
      go_wp2_with fail
      refine (check_any _ a _ fs Hu.out).mono ?_
      rintro e w1 ⟨rfl, hx1⟩
      have q0 := Ext.keeps hx1 Q0.out
      have q1 := Ext.keeps hx1 Q1.out
      have Hu1 := Lib.hid (Hu.out.up hx1)
      have HX := Lib.hid (Ext.trans Hx.out (Ext.trans Hxa.out hx1))
      clear hx1 d0 d1
      by_cases hev : evE (a, fs) = 0
      · have hE := HE.out
        rw [if_pos hev] at hE
        have HE2 := Lib.hid hE
        have hsz := evE_sz hev
        have hszv := szV_ok (l := fs) (by dsimp only at hsz; omega)
        dsimp only at hsz
        rw [hev]
        clear hE
        go_wp2_with fail
        refine (size_any w1 a _ fs Hu1.out).mono ?_
        rintro e w2 ⟨rfl, hx2⟩
        rw [hszv]
        have HX2 := Lib.hid (Ext.trans HX.out hx2)
        have Hszn := Lib.hid hsz
        have Hw := Lib.hid (w64_sum N (fszs fs) (by omega) hsz)
        generalize fszs fs = Z at Hw Hsn Hszn
        clear hx2 q0 q1 hszv hev hsz
        go_wp2
        refine ⟨⟨k + 1, N + (16 + Z), by go_num, by omega, ?_, by have := Hszn.out; omega, Hsn.out, HE2.out, HX2.out⟩, by simp only [intOf]; omega⟩
        exact congrArg (Value.int .i64) Hw.out
      · have hE := HE.out
        rw [if_neg hev] at hE
        have He := HeE.out (by rw [hE]; exact hev)
        rw [hE] at He
        have He2 := Lib.hid He
        have hE' : ((evE (a, fs) : Int) != 0) = true := by rw [bne_iff_ne]; omega
        generalize evE (a, fs) = E at hE' He2
        clear hE He hev HE
        go_wp2
        go_ret
        exact ⟨by rw [He2.out]; rfl, Ext.trans Hx0.out HX.out⟩
    · have hklt : ¬(k : Int) < l.length := by omega
      rw [List.drop_of_length_le (by omega)] at hE
      rw [List.take_of_length_le (by omega)] at hsz
      obtain ⟨b0, b1⟩ := HS.out _ hx
      have HX := Lib.hid (Ext.trans Hx0.out hx)
      clear hx
      have hL := HeL.out hE
      have hR := HeR.out hE
      have hO := HeO.out hE
      rw [hsz] at hL hR hO
      have HL := Lib.hid hL
      have HR := Lib.hid hR
      have HO := Lib.hid hO
      clear hE hsz hL hR hO
      by_cases h6 : 65536 < N
      · have h6i : (65536 : Int) < N := by omega
        have He := Lib.hid (HL.out h6)
        clear HL HR HO
        go_wp2
        go_ret
        exact ⟨by rw [He.out]; rfl, HX.out⟩
      have h6i : ¬(65536 : Int) < N := by omega
      by_cases h7 : s < 1
      · have He := Lib.hid (HR.out h6 (.inl h7))
        have h7i : decide (s < 1) = true := decide_eq_true h7
        clear HL HR HO h6
        go_wp2
        go_ret
        exact ⟨by rw [He.out]; rfl, HX.out⟩
      have h7i : decide (s < 1) = false := decide_eq_false h7
      by_cases h8 : (1099511627776 : Int) - l.length + 1 < s
      · have He := Lib.hid (HR.out h6 (.inr h8))
        have h8i : decide ((1099511627776 : Int) - l.length + 1 < s) = true := decide_eq_true h8
        clear HL HR HO h6 h7
        go_wp2
        go_ret
        exact ⟨by rw [He.out]; rfl, HX.out⟩
      have h8i : decide ((1099511627776 : Int) - l.length + 1 < s) = false := decide_eq_false h8
      have He := Lib.hid (HO.out h6 (by rintro (h | h) <;> omega))
      clear HL HR HO h6 h7 h8
      go_wp2
      go_ret
      exact ⟨by rw [He.out]; rfl, HX.out⟩
set_option maxHeartbeats 3200000 in
set_option maxRecDepth 100000 in
theorem rcbatch_any (w : World) (s : Int) (v : Value) (l : List Ev) (hv : SL w (Bw w) v l) (_hs : I6 s) :
    Calls Try.prog 34 #[.agg #[.int .i64 s, v]] w fun e w' => e = .returned (.int .i64 (batE (s, l) : Nat)) ∧ Ext w w' := by
  obtain ⟨A, c, rfl, hc, hm⟩ := hv.form
  have Hx0 : Hid (Ext w (w.alloc (.cells #[.int .i64 s, .slice A l.length c] 24))) := Lib.hid (Ext.of_alloc _ _)
  have hS : ∀ W, Ext (w.alloc (.cells #[.int .i64 s, .slice A l.length c] 24)) W → W.cell? ⟨w.heap.size, 0, none⟩ = some (.int .i64 s) ∧ W.cell? ⟨w.heap.size, 1, none⟩ = some (.slice A l.length c) := fun W h =>
    ⟨Ext.keeps h (cell_new w #[.int .i64 s, .slice A l.length c] 24 0 (v := .int .i64 s) rfl), Ext.keeps h (cell_new w #[.int .i64 s, .slice A l.length c] 24 1 (v := .slice A l.length c) rfl)⟩
  have HS := Lib.hid hS
  have Hv := Lib.hid (hv.up Hx0.out)
  clear hv hS
  by_cases h0 : l.length = 0
  · have He := Lib.hid (batE_none (b := (s, l)) h0)
    have h0i : ((l.length : Int) == 0) = true := by simp [h0]
    clear h0
    go_enter Try.func34, Try.ntmps34
    go_wp2
    go_ret
    exact ⟨by rw [He.out]; rfl, Hx0.out⟩
  have h0i : ((l.length : Int) == 0) = false := by simpa using h0
  have hne := Lib.hid h0
  clear h0
  by_cases h64 : 64 < l.length
  · have He := Lib.hid (batE_many (b := (s, l)) h64)
    have h64i : (64 : Int) < l.length := by omega
    clear h64
    go_enter Try.func34, Try.ntmps34
    go_wp2
    go_ret
    exact ⟨by rw [He.out]; rfl, Hx0.out⟩
  have h64i : ¬(64 : Int) < l.length := by omega
  have hle : l.length ≤ 64 := by omega
  have HeE := Lib.hid (batE_ev (b := (s, l)) hne.out hle)
  have HeL := Lib.hid (batE_long (b := (s, l)) hne.out hle)
  have HeR := Lib.hid (batE_range (b := (s, l)) hne.out hle)
  have HeO := Lib.hid (batE_ok (b := (s, l)) hne.out hle)
  clear h64
  go_enter Try.func34, Try.ntmps34
  go_wp2_with fail
  go_loopw [3, 4] (fun n i wr => ∃ k N : Nat, i = .int .i64 k ∧ k ≤ l.length ∧ n = .int .i64 N ∧ N ≤ 100000 * k ∧ evsz (l.take k) = N ∧ evsE l = evsE (l.drop k) ∧ Ext (w.alloc (.cells #[.int .i64 s, .slice A l.length c] 24)) wr) (fun _ i _ => l.length - (intOf i).toNat)
  case atStart => exact ⟨0, 0, rfl, Nat.zero_le _, rfl, Nat.zero_le _, rfl, rfl, Below.refl _ _⟩
  case round =>
    obtain ⟨k, N, rfl, hk, rfl, hN, hsz, hE, hx⟩ := hrel
    have Hx := Lib.hid hx
    by_cases hlt : k < l.length
    · have hklt : (k : Int) < l.length := by omega
      obtain ⟨ad, u, rfl, _, d0, d1, hu, h6⟩ := (Hv.out.up hx).ev_at hlt
      rw [evsE_at hlt] at hE
      have hsn := evsz_take hlt
      generalize l[k] = E at d0 d1 hu h6 hE hsn
      obtain ⟨a, fs⟩ := E
      dsimp only at d0 d1 hu h6 hsn
      obtain ⟨Au, cu, rfl, _⟩ := hu.form
      rw [hsz] at hsn
      have Hsn := Lib.hid hsn
      have HE := Lib.hid hE
      have Hu := Lib.hid hu
      have Q0 := Lib.hid d0
      have Q1 := Lib.hid d1
      obtain ⟨b0, b1⟩ := HS.out _ hx
      clear hu h6 hE hsn hsz hx
      go_wp2_with fail
      refine (rcheck_any _ a _ fs Hu.out).mono ?_
      rintro e w1 ⟨rfl, hx1⟩
      have q0 := Ext.keeps hx1 Q0.out
      have q1 := Ext.keeps hx1 Q1.out
      have Hu1 := Lib.hid (Hu.out.up hx1)
      have hX := Ext.trans Hx.out hx1
      have HX := Lib.hid (Ext.trans Hx0.out hX)
      have HXi := Lib.hid hX
      clear hx1 d0 d1 b0 b1
      obtain ⟨b0, b1⟩ := HS.out _ hX
      clear hX
      by_cases hev : evE (a, fs) = 0
      · have hE := HE.out
        rw [if_pos hev] at hE
        have HE2 := Lib.hid hE
        have hsz := evE_sz hev
        have hszv := szV_ok (l := fs) (by dsimp only at hsz; omega)
        dsimp only at hsz
        rw [hev]
        clear hE
        go_wp2_with fail
        refine (rsize_any w1 a _ fs Hu1.out).mono ?_
        rintro e w2 ⟨rfl, hx2⟩
        rw [hszv]
        have HX2 := Lib.hid (Ext.trans HXi.out hx2)
        have Hszn := Lib.hid hsz
        have Hw := Lib.hid (w64_sum N (fszs fs) (by omega) hsz)
        generalize fszs fs = Z at Hw Hsn Hszn
        clear hx2 q0 q1 b0 b1 hszv hev hsz
        go_wp2
        refine ⟨⟨k + 1, N + (16 + Z), by go_num, by omega, ?_, by have := Hszn.out; omega, Hsn.out, HE2.out, HX2.out⟩, by simp only [intOf]; omega⟩
        exact congrArg (Value.int .i64) Hw.out
      · have hE := HE.out
        rw [if_neg hev] at hE
        have He := HeE.out (by rw [hE]; exact hev)
        rw [hE] at He
        have He2 := Lib.hid He
        have hE' : ((evE (a, fs) : Int) != 0) = true := by rw [bne_iff_ne]; omega
        generalize evE (a, fs) = E at hE' He2
        clear hE He hev HE
        go_wp2
        go_ret
        exact ⟨by rw [He2.out]; rfl, HX.out⟩
    · have hklt : ¬(k : Int) < l.length := by omega
      rw [List.drop_of_length_le (by omega)] at hE
      rw [List.take_of_length_le (by omega)] at hsz
      obtain ⟨b0, b1⟩ := HS.out _ hx
      have HX := Lib.hid (Ext.trans Hx0.out hx)
      clear hx
      have hL := HeL.out hE
      have hR := HeR.out hE
      have hO := HeO.out hE
      rw [hsz] at hL hR hO
      have HL := Lib.hid hL
      have HR := Lib.hid hR
      have HO := Lib.hid hO
      clear hE hsz hL hR hO
      by_cases h6 : 65536 < N
      · have h6i : (65536 : Int) < N := by omega
        have He := Lib.hid (HL.out h6)
        clear HL HR HO
        go_wp2
        go_ret
        exact ⟨by rw [He.out]; rfl, HX.out⟩
      have h6i : ¬(65536 : Int) < N := by omega
      by_cases h7 : s < 1
      · have He := Lib.hid (HR.out h6 (.inl h7))
        have h7i : decide (s < 1) = true := decide_eq_true h7
        clear HL HR HO h6
        go_wp2
        go_ret
        exact ⟨by rw [He.out]; rfl, HX.out⟩
      have h7i : decide (s < 1) = false := decide_eq_false h7
      by_cases h8 : (1099511627776 : Int) - l.length + 1 < s
      · have He := Lib.hid (HR.out h6 (.inr h8))
        have h8i : decide ((1099511627776 : Int) - (l.length - 1) < s) = true := decide_eq_true (by omega)
        clear HL HR HO h6 h7
        go_wp2
        go_ret
        exact ⟨by rw [He.out]; rfl, HX.out⟩
      have h8i : decide ((1099511627776 : Int) - (l.length - 1) < s) = false := decide_eq_false (by omega)
      have He := Lib.hid (HO.out h6 (by rintro (h | h) <;> omega))
      clear HL HR HO h6 h7 h8
      go_wp2
      go_ret
      exact ⟨by rw [He.out]; rfl, HX.out⟩
end Go.Proofs.Ytbnjhpknagkiaaa
