/-
  Plain law of docs at places; a doc as a value; contract of slices.Clone over fields.
  Conditions: at most 1,000,000 fields.
-/
import Derived.Test.YtnajmpkdeenkbaaEs
import Derived.Test.YtnajmpkdeenkbaaEf
namespace Go.Proofs.Ytnajmpkdeenkbaa
open Go.RowKit Go.Op

/-- no doc -/
def zD : Doc := (0, 0, [])
/-- the doc at a place -/
def atR (m : List Doc) (p : Int) : Option Doc := if 0 ≤ p then m[p.toNat]? else none
def someR (m : List Doc) : List Int → Option (List Doc)
  | [] => some []
  | p :: ps => match atR m p with
    | none => none
    | some d => (someR m ps).map (d :: ·)
def fndR (m : List Doc) (s : Int) : Option Doc := m.find? (fun d => d.1 == s)
def okE (b : Bool) : Nat := if b = true then 0 else 5
theorem atR_in {m : List Doc} {k : Nat} (h : k < m.length) : atR m k = some m[k] := by
  unfold atR
  rw [if_pos (by omega)]
  simp [h]
theorem atR_out {m : List Doc} {p : Int} (h : p < 0 ∨ (m.length : Int) ≤ p) : atR m p = none := by
  unfold atR
  split
  · rw [List.getElem?_eq_none (by omega)]
  · rfl
theorem someR_append (m : List Doc) : ∀ (ps : List Int) {L : List Doc} (p : Int) {d : Doc}, someR m ps = some L → atR m p = some d → someR m (ps ++ [p]) = some (L ++ [d])
  | [], L, p, d, h, hd => by
    simp only [someR, Option.some.injEq] at h
    subst h
    simp [someR, hd]
  | q :: ps, L, p, d, h, hd => by
    simp only [someR, List.cons_append] at h ⊢
    cases hq : atR m q with
    | none => rw [hq] at h; cases h
    | some x =>
      rw [hq] at h
      simp only at h ⊢
      cases hs : someR m ps with
      | none => rw [hs] at h; cases h
      | some M =>
        rw [hs] at h
        simp only [Option.map_some, Option.some.injEq] at h
        subst h
        rw [someR_append m ps p hs hd]
        rfl
theorem someR_bad (m : List Doc) : ∀ (ps : List Int) (p : Int), p ∈ ps → atR m p = none → someR m ps = none
  | q :: ps, p, h, hd => by
    rcases List.mem_cons.1 h with rfl | h
    · simp only [someR, hd]
    · simp only [someR, someR_bad m ps p h hd]
      split <;> rfl
theorem fndR_none {m : List Doc} {s : Int} (h : ∀ j (hj : j < m.length), (m[j]).1 ≠ s) : fndR m s = none := by
  unfold fndR
  rw [List.find?_eq_none]
  intro d hd
  obtain ⟨j, hj, rfl⟩ := List.getElem_of_mem hd
  simpa using h j hj
theorem fndR_at {m : List Doc} {s : Int} {k : Nat} (hk : k < m.length) (he : (m[k]).1 = s) (h : ∀ j (hj : j < m.length), j < k → (m[j]).1 ≠ s) : fndR m s = some m[k] := by
  unfold fndR
  rw [List.find?_eq_some_iff_getElem]
  exact ⟨by simpa using he, k, hk, rfl, fun j hj => by simpa using h j (by omega) hj⟩
/-- a doc as a value -/
def DocV (w : World) (S : Nat → Prop) (v : Value) (d : Doc) : Prop := ∃ u, v = .agg #[.int .i64 d.1, .int .i64 d.2.1, u] ∧ SL w S u d.2.2 ∧ I6 d.1 ∧ I6 d.2.1
theorem DocV.up {w w' : World} {v : Value} {d : Doc} (h : DocV w (Bw w) v d) (hx : Ext w w') : DocV w' (Bw w') v d := by
  obtain ⟨u, e, h1, h2⟩ := h
  exact ⟨u, e, h1.up hx, h2⟩
theorem DocV.zero (w : World) (S : Nat → Prop) : DocV w S (.agg #[.int .i64 0, .int .i64 0, .slice none 0 0]) zD := ⟨_, rfl, SL.nil_ _ _, I6.mk (by decide), I6.mk (by decide)⟩
theorem SL.int_at {w : World} {S : Nat → Prop} {A : Option Addr} {c n : Nat} {l : List Int} (h : SL w S (.slice A n c) l) {i : Nat} (hi : i < l.length) : ∃ ad, A = some ad ∧ S ad.block ∧ w.cell? (ad.add i) = some (.int .i64 l[i]) ∧ I6 l[i] := by
  obtain ⟨ad, cs, rfl, hS, ⟨rfl, h6⟩, hc⟩ := h.at_ hi
  have := hc 0 _ rfl
  simp only [Rep.n, Nat.mul_one, Nat.add_zero] at this
  exact ⟨ad, rfl, hS, this, h6⟩
theorem SL.sv {α : Type} [Rep α] {w : World} {v : Value} {l : List α} (h : SL w (Bw w) v l) : ∃ xs, SV w w.heap.size (Rep.n α) v l.length xs ∧ Reps w (Bw w) xs l := by
  obtain ⟨A, c, xs, e, h1, h2, h3, h4, h5⟩ := h
  exact ⟨xs, ⟨A, c, e, h1, h2, h3, h4.rd⟩, h5⟩
/-- a new row of no element, of no room -/
theorem OwnL.empty_ {α : Type} [Rep α] (w : World) (e t : TypeId) (S : Nat → Prop) (he : e = t) : OwnL (α := α) (w.alloc (.cells #[] t)) w.heap.size e S (.slice (some ⟨w.heap.size, 0, none⟩) 0 0) [] := by
  subst he
  exact ⟨[], World.ownsRow_made w #[] 0 (by simp) (by simp [maxLen]) (by simp), rfl⟩
theorem reps_fldsW {w w' : World} {S S' : Nat → Prop} : ∀ {l : List Fld} {xs : List Value}, Reps w S xs l → Reps w' S' xs l
  | [], _, h => h
  | _ :: _, _, h => by
    obtain ⟨cs, rest, e, ⟨c1, c2, e2, h1, h2⟩, h3⟩ := h
    exact ⟨cs, rest, e, ⟨c1, c2, e2, h1, h2⟩, reps_fldsW h3⟩

set_option maxHeartbeats 400000 in
theorem clonef_any (w : World) (v : Value) (l : List Fld) (h : SL w (Bw w) v l) (hl : l.length ≤ 1000000) :
    Calls Try.prog 45 #[v] w fun e w' => ∃ v', e = .returned v' ∧ OwnL w' w.heap.size 80 (fun _ => False) v' l ∧ Ext w w' := by
  obtain ⟨xs, ⟨A, c, rfl, hc, hm, hnil, hr⟩, hreps⟩ := h.sv
  have hq := fun (W : World) => Lib.run_eql_slice_nil (P := Try.prog) W 41 80 A l.length c 0 0 Try.underlying41
  rcases A with _ | ad
  · have hb : l = [] := by
      rcases l with _ | ⟨b, bs⟩
      · rfl
      · obtain ⟨ad, h, _⟩ := hr.2 (by simp)
        cases h
    subst hb
    obtain rfl := hnil rfl
    have hq := fun (W : World) => Lib.run_eql_slice_nil (P := Try.prog) W 41 80 none 0 0 0 0 Try.underlying41
    show Calls Try.prog 45 #[.slice none 0 0] w _
    go_enter Try.func45, Try.ntmps45
    go_wp2
    go_ret
    exact ⟨_, rfl, OwnL.nil_ _ _ _ _, Below.refl _ _⟩
  · have Hsv := Lib.hid (SV.ext ⟨some ad, c, rfl, hc, hm, hnil, hr⟩ (Nat.le_refl _) (Ext.of_alloc w (.cells #[] 80)))
    have Hr := Lib.hid hreps
    clear h hr hreps hnil
    go_enter Try.func45, Try.ntmps45
    go_wp2_with (at_builtin; go_loud (refine wpList_append_l _ rfl (.tmp 5) (.tmp 6) 41 rfl w.heap.size 80 (fun _ => False) (.agg #[.string ⟨#[]⟩, .string ⟨#[]⟩]) 32 Try.underlying41 info_fld rfl (by decide) (.slice (some ⟨w.heap.size, 0, none⟩) 0 0) [] rfl (OwnL.empty_ w _ _ _ rfl) w.heap.size _ l xs rfl Hsv.out (reps_fldsW Hr.out) (by simp; omega) (by omega) (by simp) ?_; intro v1 w1 hown1 hg1 hat1))
    go_ret
    exact ⟨_, rfl, hown1, ((Below.refl _ _).alloc (Nat.le_refl _) _).grown hg1 (by simp) (by simp [Value.ownBlock])⟩
end Go.Proofs.Ytnajmpkdeenkbaa
