/-
  Contract of posting.Encode.
  Conditions: rows of at most 700,000 bytes, by their weight.
-/
import Derived.Test.YtccmhjlniljhcaaQd
namespace Go.Proofs.Ytccmhjlniljhcaa
open Go.RowKit
attribute [local go_sem] Oper.semAt_some

theorem plast_eq : ∀ (l : List Post) (last : Int), plast last l = ilast last (l.map (·.1))
  | [], _ => rfl
  | p :: l, _ => plast_eq l p.1
theorem blks_zero (last : Int) (l : List Post) : blks 0 last l = ([], []) := rfl
theorem blks_nil (n : Nat) (last : Int) : blks n last [] = ([], []) := by cases n <;> simp [blks]
theorem blks_next (n : Nat) (last : Int) {l : List Post} (h : l.length ≠ 0) : blks (n + 1) last l =
    (enc (plast last (l.take 32)).toNat ++ enc (psby last (l.take 32)).length ++ (blks n (plast last (l.take 32)) (l.drop 32)).1, psby last (l.take 32) ++ (blks n (plast last (l.take 32)) (l.drop 32)).2) := by
  simp only [blks]
  rw [if_neg h]
theorem blks_snoc : ∀ (n : Nat) (last : Int) (l : List Post), 32 * n < l.length →
    (blks (n + 1) last l).1 = (blks n last l).1 ++ (enc (plast last (l.take (32 * n + 32))).toNat ++ enc (psby (plast last (l.take (32 * n))) ((l.drop (32 * n)).take 32)).length) ∧
    (blks (n + 1) last l).2 = (blks n last l).2 ++ psby (plast last (l.take (32 * n))) ((l.drop (32 * n)).take 32)
  | 0, last, l, h => by
    rw [blks_next 0 last (by omega), blks_zero, blks_zero]
    simp [plast]
  | n + 1, last, l, h => by
    obtain ⟨i1, i2⟩ := blks_snoc n (plast last (l.take 32)) (l.drop 32) (by rw [List.length_drop]; omega)
    have e1 : ∀ m, plast (plast last (l.take 32)) ((l.drop 32).take m) = plast last (l.take (32 + m)) := fun m => by rw [← plast_append, ← List.take_add]
    have e2 : (l.drop 32).drop (32 * n) = l.drop (32 * (n + 1)) := by rw [List.drop_drop]; congr 1; omega
    rw [e1, e1, e2, show 32 + (32 * n + 32) = 32 * (n + 1) + 32 from by omega, show 32 + 32 * n = 32 * (n + 1) from by omega] at i1
    rw [e1, e2, show 32 + 32 * n = 32 * (n + 1) from by omega] at i2
    rw [blks_next (n + 1) last (l := l) (by omega), blks_next n last (l := l) (by omega)]
    simp only
    rw [i1, i2]
    simp only [List.append_assoc, and_self]
theorem blks_fuel : ∀ (n m : Nat) (last : Int) (l : List Post), l.length ≤ 32 * n → l.length ≤ 32 * m → blks n last l = blks m last l
  | 0, m, last, l, h, _ => by
    have : l = [] := List.eq_nil_of_length_eq_zero (by omega)
    rw [this, blks_nil, blks_nil]
  | n + 1, 0, last, l, _, h => by
    have : l = [] := List.eq_nil_of_length_eq_zero (by omega)
    rw [this, blks_nil, blks_nil]
  | n + 1, m + 1, last, l, h1, h2 => by
    by_cases h0 : l.length = 0
    · have : l = [] := List.eq_nil_of_length_eq_zero h0
      rw [this, blks_nil, blks_nil]
    · rw [blks_next n last h0, blks_next m last h0, blks_fuel n m _ (l.drop 32) (by rw [List.length_drop]; omega) (by rw [List.length_drop]; omega)]
/-- how many bytes a row has at most -/
def wt (l : List Post) : Nat := (l.map fun p => 20 + 10 * p.2.length).sum
theorem wt_nil : wt [] = 0 := rfl
theorem wt_cons (p : Post) (l : List Post) : wt (p :: l) = 20 + 10 * p.2.length + wt l := by simp [wt]
theorem wt_append (l m : List Post) : wt (l ++ m) = wt l + wt m := by simp [wt]
theorem wt_le (l : List Post) (n : Nat) : wt (l.take n) + wt (l.drop n) = wt l := by rw [← wt_append, List.take_append_drop]
theorem wt_len : ∀ l : List Post, 20 * l.length ≤ wt l
  | [] => by simp [wt]
  | p :: l => by
    have := wt_len l
    rw [wt_cons, List.length_cons]
    omega
theorem wt_mem {l : List Post} {p : Post} (h : p ∈ l) : 10 * p.2.length ≤ wt l := by
  induction l with
  | nil => cases h
  | cons q l ih =>
    rw [wt_cons]
    rcases List.mem_cons.1 h with rfl | h
    · omega
    · have := ih h
      omega
/-- what may be, in parts -/
theorem psOk_spec {l : List Post} (h : psOk l = true) : ris (-1) 65536 (l.map (·.1)) = true ∧ ∀ p ∈ l, 0 < p.2.length ∧ ris (-1) 1048576 p.2 = true := by
  simp only [psOk, Bool.and_eq_true, List.all_eq_true, pOk, decide_eq_true_eq] at h
  exact h
theorem plast_bounds {l : List Post} (h : ris (-1) 65536 (l.map (·.1)) = true) (k : Nat) : -1 ≤ plast (-1) (l.take k) ∧ plast (-1) (l.take k) < 65536 ∧ (0 < k → 0 < l.length → 0 ≤ plast (-1) (l.take k)) ∧
    ∀ (hk : k < l.length), plast (-1) (l.take k) < l[k].1 ∧ l[k].1 < 65536 := by
  have h1 : ris (-1) 65536 ((l.take k).map (·.1)) = true := by
    have := h
    rw [← List.take_append_drop k l, List.map_append] at this
    exact ris_left this
  have h2 := ilast_ge _ _ _ h1
  rw [← plast_eq] at h2
  refine ⟨h2.1, ?_, fun h3 h4 => ?_, fun hk => ?_⟩
  · by_cases h0 : l.take k = []
    · rw [h0]; simp [plast]
    · exact h2.2 (by simpa using h0)
  · cases k with
    | zero => omega
    | succ k =>
      cases l with
      | nil => simp at h4
      | cons p l =>
        rw [List.take_succ_cons, List.map_cons] at h1
        obtain ⟨g1, g2, g3⟩ := ris_cons.1 h1
        have := (ilast_ge _ _ _ g3).1
        rw [← plast_eq] at this
        rw [List.take_succ_cons]
        show 0 ≤ plast p.1 (l.take k)
        omega
  · have h3 := ris_drop (l.map (·.1)) (-1) 65536 k h
    rw [← List.map_take, ← List.map_drop, ← plast_eq, drop_at l hk, List.map_cons] at h3
    obtain ⟨g1, g2, _⟩ := ris_cons.1 h3
    exact ⟨g1, g2⟩
theorem psby_len : ∀ (l : List Post) (last : Int), ris last 65536 (l.map (·.1)) = true → (∀ p ∈ l, ris (-1) 1048576 p.2 = true) → -1 ≤ last → wt l ≤ 1000000000 → (psby last l).length ≤ wt l
  | [], _, _, _, _, _ => by simp [psby]
  | p :: l, last, h, hp, hl, hw => by
    obtain ⟨g1, g2, g3⟩ := ris_cons.1 h
    dsimp only at g1 g2
    rw [wt_cons] at hw
    have i := psby_len l p.1 g3 (fun q hq => hp q (by simp [hq])) (by omega) (by omega)
    have e1 := enc_len10 (toNat_64 (x := p.1 - last - 1) (by omega))
    have e3 := stp_len _ _ _ (hp p (by simp)) (by omega) (by omega)
    have e2 := enc_len10 (n := p.2.length) (U64.mk (by omega))
    simp only [psby, pby, List.length_append, wt_cons]
    omega

theorem blks_len : ∀ (n : Nat) (last : Int) (l : List Post), ris last 65536 (l.map (·.1)) = true → (∀ p ∈ l, ris (-1) 1048576 p.2 = true) → -1 ≤ last → wt l ≤ 1000000 → (blks n last l).1.length ≤ 20 * n ∧ (blks n last l).2.length ≤ wt l
  | 0, last, l, _, _, _, _ => by simp [blks]
  | n + 1, last, l, h, hp, hl, hw => by
    by_cases h0 : l.length = 0
    · have : l = [] := List.eq_nil_of_length_eq_zero h0
      rw [this, blks_nil]
      simp
    · have hs := wt_le l 32
      have h1 : ris last 65536 ((l.take 32).map (·.1)) = true := by
        have := h
        rw [← List.take_append_drop 32 l, List.map_append] at this
        exact ris_left this
      have h2 := ris_drop (l.map (·.1)) last 65536 32 h
      rw [← List.map_take, ← List.map_drop, ← plast_eq] at h2
      have h3 := ilast_ge _ _ _ h1
      rw [← plast_eq] at h3
      have h4 : plast last (l.take 32) < 65536 := h3.2 (by
        intro e
        have := congrArg List.length e
        rw [List.length_map, List.length_take, List.length_nil] at this
        omega)
      obtain ⟨i1, i2⟩ := blks_len n (plast last (l.take 32)) (l.drop 32) h2 (fun p hp' => hp p (List.mem_of_mem_drop hp')) (by omega) (by omega)
      have h5 := psby_len (l.take 32) last h1 (fun p hp' => hp p (List.mem_of_mem_take hp')) hl (by omega)
      have e1 := enc_len10 (toNat_64 (x := plast last (l.take 32)) (by omega))
      have e2 := enc_len10 (n := (psby last (l.take 32)).length) (U64.mk (by omega))
      rw [blks_next n last h0]
      simp only [List.length_append]
      omega
theorem Ext.others {W W' : World} (hx : Ext W W') : KeepsOthers W W' := ⟨hx.size, fun k _ hk _ => (hx.block k (Array.getElem?_eq_some_iff.1 hk).1).trans hk⟩
/-- what holds between two rounds of Encode -/
structure EncSt (w : World) (B : Nat) (v : Value) (W : World) (vh vb : Value) (hd bd : List UInt8) (last : Int) : Prop where
  bh : Boxed W B 23 vh
  bb : Boxed W (B + 1) 23 vb
  bl : Boxed W (B + 2) 3 (.int .i64 last)
  bs : Boxed W (B + 3) 22 v
  bn : Boxed W (B + 4) 3 (.int .i64 32)
  oh : Own W w.heap.size vh hd
  ob : Own W w.heap.size vb bd
  ne : ∀ k, vh.ownBlock = some k → vb.ownBlock ≠ some k
  bel : Below w.heap.size w W
  size : B + 5 ≤ W.heap.size
  base : w.heap.size ≤ B
theorem own_cells {w : World} {base : Nat} {v : Value} {bs : List UInt8} (h : Own w base v bs) {r : Nat} {o : Obj} (ho : w.heap[r]? = some o) (hc : ∀ cs f, o ≠ .cells cs 5 f) : v.ownBlock = none ∨ v.ownBlock ≠ some r := by
  rcases h.2 with ⟨rfl, _⟩ | ⟨g, cap, cur, rfl, _, hgb, _⟩
  · exact .inl rfl
  · refine .inr fun e => ?_
    obtain rfl : g = r := by simpa [Value.ownBlock] using e
    rw [hgb] at ho
    injection ho with ho
    exact hc _ _ ho.symm
section
variable {w : World} {B : Nat} {v : Value} {W W' : World} {vh vb : Value} {hd bd : List UInt8} {last : Int}
theorem EncSt.ext (h : EncSt w B v W vh vb hd bd last) (hx : Ext W W') : EncSt w B v W' vh vb hd bd last := by
  have hk : ∀ k t x, Boxed W k t x → Boxed W' k t x := fun k t x hb => (hx.block k hb.lt).trans hb
  exact ⟨hk _ _ _ h.bh, hk _ _ _ h.bb, hk _ _ _ h.bl, hk _ _ _ h.bs, hk _ _ _ h.bn, Own.ext h.oh hx, Own.ext h.ob hx, h.ne, h.bel.trans (hx.mono h.bel.size), Nat.le_trans h.size hx.size, h.base⟩
/-- a block that is no box and no row of bytes is turned -/
theorem EncSt.turn (h : EncSt w B v W vh vb hd bd last) {r : Nat} {o : Obj} (o' : Obj) (hr : B + 5 ≤ r) (ho : W.heap[r]? = some o) (hc : o.isCells = false) : EncSt w B v (W.putObj r o') vh vb hd bd last := by
  have hg := grownBy_putObj' W r o'
  have hk : ∀ k t x, k < B + 5 → Boxed W k t x → Boxed (W.putObj r o') k t x := fun k t x hlt hb => (hg.block k hb.lt (fun e => by injection e with e; omega)).trans hb
  have hn : ∀ cs f, o ≠ .cells cs 5 f := fun cs f e => by rw [e] at hc; cases hc
  have := h.base
  exact ⟨hk _ _ _ (by omega) h.bh, hk _ _ _ (by omega) h.bb, hk _ _ _ (by omega) h.bl, hk _ _ _ (by omega) h.bs, hk _ _ _ (by omega) h.bn, World.ownsRow.kept h.oh hg (own_cells h.oh ho hn), World.ownsRow.kept h.ob hg (own_cells h.ob ho hn), h.ne,
    h.bel.grown hg h.bel.size (fun k e => by injection e with e; omega), by simpa using h.size, h.base⟩
theorem box_not {W : World} {k : Nat} {t : TypeId} {x v : Value} {base : Nat} {bs : List UInt8} (hb : Boxed W k t x) (ht : t ≠ 5) (ho : Own W base v bs) : v.ownBlock = none ∨ v.ownBlock ≠ some k := by
  have := hb.not_row ht ho
  exact .inr fun e => this e.symm
/-- 'last = ..' -/
theorem EncSt.setLast (h : EncSt w B v W vh vb hd bd last) (m : Int) : EncSt w B v (W.setCell ⟨B + 2, 0, none⟩ (.int .i64 m)) vh vb hd bd m := by
  have hg := grownBy_setCell' W (B + 2) (.int .i64 m)
  have hk : ∀ k t x, k ≠ B + 2 → Boxed W k t x → Boxed (W.setCell ⟨B + 2, 0, none⟩ (.int .i64 m)) k t x := fun k t x hne hb => (hg.block k hb.lt (fun e => by injection e with e; exact hne e)).trans hb
  have := h.base
  exact ⟨hk _ _ _ (by omega) h.bh, hk _ _ _ (by omega) h.bb, h.bl.set _, hk _ _ _ (by omega) h.bs, hk _ _ _ (by omega) h.bn, World.ownsRow.kept h.oh hg (box_not h.bl (by decide) h.oh), World.ownsRow.kept h.ob hg (box_not h.bl (by decide) h.ob), h.ne,
    h.bel.grown hg h.bel.size (fun k e => by injection e with e; omega), Nat.le_trans h.size hg.size, h.base⟩
/-- 'head = ..' a new row -/
theorem EncSt.setHead (h : EncSt w B v W vh vb hd bd last) {u : Value} {b1 : Nat} {us : List UInt8} (hu : Own W b1 u us) (hb1 : w.heap.size ≤ b1) (hnew : ∀ k, vb.ownBlock = some k → k < b1) : EncSt w B v (W.setCell ⟨B, 0, none⟩ u) u vb us bd last := by
  have hg := grownBy_setCell' W B u
  have hk : ∀ k t x, k ≠ B → Boxed W k t x → Boxed (W.setCell ⟨B, 0, none⟩ u) k t x := fun k t x hne hb => (hg.block k hb.lt (fun e => by injection e with e; exact hne e)).trans hb
  have := h.base
  refine ⟨h.bh.set _, hk _ _ _ (by omega) h.bb, hk _ _ _ (by omega) h.bl, hk _ _ _ (by omega) h.bs, hk _ _ _ (by omega) h.bn, World.ownsRow.kept (Own.base hu hb1) hg (box_not h.bh (by decide) hu), World.ownsRow.kept h.ob hg (box_not h.bh (by decide) h.ob), fun k hk1 hk2 => ?_,
    h.bel.grown hg h.bel.size (fun k e => by injection e with e; omega), Nat.le_trans h.size hg.size, h.base⟩
  have h1 := own_ge hu k hk1
  have h2 := hnew k hk2
  omega
/-- 'body = append(body, ..)' -/
theorem EncSt.setBody (h : EncSt w B v W vh vb hd bd last) {w1 : World} {u : Value} {us : List UInt8} (hu : Own w1 w.heap.size u us) (hg : W.grownBy w1 vb.ownBlock) (hat : u.ownBlock = vb.ownBlock ∨ u.ownBlock = some W.heap.size) :
    Boxed w1 (B + 1) 23 vb ∧ EncSt w B v (w1.setCell ⟨B + 1, 0, none⟩ u) vh u hd us last ∧ KeepsOthers W (w1.setCell ⟨B + 1, 0, none⟩ u) := by
  have h1 : ∀ k t x, t ≠ 5 → Boxed W k t x → Boxed w1 k t x := fun k t x ht hb => by
    refine (hg.block k hb.lt (fun e => ?_)).trans hb
    rcases box_not hb ht h.ob with e' | e'
    · rw [e'] at e; cases e
    · exact e' e.symm
  have hbb := h1 _ _ _ (by decide) h.bb
  have hg2 := grownBy_setCell' w1 (B + 1) u
  have hk : ∀ k t x, k ≠ B + 1 → t ≠ 5 → Boxed W k t x → Boxed (w1.setCell ⟨B + 1, 0, none⟩ u) k t x := fun k t x hne ht hb => by
    have := h1 k t x ht hb
    exact (hg2.block k this.lt (fun e => by injection e with e; exact hne e)).trans this
  have hoh1 : Own w1 w.heap.size vh hd := by
    refine World.ownsRow.kept h.oh hg ?_
    cases hv : vh.ownBlock with
    | none => exact .inl rfl
    | some k => exact .inr fun e => h.ne k hv e.symm
  have hbs := h.base
  have hlt := World.ownsRow.lt h.oh
  refine ⟨hbb, ⟨hk _ _ _ (by omega) (by decide) h.bh, hbb.set _, hk _ _ _ (by omega) (by decide) h.bl, hk _ _ _ (by omega) (by decide) h.bs, hk _ _ _ (by omega) (by decide) h.bn, World.ownsRow.kept hoh1 hg2 (box_not hbb (by decide) hoh1), World.ownsRow.kept hu hg2 (box_not hbb (by decide) hu), fun k hk1 hk2 => ?_,
    (h.bel.grown hg h.bel.size (fun k e => own_ge h.ob k e)).grown hg2 (Nat.le_trans h.bel.size hg.size) (fun k e => by injection e with e; omega), Nat.le_trans h.size (Nat.le_trans hg.size hg2.size), h.base⟩, ?_⟩
  · rcases hat with e | e
    · exact h.ne k hk1 (by rw [← e]; exact hk2)
    · rw [e] at hk2
      injection hk2 with hk2
      have := (hlt k hk1).2
      omega
  · refine (KeepsOthers.of_grownBy hg fun j o ej hj => ?_).trans (KeepsOthers.setCell _ _ _)
    rcases (show World.ownsRow _ _ _ _ _ _ _ from h.ob).2 with ⟨rfl, _⟩ | ⟨g, cap, cur, rfl, _, hgb, _⟩
    · simp [Value.ownBlock] at ej
    · obtain rfl : g = j := by simpa [Value.ownBlock] using ej
      rw [hgb] at hj
      cases hj
      rfl
end

end Go.Proofs.Ytccmhjlniljhcaa
