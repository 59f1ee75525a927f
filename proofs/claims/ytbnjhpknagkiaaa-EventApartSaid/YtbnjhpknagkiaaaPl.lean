/-
  Plain law: terms sorted and grouped are terms put in one after the other; where they stand.
  Conditions: none.
-/
import Derived.Test.YtbnjhpknagkiaaaUl
import Derived.Test.YtbnjhpknagkiaaaYc
namespace Go.Proofs.Ytbnjhpknagkiaaa

/-- put in behind those not greater -/
def insF (x : Rw) : List Rw → List Rw
  | [] => [x]
  | y :: q => if cmpT x.1 y.1 < 0 then x :: y :: q else y :: insF x q
abbrev SoF (l : List Rw) : Prop := l.Pairwise fun x y => ¬cmpT y.1 x.1 < 0
theorem insF_perm (x : Rw) : ∀ q : List Rw, (insF x q).Perm (x :: q)
  | [] => List.Perm.refl _
  | y :: q => by
    unfold insF
    split
    · exact List.Perm.refl _
    · exact ((insF_perm x q).cons y).trans (List.Perm.swap _ _ _)
theorem cmp_le_trans {a b c : List UInt8} (h : ¬cmpT b a < 0) (k : ¬cmpT c b < 0) : ¬cmpT c a < 0 := by
  intro e
  have h1 := cmp_anti a b
  have h2 := cmp_anti b c
  have h3 := cmp_anti a c
  by_cases e1 : cmpT a b < 0
  · exact k (cmp_trans _ _ _ e e1)
  · have := cmp_eq0 a b (by omega)
    subst this
    exact k e
theorem cmp_lt_le {a b c : List UInt8} (h : cmpT a b < 0) (k : ¬cmpT c b < 0) : cmpT a c < 0 := by
  have h2 := cmp_anti b c
  by_cases e1 : cmpT b c < 0
  · exact cmp_trans _ _ _ h e1
  · have := cmp_eq0 b c (by omega)
    subst this
    exact h
theorem insF_so (x : Rw) : ∀ q : List Rw, SoF q → SoF (insF x q)
  | [], _ => List.pairwise_singleton _ _
  | y :: q, h => by
    have h' := List.pairwise_cons.1 h
    unfold insF
    split
    · rename_i hlt
      refine List.pairwise_cons.2 ⟨fun z hz => ?_, h⟩
      have hyx : ¬cmpT y.1 x.1 < 0 := by have := cmp_anti x.1 y.1; omega
      rcases List.mem_cons.1 hz with e | hz
      · rw [e]; exact hyx
      · exact cmp_le_trans hyx (h'.1 z hz)
    · rename_i hlt
      refine List.pairwise_cons.2 ⟨fun z hz => ?_, insF_so x q h'.2⟩
      rcases List.mem_cons.1 ((insF_perm x q).mem_iff.1 hz) with e | hz
      · rw [e]; exact hlt
      · exact h'.1 z hz
theorem insL_pass (x : Rw) : ∀ p q : List Rw, (∀ y ∈ p, cmpT x.1 y.1 < 0) → insL x (p ++ q) = p ++ insL x q
  | [], _, _ => rfl
  | y :: p, q, h => by
    rw [List.cons_append, insL, if_pos (h y (by simp)), insL_pass x p q fun z hz => h z (by simp [hz])]
    rfl
theorem insL_snoc (x y : Rw) (h : ¬cmpT x.1 y.1 < 0) : ∀ p : List Rw, insL x (p ++ [y]) = insL x p ++ [y]
  | [] => by simp [insL, h]
  | z :: p => by
    rw [List.cons_append, insL, insL]
    split
    · rw [insL_snoc x y h p]; rfl
    · rfl
theorem ins_rev (x : Rw) : ∀ q : List Rw, SoF q → insL x q.reverse = (insF x q).reverse
  | [], _ => rfl
  | y :: q, h => by
    have h' := List.pairwise_cons.1 h
    rw [List.reverse_cons, insF]
    split
    · rename_i hlt
      rw [insL_pass x _ _ fun z hz => cmp_lt_le hlt (h'.1 z (List.mem_reverse.1 hz))]
      simp [insL, hlt]
    · rename_i hlt
      rw [insL_snoc x y hlt, ins_rev x q h'.2, List.reverse_cons]
def sortF (q l : List Rw) : List Rw := l.foldl (fun q x => insF x q) q
theorem isL_rev : ∀ (l q : List Rw), SoF q → isL q.reverse l = (sortF q l).reverse
  | [], _, _ => rfl
  | x :: l, q, h => by
    rw [isL, ins_rev x q h, isL_rev l (insF x q) (insF_so x q h)]
    rfl
theorem sortL_eq (l : List Rw) : sortL l = sortF [] l := by
  unfold sortL
  have := isL_rev l [] List.Pairwise.nil
  rw [List.reverse_nil] at this
  rw [this, List.reverse_reverse]
theorem sortF_perm : ∀ (l q : List Rw), (sortF q l).Perm (q ++ l)
  | [], q => by simp [sortF]
  | x :: l, q => by
    refine (sortF_perm l (insF x q)).trans ?_
    refine ((insF_perm x q).append_right l).trans ?_
    rw [List.cons_append]
    exact (List.perm_middle).symm

/-- groups, from the end -/
def glue (s : List UInt8) (ps : List Int) : List TG → List TG
  | [] => [(s, ps)]
  | (t, qs) :: G => if s = t then (s, ps ++ qs) :: G else (s, ps) :: (t, qs) :: G
def grpF : List Rw → List TG
  | [] => []
  | (t, p) :: l => glue t [p] (grpF l)
theorem glue_ne (s : List UInt8) (ps : List Int) (G : List TG) : ∃ qs G', glue s ps G = (s, qs) :: G' := by
  rcases G with _ | ⟨⟨t, qs⟩, G⟩
  · exact ⟨_, _, rfl⟩
  · by_cases h : s = t
    · rw [glue, if_pos h]; exact ⟨_, _, rfl⟩
    · rw [glue, if_neg h]; exact ⟨_, _, rfl⟩
theorem glue_same (s : List UInt8) (ps qs : List Int) (G : List TG) : glue s ps (glue s qs G) = glue s (ps ++ qs) G := by
  rcases G with _ | ⟨⟨t, rs⟩, G⟩
  · simp [glue]
  · by_cases h : s = t
    · simp [glue, h]
    · simp [glue, h]
theorem grp_eq : ∀ (l : List Rw) (acc : List TG) (s : List UInt8) (ps : List Int), grp ((s, ps) :: acc) l = acc.reverse ++ glue s ps (grpF l)
  | [], acc, s, ps => by simp [grp, grpF, glue]
  | (t, p) :: l, acc, s, ps => by
    rw [grp]
    by_cases h : s = t
    · subst h
      rw [if_pos rfl, grp_eq l acc s (ps ++ [p])]
      show _ = acc.reverse ++ glue s ps (glue s [p] (grpF l))
      rw [glue_same]
    · rw [if_neg h, grp_eq l ((s, ps) :: acc) t [p]]
      show _ = acc.reverse ++ glue s ps (glue t [p] (grpF l))
      obtain ⟨qs, G, e⟩ := glue_ne t [p] (grpF l)
      rw [e]
      simp [glue, h]
theorem grp_nil_eq : ∀ l : List Rw, grp [] l = grpF l
  | [] => rfl
  | (t, p) :: l => by
    rw [grp, grp_eq]
    rfl
theorem grpF_head {y : Rw} {q : List Rw} {s : List UInt8} {ps : List Int} {G : List TG} (h : grpF (y :: q) = (s, ps) :: G) : s = y.1 := by
  obtain ⟨qs, G', e⟩ := glue_ne y.1 [y.2] (grpF q)
  have h' : glue y.1 [y.2] (grpF q) = (s, ps) :: G := h
  rw [e] at h'
  injection h' with h' _
  injection h' with h' _
  exact h'.symm
theorem grpF_ins (x : Rw) : ∀ q : List Rw, SoF q → grpF (insF x q) = addL (grpF q) x
  | [], _ => rfl
  | y :: q, h => by
    have h' := List.pairwise_cons.1 h
    obtain ⟨x1, x2⟩ := x
    obtain ⟨y1, y2⟩ := y
    have hxy := cmp_anti x1 y1
    by_cases hlt : cmpT x1 y1 < 0
    · have hne : x1 ≠ y1 := fun e => by rw [e, cmp_self] at hlt; cases hlt
      rw [insF, if_pos hlt]
      obtain ⟨qs, G, e⟩ := glue_ne y1 [y2] (grpF q)
      have e' : grpF ((y1, y2) :: q) = (y1, qs) :: G := e
      show glue x1 [x2] (grpF ((y1, y2) :: q)) = _
      rw [e', glue, if_neg hne, addL, if_neg (by dsimp only; omega), if_neg (Ne.symm hne)]
    · rw [insF, if_neg hlt]
      show glue y1 [y2] (grpF (insF (x1, x2) q)) = addL (glue y1 [y2] (grpF q)) (x1, x2)
      rw [grpF_ins (x1, x2) q h'.2]
      have hyx : cmpT y1 x1 < 0 ∨ y1 = x1 := by
        by_cases e : cmpT y1 x1 < 0
        · exact .inl e
        · exact .inr (cmp_eq0 _ _ (by omega))
      rcases hG : grpF q with _ | ⟨⟨s, ps⟩, G⟩
      · rcases hyx with e | e
        · have hne : ¬y1 = x1 := fun e' => by rw [e', cmp_self] at e; cases e
          simp [addL, glue, e, hne]
        · subst e
          simp [addL, glue, cmp_self]
      · have hsy : ¬cmpT s y1 < 0 := by
          rcases q with _ | ⟨z, q⟩
          · cases hG
          · rw [grpF_head hG]
            exact h'.1 z (by simp)
        by_cases hs : y1 = s
        · subst hs
          rcases hyx with e | e
          · have hne : ¬y1 = x1 := fun e' => by rw [e', cmp_self] at e; cases e
            simp [addL, glue, e]
          · subst e
            simp [addL, glue, cmp_self]
        · have hys : cmpT y1 s < 0 := by
            by_cases e : cmpT y1 s < 0
            · exact e
            · have := cmp_anti y1 s
              exact absurd (cmp_eq0 _ _ (by omega)) hs
          rcases hyx with e | e
          · have hne : ¬y1 = x1 := fun e' => by rw [e', cmp_self] at e; cases e
            rw [glue, if_neg hs, addL, addL, if_pos e]
            by_cases k : cmpT s x1 < 0
            · rw [if_pos k, glue, if_neg hs, addL, if_pos k]
            · rw [if_neg k]
              by_cases k2 : s = x1
              · rw [if_pos k2, glue, if_neg hs, addL, if_neg k, if_pos k2]
              · rw [if_neg k2, glue, if_neg hne, addL, if_neg k, if_neg k2]
          · subst e
            rw [glue, if_neg hs, addL, addL, if_neg hsy, if_neg (Ne.symm hs), if_neg (by rw [cmp_self]; decide), if_pos rfl]
            simp [glue]
theorem foldl_add : ∀ (l q : List Rw), SoF q → l.foldl addL (grpF q) = grpF (sortF q l)
  | [], _, _ => rfl
  | x :: l, q, h => by
    rw [List.foldl_cons, ← grpF_ins x q h, foldl_add l (insF x q) (insF_so x q h)]
    rfl
theorem termsL_add (fs : List Fld) : termsL fs = (rawA 0 fs).foldl addL [] := by
  unfold termsL
  rw [sortL_eq, grp_nil_eq, ← foldl_add _ [] List.Pairwise.nil]
  rfl

/-! ### where they stand -/
theorem glue_flat (s : List UInt8) (ps : List Int) : ∀ G : List TG, ((glue s ps G).map (·.2)).flatten = ps ++ (G.map (·.2)).flatten
  | [] => by simp [glue]
  | (t, qs) :: G => by
    by_cases h : s = t
    · rw [glue, if_pos h]; simp
    · rw [glue, if_neg h]; simp
theorem grpF_flat : ∀ l : List Rw, ((grpF l).map (·.2)).flatten = l.map (·.2)
  | [] => rfl
  | (t, p) :: l => by
    rw [grpF, glue_flat, grpF_flat l]
    rfl
theorem termsL_flat (fs : List Fld) : (((termsL fs).map (·.2)).flatten).Perm ((rawA 0 fs).map (·.2)) := by
  unfold termsL
  rw [sortL_eq, grp_nil_eq, grpF_flat]
  have := sortF_perm (rawA 0 fs) []
  rw [List.nil_append] at this
  exact this.map _
theorem rawF_snd (f : Fld) (b : Nat) : (rawF f b).map (·.2) = (List.range (nTok f.2.b)).map fun j => ((b + j : Nat) : Int) := by
  unfold rawF nTok
  rw [List.map_map]
  apply List.ext_getElem
  · simp
  · intro i h1 h2
    simp
theorem rawA_ge : ∀ (l : List Fld) (b : Nat), ∀ x ∈ (rawA b l).map (·.2), (b : Int) ≤ x
  | [], _, x, h => by simp [rawA] at h
  | f :: l, b, x, h => by
    rw [rawA, List.map_append] at h
    rcases List.mem_append.1 h with h | h
    · rw [rawF_snd] at h
      obtain ⟨j, _, rfl⟩ := List.mem_map.1 h
      omega
    · have := rawA_ge l _ x h
      omega
theorem rawA_inc : ∀ (l : List Fld) (b : Nat), ((rawA b l).map (·.2)).Pairwise (· < ·)
  | [], _ => List.Pairwise.nil
  | f :: l, b => by
    rw [rawA, List.map_append]
    refine List.pairwise_append.2 ⟨?_, rawA_inc l _, fun x hx y hy => ?_⟩
    · rw [rawF_snd, List.pairwise_map]
      exact List.pairwise_lt_range.imp fun h => by omega
    · rw [rawF_snd] at hx
      obtain ⟨j, hj, rfl⟩ := List.mem_map.1 hx
      have := rawA_ge l _ y hy
      have := List.mem_range.1 hj
      omega
theorem rawA_has {fs : List Fld} {i k : Nat} (hi : i < fs.length) (hk : k < nTok (fs[i]).2.b) : ((basN (fs.take i) + k : Nat) : Int) ∈ (rawA 0 fs).map (·.2) := by
  have e : fs = fs.take i ++ (fs[i] :: fs.drop (i + 1)) := by rw [← List.drop_eq_getElem_cons hi, List.take_append_drop]
  rw [e, rawA_append, List.map_append, rawA, List.map_append, ← e]
  refine List.mem_append.2 (.inr (List.mem_append.2 (.inl ?_)))
  rw [rawF_snd]
  exact List.mem_map.2 ⟨k, List.mem_range.2 hk, by rw [Nat.zero_add]⟩
theorem nodup_count {l : List Int} (h : l.Pairwise (· < ·)) {x : Int} (hx : x ∈ l) : l.count x = 1 := by
  have hn : l.Nodup := h.imp fun h e => by omega
  rw [hn.count, if_pos hx]
/-- every place of a word stands once -/
theorem terms_once {fs : List Fld} {i k : Nat} (hi : i < fs.length) (hk : k < nTok (fs[i]).2.b) : (((termsL fs).map (·.2)).flatten).count ((basN (fs.take i) + k : Nat) : Int) = 1 := by
  rw [(termsL_flat fs).count_eq]
  exact nodup_count (rawA_inc fs 0) (rawA_has hi hk)
/-- how many words -/
def wdN : List Fld → Nat
  | [] => 0
  | f :: l => nTok f.2.b + wdN l
theorem rawA_wd : ∀ (l : List Fld) (b : Nat), (rawA b l).length = wdN l
  | [], _ => rfl
  | f :: l, b => by rw [rawA, List.length_append, rawF_len, rawA_wd l]; rfl
theorem terms_wd (fs : List Fld) : (((termsL fs).map (·.2)).flatten).length = wdN fs := by
  rw [(termsL_flat fs).length_eq, List.length_map, rawA_wd]
theorem wdN_append : ∀ l m : List Fld, wdN (l ++ m) = wdN l + wdN m
  | [], _ => by simp [wdN]
  | f :: l, m => by simp only [List.cons_append, wdN, wdN_append l m]; omega
end Go.Proofs.Ytbnjhpknagkiaaa
