/-
  Contract of event.Terms.
  Conditions: an event that may be.
-/
import Derived.Test.YtbnjhpknagkiaaaUm
import Derived.Test.YtbnjhpknagkiaaaNk
import Derived.BigQuiet
import Derived.Deep.RegionLaw
import Derived.Deep.AppendLies
namespace Go.Proofs.Ytbnjhpknagkiaaa
open Go.RowKit Go.Op
attribute [local go_sem] Oper.semAt_some

/-- a field's terms, as they come -/
def rawF (f : Fld) (b : Nat) : List (List UInt8 × Int) := (toksR (rns f.2.b)).zipIdx.map fun p => (f.1.b ++ 58 :: p.1, ((b + p.2 : Nat) : Int))
def rawA : Nat → List Fld → List (List UInt8 × Int)
  | _, [] => []
  | b, f :: l => rawF f b ++ rawA (b + (64 + nTok f.2.b)) l
theorem rawA_append : ∀ (l m : List Fld) (b : Nat), rawA b (l ++ m) = rawA b l ++ rawA (b + basN l) m
  | [], _, b => by simp [rawA, basN]
  | f :: l, m, b => by
    simp only [List.cons_append, rawA, basN, rawA_append l m, List.append_assoc]
    rw [show b + (64 + nTok f.2.b) + basN l = b + (64 + nTok f.2.b + basN l) from by omega]
def fdAt (fs : List Fld) (k : Nat) : Fld := fs.getD k (⟨[]⟩, ⟨[]⟩)
theorem fdAt_eq {fs : List Fld} {k : Nat} (h : k < fs.length) : fdAt fs k = fs[k] := by simp [fdAt, h]
theorem rawA_next {fs : List Fld} {k : Nat} (h : k < fs.length) : rawA 0 (fs.take (k + 1)) = rawA 0 (fs.take k) ++ rawF (fdAt fs k) (basN (fs.take k)) := by
  rw [List.take_succ_eq_append_getElem h, rawA_append, fdAt_eq h, Nat.zero_add]
  simp [rawA]
theorem Ext.others {W W' : World} (hx : Ext W W') : KeepsOthers W W' := ⟨hx.size, fun k _ hk _ => (hx.block k (Array.getElem?_eq_some_iff.1 hk).1).trans hk⟩
def raws (P : List Pq) : List (List UInt8 × Int) := P.map fun p => (p.1, p.2.1)

theorem OwnL.form0 {α : Type} [Rep α] {w : World} {base : Nat} {e : TypeId} {S : Nat → Prop} {v : Value} {l : List α} (h : OwnL w base e S v l) : ∃ A n c, v = .slice A n c := by
  obtain ⟨A, c, h, _⟩ := h.form
  exact ⟨A, _, c, h⟩
theorem OwnL.kt {α : Type} [Rep α] {w w' : World} {B base : Nat} {e t : TypeId} {v x : Value} {l : List α} (h : OwnL w base e (fun _ => False) v l) (he : e ≠ 52) (ht : t ≠ e) (hb : Boxed w B t x) (hk : KT B w w') : OwnL w' base e (fun _ => False) v l := by
  obtain ⟨xs, h1, h2⟩ := h
  refine ⟨xs, ?_, (h2.keep (fun k hk => hk.1.elim)).more fun k hk => hk.1.elim⟩
  have hne : some B ≠ v.ownBlock := hb.not_row ht h1
  refine ⟨h1.1, ?_⟩
  rcases h1.2 with h3 | ⟨g, cap, cur, rfl, hbg, hg, h4⟩
  · exact .inl h3
  · exact .inr ⟨g, cap, cur, rfl, hbg, hk.same g _ hg (fun e => hne (by rw [e]; rfl)) (fun cs f e => by injection e with _ e _; exact he e), h4⟩
theorem SL.tok_at {w : World} {S : Nat → Prop} {A : Option Addr} {c n : Nat} {l : List (Tx × Int)} (h : SL w S (.slice A n c) l) {i : Nat} (hi : i < l.length) : ∃ ad, A = some ad ∧ w.cell? (ad.add (i * 2)) = some (.string ⟨(l[i]).1.b.toArray⟩) ∧
    w.cell? ⟨(ad.add (i * 2)).block, (ad.add (i * 2)).off + 1, none⟩ = some (.int .i64 (l[i]).2) := by
  obtain ⟨ad, cs, rfl, hS, ⟨c1, c2, rfl, ⟨rfl, h1⟩, ⟨rfl, h2⟩⟩, hc⟩ := h.at_ hi
  have q0 := hc 0 _ rfl
  have q1 := hc 1 _ rfl
  simp only [Rep.n, Nat.add_zero, Nat.reduceAdd] at q0 q1
  rw [addField] at q1
  exact ⟨ad, rfl, q0, q1⟩
theorem toksR_len (l : List Int) : ∀ x ∈ toksR l, x.length ≤ 32 := by
  intro x hx
  obtain ⟨c, _, rfl⟩ := List.mem_map.1 hx
  exact wordR_len c [] (by simp)
theorem tokI_at {ws : List (List UInt8)} {j : Nat} (h : j < ws.length) : (tokI ws)[j]'(by rw [tokI_len]; exact h) = (⟨ws[j]⟩, (j : Int)) := by simp [tokI]
theorem rawF_len (f : Fld) (b : Nat) : (rawF f b).length = nTok f.2.b := by simp [rawF, nTok]
theorem rawA_text : ∀ (l : List Fld) (b : Nat), (∀ f ∈ l, f.1.b.length ≤ 32) → ∀ x ∈ rawA b l, x.1.length ≤ 100
  | [], _, _, x, h => by cases h
  | f :: l, b, hl, x, h => by
    rcases List.mem_append.1 h with h | h
    · obtain ⟨p, hp, rfl⟩ := List.mem_map.1 h
      have h1 := toksR_len _ _ (List.fst_mem_of_mem_zipIdx hp)
      have h2 := hl f (by simp)
      simp only [List.length_append, List.length_cons]
      omega
    · exact rawA_text l _ (fun g hg => hl g (by simp [hg])) x h
theorem rawF_at {nm tx : List UInt8} {b j : Nat} (h : j < (toksR (rns tx)).length) : (rawF (⟨nm⟩, ⟨tx⟩) b).take (j + 1) = (rawF (⟨nm⟩, ⟨tx⟩) b).take j ++ [(nm ++ 58 :: (toksR (rns tx))[j], ((b + j : Nat) : Int))] := by
  have hl : j < (rawF (⟨nm⟩, ⟨tx⟩) b).length := by rw [rawF_len]; exact h
  rw [List.take_succ_eq_append_getElem hl]
  simp [rawF]

theorem rawA_len : ∀ (l : List Fld) (b : Nat), (rawA b l).length ≤ basN l
  | [], _ => by simp [rawA, basN]
  | f :: l, b => by
    have := rawA_len l (b + (64 + nTok f.2.b))
    have := rawF_len f b
    simp only [rawA, basN, List.length_append]
    omega
theorem raws_snoc (P : List Pq) (s : List UInt8) (p : Int) (b : Nat) : raws (P ++ [(s, p, b)]) = raws P ++ [(s, p)] := by simp [raws]
theorem ba_cat (x y : List UInt8) : (ByteArray.mk x.toArray ++ ⟨y.toArray⟩) = ⟨(x ++ y).toArray⟩ := by
  apply ByteArray.ext
  simp
theorem heap_pos (W : World) (o1 o2 o3 : Obj) : (((W.alloc o1).alloc o2).alloc o3).heap[W.heap.size + 1]? = some o2 := by
  have h := heap_alloc_last (W.alloc o1) o2
  rw [World.size_alloc] at h
  exact (Below.heap_alloc _ _ _ (by simp)).trans h

/-! ### plain: sorted, grouped -/
def insL (x : List UInt8 × Int) : List (List UInt8 × Int) → List (List UInt8 × Int)
  | [] => [x]
  | y :: q => if cmpT x.1 y.1 < 0 then y :: insL x q else x :: y :: q
def isL : List (List UInt8 × Int) → List (List UInt8 × Int) → List (List UInt8 × Int)
  | acc, [] => acc
  | acc, x :: l => isL (insL x acc) l
def sortL (l : List (List UInt8 × Int)) : List (List UInt8 × Int) := (isL [] l).reverse
theorem insP_raw (x : Pq) : ∀ q : List Pq, raws (insP x q) = insL (x.1, x.2.1) (raws q)
  | [] => rfl
  | y :: q => by
    have e : raws (y :: q) = (y.1, y.2.1) :: raws q := rfl
    rw [e]
    unfold insP insL
    split
    · have e2 : raws (y :: insP x q) = (y.1, y.2.1) :: raws (insP x q) := rfl
      rw [e2, insP_raw x q]
    · rfl
theorem isP_raw : ∀ (l acc : List Pq), raws (isP acc l) = isL (raws acc) (raws l)
  | [], _ => rfl
  | x :: l, acc => by
    have e : raws (x :: l) = (x.1, x.2.1) :: raws l := rfl
    rw [e, isP, isL, isP_raw l, insP_raw]
theorem psort_raw (l : List Pq) : raws (psort l) = sortL (raws l) := by
  unfold psort sortL
  have h : raws (isP [] l) = isL [] (raws l) := isP_raw l []
  rw [← h]
  simp [raws]
def grp : List TG → List (List UInt8 × Int) → List TG
  | acc, [] => acc.reverse
  | [], (t, p) :: l => grp [(t, [p])] l
  | (s, ps) :: acc, (t, p) :: l => if s = t then grp ((s, ps ++ [p]) :: acc) l else grp ((t, [p]) :: (s, ps) :: acc) l
def termsL (fs : List Fld) : List TG := grp [] (sortL (rawA 0 fs))
def tg (g : Gq) : TG := (g.s, g.ps)
/-- a piece of code that is left off its end alone -/
def normPost (Q : Exit → Act → World → Prop) : Exit → Act → World → Prop
  | .normal, a, w => Q .normal a w
  | _, _, _ => False
theorem wp_norm {P : Program} {c : Code} {Q : Exit → Act → World → Prop} {a : Act} {w : World} (h : c.wp P (normPost Q) a w) : c.wp P Q a w := by
  intro b k cs
  obtain ⟨e, a', w', q, r⟩ := h b k cs
  cases e with
  | normal => exact ⟨_, _, _, q, r⟩
  | ret => exact q.elim
  | exit id => exact q.elim
  | goto t => exact q.elim
  | panic ch => exact q.elim
  | outgrown => exact q.elim
theorem reps_intsF {w : World} {S : Nat → Prop} : ∀ {l : List Int} {xs : List Value}, Reps w S xs l → Reps w (fun _ => False) xs l
  | [], _, h => h
  | _ :: _, _, h => by
    obtain ⟨cs, rest, e, h1, h2⟩ := h
    exact ⟨cs, rest, e, h1, reps_intsF h2⟩
theorem own_more {W W' : World} {S S' : Nat → Prop} {xs : List Value} {ps : List Int} {p : Int} (h : Reps W S xs ps) (h6 : I6 p) : Reps W' S' (xs ++ [.int .i64 p]) (ps ++ [p]) := by
  have key : ∀ {l : List Int} {ys : List Value}, Reps W S ys l → Reps W' S' ys l := by
    intro l
    induction l with
    | nil => intro ys h; exact h
    | cons x l ih =>
      intro ys h
      obtain ⟨cs, rest, e, h1, h2⟩ := h
      exact ⟨cs, rest, e, h1, ih h2⟩
  exact (key h).append (Reps.single ⟨rfl, h6⟩)
theorem hat_blk {b b6 n k c : Nat} (h : (Value.slice (some ⟨b, 0, none⟩) n c).ownBlock = some b6 ∨ b6 = k) : b6 = b ∨ b6 = k := by
  rcases h with h | h
  · left
    have h2 : some b = some b6 := h
    injection h2 with h2
    exact h2.symm
  · exact .inr h
theorem grp_same {G0 : List Gq} {g : Gq} {s : List UInt8} {pos : Int} {blk : Nat} {R : List Pq} (h : g.s = s) (b c : Nat) : grp ((G0 ++ [g]).map tg).reverse (raws ((s, pos, blk) :: R)) = grp ((G0 ++ [(⟨g.s, b, c, g.ps ++ [pos]⟩ : Gq)]).map tg).reverse (raws R) := by
  have e1 : ((G0 ++ [g]).map tg).reverse = (g.s, g.ps) :: (G0.map tg).reverse := by simp [tg]
  have e2 : ((G0 ++ [(⟨g.s, b, c, g.ps ++ [pos]⟩ : Gq)]).map tg).reverse = (g.s, g.ps ++ [pos]) :: (G0.map tg).reverse := by simp [tg]
  have e3 : raws ((s, pos, blk) :: R) = (s, pos) :: raws R := rfl
  rw [e1, e2, e3, grp, if_pos h]
theorem grp_new {G0 : List Gq} {g : Gq} {s : List UInt8} {pos : Int} {blk : Nat} {R : List Pq} (h : ¬g.s = s) : grp ((G0 ++ [g]).map tg).reverse (raws ((s, pos, blk) :: R)) = grp ((G0 ++ [g] ++ [gOf (s, pos, blk)]).map tg).reverse (raws R) := by
  have e1 : ((G0 ++ [g]).map tg).reverse = (g.s, g.ps) :: (G0.map tg).reverse := by simp [tg]
  have e2 : ((G0 ++ [g] ++ [gOf (s, pos, blk)]).map tg).reverse = (s, [pos]) :: (g.s, g.ps) :: (G0.map tg).reverse := by simp [tg, gOf]
  have e3 : raws ((s, pos, blk) :: R) = (s, pos) :: raws R := rfl
  rw [e1, e2, e3, grp, if_neg h]
theorem GSt.reps {w1 W : World} {B b1 : Nat} {vl vo : Value} {P R : List Pq} {G0 : List Gq} (h : GSt w1 B b1 vl P W vo G0 R) : ∀ G : List Gq, (∀ g ∈ G, g ∈ G0) → (∀ g ∈ G, g.s.length ≤ 100) → Reps (α := Tx × List Int) W (fun k => B + 4 ≤ k ∧ k < W.heap.size) (tmF ((G.map Gq.q).map tqTm)) (G.map fun g => ((⟨g.s⟩ : Tx), g.ps))
  | [], _, _ => rfl
  | g :: G, hm, hl => ⟨[.string ⟨g.s.toArray⟩, g.v], _, rfl, ⟨[.string ⟨g.s.toArray⟩], [g.v], rfl, ⟨rfl, by have := hl g (by simp); show g.s.length ≤ maxLen; unfold maxLen; omega⟩, g.v, rfl, (h.gpos g (hm g (by simp))).sl_own fun _ _ _ _ hr => reps_intsF hr⟩, h.reps G (fun x hx => hm x (by simp [hx])) fun x hx => hl x (by simp [hx])⟩
theorem GSt.res {w1 W : World} {B b1 : Nat} {vl vo : Value} {P R : List Pq} {G : List Gq} (h : GSt w1 B b1 vl P W vo G R) (hl : ∀ g ∈ G, g.s.length ≤ 100) : SL (W.putObj (B + 2) (.deferred none)) (Bw (W.putObj (B + 2) (.deferred none))) vo (G.map fun g => ((⟨g.s⟩ : Tx), g.ps)) := by
  obtain ⟨xs, h1, h2⟩ := h.orow
  obtain ⟨A, c, hv, k1, k2, k3, k4⟩ := ownsRow_form h1
  have hxs := reps_tq h2
  have hb4 := h.b4
  have hsl : SL W (fun k => B + 4 ≤ k ∧ k < W.heap.size) vo (G.map fun g => ((⟨g.s⟩ : Tx), g.ps)) := by
    refine ⟨A, c, xs, by rw [hv]; simp, by simpa using k1, k2, k3, ⟨?_, fun hn => ?_⟩, ?_⟩
    · have e : xs.length = (G.map Gq.q).length * Rep.n Tq := k4.1
      show xs.length = (G.map fun g => ((⟨g.s⟩ : Tx), g.ps)).length * 2
      rw [e, List.length_map, List.length_map]
      rfl
    · obtain ⟨ad, e, hb, hc⟩ := k4.2 (by simpa using hn)
      have := owns_ge h1 ad.block (by rw [hv, e]; rfl)
      exact ⟨ad, e, ⟨by omega, hb⟩, hc⟩
    · rw [hxs]
      exact h.reps G (fun g hg => hg) hl
  have hg := grownBy_putObj' W (B + 2) (.deferred none)
  exact (hsl.keep fun k hk => hg.block k hk.2 (fun e => by injection e with e; have := hk.1; omega)).more fun k hk => Nat.lt_of_lt_of_le hk.2 hg.size
theorem heap_up {W W' : World} {k : Nat} {o : Obj} (h : W.heap[k]? = some o) (hx : Ext W W') : W'.heap[k]? = some o := (hx.block k (Array.getElem?_eq_some_iff.1 h).1).trans h
theorem GSt.start {w1 W W1 : World} {B : Nat} {ev : Array Value} {vl : Value} {P P2 : List Pq} (h : LSt w1 B ev W vl P) (hd : W.heap[B + 2]? = some (.deferred (some []))) (ho : OwnL W1 (B + 4) 52 (fun _ => False) vl (P2.map toQ))
    (hk : Kept (fun k => vl.ownBlock = some k) W W1) (hp : P2.Perm P) : GSt w1 B W1.heap.size vl P2 W1 (.slice none 0 0) [] P2 ∧ Boxed W1 B 46 vl := by
  have hty : ∀ r, vl.ownBlock = some r → ∃ cs, W.heap[r]? = some (Obj.cells cs 52 (0, 0)) := fun r hr => by
    obtain ⟨xs, h2, _⟩ := h.own
    exact row_type h2 r hr
  have hkeep : ∀ (k : Nat) (o : Obj), W.heap[k]? = some o → (∀ cs f, o ≠ Obj.cells cs 52 f) → W1.heap[k]? = some o := fun k o e hc => (hk.block k (Array.getElem?_eq_some_iff.1 e).1 (fun he => by
    obtain ⟨cs, hcs⟩ := hty k he
    rw [hcs] at e
    injection e with e
    exact hc cs _ e.symm)).trans e
  have hs := h.size
  have hs1 := hk.size
  refine ⟨⟨ho, fun k hk => ?_, OwnL.nil_ _ _ _ _, fun g hg => (by cases hg), fun p hpm => ?_, ?_, ?_, Nat.le_refl _, by omega, hkeep _ _ hd (fun cs f e => by cases e)⟩, hkeep _ _ h.bl (fun cs f e => by injection e with _ e _; exact absurd e (by decide))⟩
  · obtain ⟨cs, hcs⟩ := hty k hk
    have := (Array.getElem?_eq_some_iff.1 hcs).1
    omega
  · obtain ⟨q1, q2⟩ := h.pos p (hp.mem_iff.1 hpm)
    exact ⟨hkeep _ _ q1 (fun cs f e => by injection e with _ e _; exact absurd e (by decide)), q2⟩
  · simpa using ((hp.map (·.2.2)).nodup_iff).2 h.nd
  · exact Below.trans h.bel (hk.below (by omega) fun k hk => by have := h.own.ge k hk; omega)
theorem SL.tq_at {w : World} {S : Nat → Prop} {A : Option Addr} {c n : Nat} {l : List Tq} (h : SL w S (.slice A n c) l) {i : Nat} (hi : i < l.length) : ∃ ad, A = some ad ∧ w.cell? (ad.add (i * 2)) = some (.string ⟨(l[i]).s.toArray⟩) ∧
    w.cell? ⟨(ad.add (i * 2)).block, (ad.add (i * 2)).off + 1, none⟩ = some (.slice (l[i]).A (l[i]).n (l[i]).c) := by
  obtain ⟨ad, cs, rfl, hS, hcs, hc⟩ := h.at_ hi
  have hcs' : cs = [.string ⟨(l[i]).s.toArray⟩, .slice (l[i]).A (l[i]).n (l[i]).c] := hcs
  subst hcs'
  have q0 := hc 0 _ rfl
  have q1 := hc 1 _ rfl
  have e : Rep.n Tq = 2 := rfl
  rw [e] at q0 q1
  rw [Nat.add_zero] at q0
  rw [addField] at q1
  exact ⟨ad, rfl, q0, q1⟩

set_option maxHeartbeats 4000000 in
set_option maxRecDepth 100000 in
theorem terms_ok (w : World) (a : Int) (v : Value) (fs : List Fld) (hv : SL w (Bw w) v fs) (hE : evE (a, fs) = 0) :
    Calls Try.prog 22 #[.agg #[.int .i64 a, v]] w fun e w' => ∃ u, e = .returned u ∧ SL w' (Bw w') u ((termsL fs).map fun t => ((⟨t.1⟩ : Tx), t.2)) ∧ Ext w w' := by
  obtain ⟨hf16, hfE⟩ := evE_spec hE
  have htx : ∀ f ∈ fs, f.2.b.length ≤ 4096 := fun f hf => (fldE_spec (fldsE_spec hfE f hf)).2.2
  have h20 : (rawA 0 fs).length ≤ 100000 := by
    have h1 := rawA_len fs 0
    have h2 := basN_le fs 4096 htx
    have h3 : fs.length * (4096 + 65) ≤ 16 * 4161 := Nat.mul_le_mul hf16 (by omega)
    omega
  have Hnm : Hid (∀ f ∈ fs, f.1.b.length ≤ 32) := Lib.hid fun f hf => (fldE_spec (fldsE_spec hfE f hf)).2.1
  obtain ⟨A, c, rfl, hc, hm⟩ := hv.form
  have hx0 := Ext.of_alloc w (.cells #[.int .i64 a, .slice A fs.length c] 40)
  have Hv := Lib.hid (hv.up hx0)
  have Hx0 := Lib.hid hx0
  have Htx := Lib.hid htx
  clear hv htx hfE hx0
  refine (callsIn_wide (n := 3)).1 ?_
  refine callsIn_of_wp_marks Try.func22 rfl trivial ?_ rfl
  simp only [Try.ntmps22, List.size_toArray, List.length_cons, List.length_nil, Nat.reduceAdd, Nat.reduceSub, Array.replicate_succ, Array.replicate_zero, List.push_toArray, List.append_toArray, List.nil_append, List.cons_append]
  gi_wp2_with fail
  refine ⟨trivial, callsIn_wide.2 ((check_any _ a _ fs Hv.out).mono ?_)⟩
  rintro e w1 ⟨rfl, hx1⟩
  rw [hE]
  have Hx1 := Lib.hid (Ext.trans Hx0.out hx1)
  have Hv1 := Lib.hid (SL.up Hv.out hx1)
  have hk1 := hx1.block w.heap.size (by simp)
  rw [heap_alloc_last] at hk1
  have q0 : w1.cell? ⟨w.heap.size, 0, none⟩ = some (.int .i64 a) := by simp [World.cell?, hk1]
  have q1 : w1.cell? ⟨w.heap.size, 1, none⟩ = some (.slice A fs.length c) := by simp [World.cell?, hk1]
  have q0 := Ext.keeps (Ext.of_alloc w1 (.cells #[.slice none 0 0] 46)) q0
  have q1 := Ext.keeps (Ext.of_alloc w1 (.cells #[.slice none 0 0] 46)) q1
  clear hx1 hk1
  generalize hBB : w1.heap.size = B
  gi_wp2_with fail
  refine ⟨trivial, callsIn_wide.2 ((based_any _ a A fs.length c).mono ?_)⟩
  rintro e w' ⟨rfl, rfl⟩
  simp only [World.size_alloc, hBB]
  gi_wp2_with fail
  have hB : w.heap.size ≤ B := by rw [← hBB]; exact Hx1.out.size
  refine wpIn_rangeFunc_raw rfl (by omega) (gf := 66) (lb := #[.pointer (some ⟨B + 1, 0, none⟩)]) rfl trivial (enters_of Try.func66 (by kernel_rfl) rfl)
    (α := Nat) (encs := fun k => #[.int .i64 (basN (fs.take k) : Nat), .agg #[.string ⟨(fdAt fs k).1.b.toArray⟩, .string ⟨(fdAt fs k).2.b.toArray⟩]])
    (Kp := KpF) (fun h k => h.trans k) (fun _ _ _ o' _ hl ho _ => KpF.put o' hl ho) (fun _ => rfl)
    (fun _ k W => k < fs.length ∧ ∃ vl P, LSt w1 B #[.int .i64 a, .slice A fs.length c] W vl P ∧ raws P = rawA 0 (fs.take k))
    (fun pre W => ∃ k, pre.getLast? = some k ∧ k < fs.length ∧ ∃ vl P, LSt w1 B #[.int .i64 a, .slice A fs.length c] W vl P ∧ raws P = rawA 0 (fs.take (k + 1)))
    (fun W => ∃ vl P, LSt w1 B #[.int .i64 a, .slice A fs.length c] W vl P ∧ raws P = rawA 0 fs)
    ?tI ?tI' ?tId
    (fun k a' W => ∃ r, W.heap[r]? = some (.cells #[.string ⟨(fdAt fs k).1.b.toArray⟩, .string ⟨(fdAt fs k).2.b.toArray⟩] 59 (0, 0)) ∧ a' = { tmps := #[.agg #[.int .i64 a, .slice A fs.length c], .pointer (some ⟨w.heap.size, 0, none⟩), .slice none 0 0, .pointer (some ⟨B, 0, none⟩), .int .i64 (basN (fs.take k) : Nat), .pointer (some ⟨r, 0, none⟩), undef, undef, undef, undef, undef, undef, .agg #[.int .i64 a, .slice A fs.length c], .int .i64 0, .bool false, .agg #[.int .i64 a, .slice A fs.length c], .func (.func 66) #[] #[.pointer (some ⟨B + 1, 0, none⟩)], .int .i64 (basN (fs.take k) : Nat), .agg #[.string ⟨(fdAt fs k).1.b.toArray⟩, .string ⟨(fdAt fs k).2.b.toArray⟩], undef, undef, undef, undef, undef, undef, undef, undef, undef, undef, undef, undef, undef, undef, undef, undef, undef, undef, undef, undef, undef, undef, undef, undef, undef, undef, undef, undef, undef, undef, undef, undef, undef, undef, undef, undef, undef, undef, undef, undef, undef, undef, undef, undef, undef, undef, undef, undef, undef, undef, undef, undef, undef, undef, undef, undef, undef, undef, undef, undef, undef, undef, undef, undef, undef], defers := [] })
    ?tAx ?assign ?body ?iter ?done
  case tI =>
    rintro pre k W o o' ⟨hk, vl, P, h, hp⟩ ho hc
    simp only [World.size_alloc, hBB] at ho ⊢
    exact ⟨hk, vl, P, h.turn o' (.inr rfl) ho hc, hp⟩
  case tI' =>
    rintro pre W o o' ⟨k, hl, hk, vl, P, h, hp⟩ ho hc
    simp only [World.size_alloc, hBB] at ho ⊢
    exact ⟨k, hl, hk, vl, P, h.turn o' (.inr rfl) ho hc, hp⟩
  case tId =>
    rintro W o o' ⟨vl, P, h, hp⟩ ho hc
    simp only [World.size_alloc, hBB] at ho ⊢
    exact ⟨vl, P, h.turn o' (.inr rfl) ho hc, hp⟩
  case tAx =>
    rintro k a' W o o' ⟨r, hr, ha⟩ ho hc
    exact ⟨r, KpF.put o' ho hc _ _ _ hr, ha⟩
  case assign =>
    rintro l pre k W K ⟨hk, vl, P, h, hp⟩ hK
    gi_wp2
    have hx := Ext.of_alloc W (.cells #[.string ⟨(fdAt fs k).1.b.toArray⟩, .string ⟨(fdAt fs k).2.b.toArray⟩] 59)
    exact hK _ _ (hx.others.from _) (KpF.of_ext hx) ⟨hk, vl, P, h.ext hx, hp⟩ ⟨W.heap.size, heap_alloc_last W _, rfl⟩
  case body =>
    rintro lp pre k a' W hlw ⟨hk, vl, P, hst, hp⟩ ⟨r, hr, rfl⟩
    have htl := Htx.out _ (List.getElem_mem hk)
    have hnml := Hnm.out _ (List.getElem_mem hk)
    have hnx := rawA_next hk
    rw [← fdAt_eq hk] at htl hnml
    have hble := basN_le (fs.take k) 4096 fun f hf => Htx.out f (List.mem_of_mem_take hf)
    rw [List.length_take] at hble
    have hble2 : basN (fs.take k) ≤ 100000 := by
      have : min k fs.length * (4096 + 65) ≤ 16 * 4161 := Nat.mul_le_mul (by omega) (by omega)
      omega
    generalize fdAt fs k = F at hr htl hnx hnml ⊢
    obtain ⟨⟨nm⟩, ⟨tx⟩⟩ := F
    dsimp only at hr htl hnx hnml ⊢
    have hR0l : (rawA 0 (fs.take k)).length ≤ 100000 := Nat.le_trans (rawA_len _ _) hble2
    generalize basN (fs.take k) = b at hble2 hnx ⊢
    generalize hR0 : rawA 0 (fs.take k) = R0 at hp hnx hR0l
    have HR0l := Lib.hid hR0l
    clear hR0l
    have Hnx := Lib.hid hnx
    have Hp := Lib.hid hp
    have Hst := Lib.hid hst
    have hr1 : W.cell? ⟨r, 1, none⟩ = some (.string ⟨tx.toArray⟩) := by simp [World.cell?, hr]
    clear hp hst hnx hble hR0
    gi_wp2_with fail
    refine ⟨trivial, CallsIn.inRound lp (callsIn_wide.2 ((tokens_any W tx (by omega)).mono ?_))⟩
    rintro e W2 ⟨vt, rfl, hot, hx2⟩
    obtain ⟨At, ct, rfl, hct, hmt⟩ := hot.form
    have hTl : (tokI (toksR (rns tx))).length = nTok tx := tokI_len _
    have hnt := nTok_le tx
    have hr2 := (hx2.block r (Array.getElem?_eq_some_iff.1 hr).1).trans hr
    have Hx2 := Lib.hid hx2
    have Hot := Lib.hid hot
    have Hst2 := Lib.hid (Hst.out.ext hx2)
    rw [hTl] at Hot hct ⊢
    obtain ⟨m, hm⟩ : ∃ m, m = nTok tx := ⟨_, rfl⟩
    rw [← hm] at Hot hct hnt ⊢
    have Hm := Lib.hid hm
    have HTl := Lib.hid hTl
    clear hot hx2 hr1 hr hm hTl
    gi_wp2_with fail
    gi_loopw [23] (fun i wr => ∃ (j : Nat) (vl' : Value) (P' : List Pq), i = .int .i64 j ∧ j ≤ m ∧ LSt w1 B #[.int .i64 a, .slice A fs.length c] wr vl' P' ∧ raws P' = R0 ++ (rawF (⟨nm⟩, ⟨tx⟩) b).take j ∧ KT B W2 wr) (fun i _ => m - (intOf i).toNat)
    case atStart => exact ⟨0, vl, P, rfl, Nat.zero_le _, Hst2.out, by rw [Hp.out]; simp, KT.refl _ _⟩
    case round =>
      obtain ⟨j, vl', P', rfl, hj, hls, hps, hkt⟩ := hrel
      have hPl : P'.length ≤ 200000 := by
        have h1 := congrArg List.length hps
        have h2 := HR0l.out
        simp only [raws, List.length_map, List.length_append, List.length_take] at h1
        omega
      obtain ⟨Al, cl, rfl, _⟩ := hls.own.form
      rw [List.length_map] at hls
      have Hls := Lib.hid hls
      have Hps := Lib.hid hps
      have Hkt := Lib.hid hkt
      have hr3 := hkt.same r _ hr2 (fun e => by
        have := Hst2.out.bl
        rw [← e] at this
        have := (show W2.heap[r]? = _ from this).symm.trans hr2
        injection this with this
        injection this with _ h _
        exact absurd h (by decide)) (fun cs f e => by injection e with _ h _; exact absurd h (by decide))
      by_cases hjm : j < m
      · have hji : (j : Int) < m := by omega
        have hTj : j < (tokI (toksR (rns tx))).length := by rw [HTl.out, ← Hm.out]; exact hjm
        have hwj : j < (toksR (rns tx)).length := by rw [← tokI_len]; exact hTj
        have hot2 := Hot.out.kt (by decide) (t := 46) (by decide) Hst2.out.bl hkt
        obtain ⟨adt, rfl, d0, d1⟩ := hot2.sl.tok_at hTj
        have hte := tokI_at hwj
        have hrf := rawF_at (nm := nm) (b := b) hwj
        rw [hte] at d0 d1
        dsimp only at d0 d1
        have hwl := toksR_len _ _ (List.getElem_mem hwj)
        generalize (toksR (rns tx))[j]'hwj = wd at d0 d1 hrf hwl
        have hxa := Ext.of_alloc wr (.cells #[.string ⟨wd.toArray⟩, .int .i64 j] 83)
        have q0 := Ext.keeps hxa hls.bl.cell
        have q1 : (wr.alloc (.cells #[.string ⟨wd.toArray⟩, .int .i64 j] 83)).cell? ⟨r, 0, none⟩ = some (.string ⟨nm.toArray⟩) := Ext.keeps hxa (by simp [World.cell?, hr3])
        have qf : (wr.alloc (.cells #[.string ⟨wd.toArray⟩, .int .i64 j] 83)).frozen? ⟨B, 0, none⟩ = false := (Hls.out.ext hxa).bl.frozen
        have Hrf := Lib.hid hrf
        clear hls hps hkt hte hrf hot2 hr3
        have hsv := SV.one_ ((wr.alloc (.cells #[.string ⟨wd.toArray⟩, .int .i64 j] 83)).alloc (.cells #[.int .i64 ((b : Int) + (j : Int))] 3)) #[.string (⟨nm.toArray⟩ ++ ⟨#[58]⟩ ++ ⟨wd.toArray⟩), .slice (some ⟨wr.heap.size + 1, 0, none⟩) 1 1] 52 2 rfl
        simp only [World.size_alloc] at hsv
        have hsc : (ByteArray.mk nm.toArray ++ ⟨#[58]⟩ ++ ⟨wd.toArray⟩) = ⟨(nm ++ 58 :: wd).toArray⟩ := by
          have e1 : (ByteArray.mk nm.toArray ++ ⟨#[58]⟩) = ⟨(nm ++ [58]).toArray⟩ := ba_cat nm [58]
          rw [e1, ba_cat, List.append_assoc]
          rfl
        have hreps : ∀ W : World, Reps (α := Tq) W (fun k => False ∧ k < W.heap.size ∧ some k ≠ (Value.slice Al P'.length cl).ownBlock) [.string (⟨nm.toArray⟩ ++ ⟨#[58]⟩ ++ ⟨wd.toArray⟩), .slice (some ⟨wr.heap.size + 1, 0, none⟩) 1 1] [⟨nm ++ 58 :: wd, some ⟨wr.heap.size + 1, 0, none⟩, 1, 1⟩] := fun W => Reps.single (by rw [hsc]; rfl)
        have Hsv := Lib.hid hsv
        have Hreps := Lib.hid hreps
        have hxc := Ext.al (Ext.al hxa (.cells #[.int .i64 ((b : Int) + (j : Int))] 3)) (.cells #[.string (⟨nm.toArray⟩ ++ ⟨#[58]⟩ ++ ⟨wd.toArray⟩), .slice (some ⟨wr.heap.size + 1, 0, none⟩) 1 1] 52)
        have Hxc := Lib.hid hxc
        have hs4 := Hls.out.size
        have Hblk := Lib.hid (heap_pos wr (.cells #[.string ⟨wd.toArray⟩, .int .i64 j] 83) (.cells #[.int .i64 ((b : Int) + (j : Int))] 3) (.cells #[.string (⟨nm.toArray⟩ ++ ⟨#[58]⟩ ++ ⟨wd.toArray⟩), .slice (some ⟨wr.heap.size + 1, 0, none⟩) 1 1] 52))
        clear hsv hsc hreps hxc hxa
        gi_wp2_with (gi_at_builtin; go_loud (refine wpListIn_append_l _ rfl (.tmp 27) (.tmp 40) 46 rfl (B + 4) 52 (fun _ => False) (.agg #[.string ⟨#[]⟩, .slice none 0 0]) 40 Try.underlying46 info_term rfl (by decide) (.slice Al P'.length cl) (P'.map toQ) rfl (Hls.out.own.ext Hxc.out) (wr.heap.size + 1 + 1 + 1) (.slice (some ⟨wr.heap.size + 1 + 1, 0, none⟩) 1 1) [⟨nm ++ 58 :: wd, some ⟨wr.heap.size + 1, 0, none⟩, 1, 1⟩] [.string (⟨nm.toArray⟩ ++ ⟨#[58]⟩ ++ ⟨wd.toArray⟩), .slice (some ⟨wr.heap.size + 1, 0, none⟩) 1 1] rfl Hsv.out (Hreps.out _) (by rw [List.length_map]; simp <;> omega) (by omega) (by simp <;> omega) ?_; intro v6 w6 hown6 hg6 hat6; have hadd := Hls.out.add Hxc.out (s := nm ++ 58 :: wd) (p := (b : Int) + (j : Int)) (b := wr.heap.size + 1) Hblk.out (by omega) (I6.mk (by omega)) hown6 hg6; obtain ⟨A6, N6, c6, he6⟩ := hown6.form0; clear hown6 hg6 hat6; subst he6; have hc6 := hadd.2.2.cell; have hf6 := hadd.2.2.frozen; have Hadd := Lib.hid hadd; clear hadd))
        refine ⟨⟨j + 1, _, _, rfl, by omega, Hadd.out.1, ?_, Hkt.out.trans Hadd.out.2.1⟩, by simp only [intOf]; omega⟩
        rw [raws_snoc, Hps.out, Hrf.out, List.append_assoc]
        rfl
      · have hji : ¬(j : Int) < m := by omega
        have hfull : (rawF (⟨nm⟩, ⟨tx⟩) b).take j = rawF (⟨nm⟩, ⟨tx⟩) b := List.take_of_length_le (by rw [rawF_len]; dsimp only; rw [← Hm.out]; omega)
        have Hfull := Lib.hid hfull
        have hk3 := (KT.of_ext B Hx2.out).trans hkt
        have Hk3 := Lib.hid hk3
        clear hls hps hkt hr3 hfull hk3
        gi_wp2
        exact ⟨(Hk3.out.others Hst.out.bl).from _, Hk3.out.kpF Hst.out.bl (by decide), _, P', Hls.out, by rw [Hps.out, Hfull.out, Hnx.out]⟩
  case iter =>
    intro lp Rd W hlw hK hg hsz hR hY
    simp only [World.size_alloc, hBB] at hsz hK
    have hkb : ∀ (k : Nat) (o : Obj), ((w1.alloc (.cells #[.slice none 0 0] 46)).alloc (.cells #[.int .i64 a, .slice A fs.length c] 40)).heap[k]? = some o → W.heap[k]? = some o :=
      fun k o e => (hg.block k (Array.getElem?_eq_some_iff.1 e).1 (fun e => by cases e)).trans e
    have x5 : Ext w1 ((w1.alloc (.cells #[.slice none 0 0] 46)).alloc (.cells #[.int .i64 a, .slice A fs.length c] 40)) := Ext.al (Ext.of_alloc _ _) _
    have x6 : Ext w1 W := Below.grown (row := none) x5 hg x5.size (fun k e => by cases e)
    have h0 : LSt w1 B #[.int .i64 a, .slice A fs.length c] W (.slice none 0 0) [] := by
      refine ⟨hkb _ _ ?_, hkb _ _ ?_, OwnL.nil_ _ _ _ _, fun p hp => (by cases hp), by simp, by rw [← hBB]; exact x6, by omega⟩
      · have := (Boxed.new w1 46 (.slice none 0 0)).alloc (.cells #[.int .i64 a, .slice A fs.length c] 40)
        rw [hBB] at this
        exact this
      · have := heap_alloc_last (w1.alloc (.cells #[.slice none 0 0] 46)) (.cells #[.int .i64 a, .slice A fs.length c] 40)
        rw [World.size_alloc, hBB] at this
        exact this
    refine (based1_in (fun k W => (∃ vl P, LSt w1 B #[.int .i64 a, .slice A fs.length c] W vl P ∧ raws P = rawA 0 (fs.take k)) ∧ Rd W) lp (B + 1) B A c fs hf16 Htx.out ?_ ?_ ?_ W ⟨⟨_, [], h0, rfl⟩, hR⟩).mono ?_
    · rintro k W ⟨⟨vl, P, h, _⟩, _⟩
      exact ⟨by simp [World.cell?, h.be], SL.below (Hv1.out.more fun k hk => by rw [← hBB]; exact hk) h.bel⟩
    · rintro k W W' ⟨⟨vl, P, h, hp⟩, hr⟩ hx
      exact ⟨⟨vl, P, h.ext hx, hp⟩, hK.others _ _ hr (hx.others.from _)⟩
    · rintro k hk W1 ⟨⟨vl, P, h, hp⟩, hr⟩
      have h1 := hY [] k W1 ⟨hk, vl, P, h, hp⟩ hr
      rw [fdAt_eq hk] at h1
      refine h1.mono ?_
      rintro e W' ⟨he, ⟨k', hk', hlt, vl', P', h', hp'⟩, hr', hkf⟩
      obtain rfl : k = k' := by simpa using hk'
      exact ⟨he, ⟨⟨vl', P', h', hp'⟩, hr'⟩, hkf⟩
    · rintro e W' ⟨he, ⟨vl, P, h, hp⟩, hr⟩
      rw [List.take_of_length_le (Nat.le_refl _)] at hp
      exact ⟨he, ⟨vl, P, h, hp⟩, hr⟩
  case done =>
    rintro D W hD ⟨vl, P, hst, hp⟩ hKD
    simp only [World.size_alloc, hBB] at hD
    subst hD
    have hPl : P.length ≤ 100000 := by
      have := congrArg List.length hp
      simp only [raws, List.length_map] at this
      omega
    have hpl := psort_len P
    have Hraw := Lib.hid (psort_raw P)
    rw [hp] at Hraw
    have hbx := hst.bl.cell
    have Hst := Lib.hid hst
    have HKD := Lib.hid hKD
    have Hp := Lib.hid hp
    clear hst hKD hp
    gi_wp2_with fail
    refine ⟨trivial, callsIn_wide.2 ((sort_own W (B + 4) vl P Hst.out.own (by omega) Hst.out.nd).mono ?_)⟩
    rintro e W1 ⟨rfl, ho1, hk1⟩
    obtain ⟨hg1, hb1⟩ := GSt.start Hst.out HKD.out ho1 hk1 (psort_perm P)
    have Htl : Hid (∀ p ∈ psort P, p.1.length ≤ 100) := Lib.hid fun p hpm => by
      have h1 : (p.1, p.2.1) ∈ rawA 0 fs := by rw [← Hp.out]; exact List.mem_map.2 ⟨p, (psort_perm P).mem_iff.1 hpm, rfl⟩
      exact rawA_text fs 0 Hnm.out _ h1
    generalize psort P = P2 at hg1 ho1 Hraw hpl Htl
    have hP2 : P2.length ≤ 100000 := by omega
    clear hpl
    obtain ⟨Al, cl, rfl, _⟩ := ho1.form
    rw [List.length_map] at hg1 hb1 hbx Hst
    have hbc := hb1.cell
    have Hg1 := Lib.hid hg1
    have hs1 := hk1.size
    clear hg1 ho1 hk1 hb1 hbx
    generalize hb1 : W1.heap.size = b1 at Hg1 hs1
    gi_wp2_with fail
    gi_loopw [8, 47] (fun o i wr => ∃ (j : Nat) (G : List Gq), i = .int .i64 j ∧ j ≤ P2.length ∧ G.length ≤ j ∧ (∀ g ∈ G, g.ps.length ≤ j ∧ g.s.length ≤ 100) ∧ GSt w1 B b1 (.slice Al P2.length cl) P2 wr o G (P2.drop j) ∧ grp (G.map tg).reverse (raws (P2.drop j)) = grp [] (raws P2)) (fun _ i _ => P2.length - (intOf i).toNat)
    case atStart => exact ⟨0, [], rfl, Nat.zero_le _, Nat.zero_le _, (fun g hg => by cases hg), by simpa using Hg1.out, by simp⟩
    case round =>
      rename World => wr
      obtain ⟨j, G, rfl, hj, hGl, hGs, hg, hgr⟩ := hrel
      have Hg := Lib.hid hg
      have Hgr := Lib.hid hgr
      have HGs := Lib.hid hGs
      obtain ⟨Ao, co, rfl, _⟩ := hg.orow.form
      rw [List.length_map] at Hg hg ⊢
      by_cases hjm : j < P2.length
      · have hji : (j : Int) < P2.length := by omega
        have hdr := List.drop_eq_getElem_cons hjm
        obtain ⟨ad, rfl, d0, d1⟩ := hg.lrow.sl.tq_at (i := j) (by rw [List.length_map]; exact hjm)
        rw [List.getElem_map] at d0 d1
        have hspl := Htl.out _ (List.getElem_mem hjm)
        generalize P2[j] = p at d0 d1 hdr hspl
        obtain ⟨sp, pos, blk⟩ := p
        simp only [toQ] at d0 d1
        dsimp only at hspl
        have Hspl := Lib.hid hspl
        clear hspl
        rw [hdr] at Hg Hgr
        generalize hR : P2.drop (j + 1) = R at Hg Hgr
        have HR := Lib.hid hR
        clear hR
        have hx1 := Ext.of_alloc wr (.cells #[.string ⟨sp.toArray⟩, .slice (some ⟨blk, 0, none⟩) 1 1] 52)
        clear hg hgr hdr hGs
        rcases List.eq_nil_or_concat G with hG | ⟨G0, g, hG⟩
        · subst hG
          simp only [List.length_nil]
          gi_wp2_with fail
          gi_quiet (fail)
          have Hxq := Lib.hid (Ext.trans hx1 (Ext.drewN _ nq))
          have hsq : ((wr.alloc (.cells #[.string ⟨sp.toArray⟩, .slice (some ⟨blk, 0, none⟩) 1 1] 52)).drewN nq).heap.size = wr.heap.size + 1 := by simp
          have hsv := SV.one_ ((wr.alloc (.cells #[.string ⟨sp.toArray⟩, .slice (some ⟨blk, 0, none⟩) 1 1] 52)).drewN nq) #[.string ⟨sp.toArray⟩, .slice (some ⟨blk, 0, none⟩) 1 1] 52 2 rfl
          rw [hsq] at hsv
          have hreps : ∀ W : World, Reps (α := Tq) W (fun k => False ∧ k < W.heap.size ∧ some k ≠ (Value.slice Ao 0 co).ownBlock) [.string ⟨sp.toArray⟩, .slice (some ⟨blk, 0, none⟩) 1 1] [toQ (sp, pos, blk)] := fun W => Reps.single rfl
          have hxb := Ext.al Hxq.out (.cells #[.string ⟨sp.toArray⟩, .slice (some ⟨blk, 0, none⟩) 1 1] 52)
          have hsb := Hg.out.size
          have Hxb := Lib.hid hxb
          have Hsv := Lib.hid hsv
          have Hreps := Lib.hid hreps
          clear hsv hreps hxb hx1
          gi_wp2_with (gi_at_builtin; go_loud (refine wpListIn_append_l _ rfl (.tmp 78) (.tmp 80) 46 rfl b1 52 (fun _ => False) (.agg #[.string ⟨#[]⟩, .slice none 0 0]) 40 Try.underlying46 info_term rfl (by decide) (.slice Ao 0 co) (([] : List Gq).map Gq.q) rfl (Hg.out.orow.ext Hxb.out) (wr.heap.size + 1 + 1) (.slice (some ⟨wr.heap.size + 1, 0, none⟩) 1 1) [toQ (sp, pos, blk)] [.string ⟨sp.toArray⟩, .slice (some ⟨blk, 0, none⟩) 1 1] rfl Hsv.out (Hreps.out _) (by simp) (by omega) (by simp <;> omega) ?_; intro v6 w6 hown6 hg6 hat6; have hnew := Hg.out.new Hxb.out hown6 hg6; have Hnew := Lib.hid hnew; clear hown6 hg6 hat6 hnew))
          refine ⟨⟨j + 1, [] ++ [gOf (sp, pos, blk)], rfl, by omega, by simp, fun g hg => ?_, by rw [HR.out]; exact Hnew.out, ?_⟩, by simp only [intOf]; omega⟩
          · simp only [List.nil_append, List.mem_singleton] at hg
            subst hg
            exact ⟨by simp [gOf], Hspl.out⟩
          · rw [HR.out, ← Hgr.out]
            rfl
        · rw [List.concat_eq_append] at hG
          obtain ⟨n0, hn0⟩ : ∃ n0, n0 = G0.length := ⟨_, rfl⟩
          have hGn : G.length = n0 + 1 := by rw [hG, hn0]; simp
          obtain ⟨ado, rfl, e0, e1⟩ := Hg.out.orow.sl.tq_at (i := n0) (by rw [List.length_map]; omega)
          have hgq : (G.map Gq.q)[n0]'(by rw [List.length_map]; omega) = g.q := by subst hG hn0; simp
          rw [hgq] at e0 e1
          simp only [Gq.q] at e0 e1
          obtain ⟨gO, hado⟩ : ∃ gO, ado = ⟨gO, 0, none⟩ := by
            obtain ⟨xo, ho, _⟩ := Hg.out.orow
            rw [List.length_map, hGn] at ho
            obtain ⟨gO, cap, e⟩ := ownsRow_succ ho
            simp only [Value.slice.injEq, Option.some.injEq] at e
            exact ⟨gO, e.1⟩
          subst hado
          have ha0 := add_row (rfl : (⟨gO, 0, none⟩ : Addr) = ⟨gO, 0, none⟩) (n0 * 2)
          rw [ha0] at e0 e1
          have f0 := Ext.keeps hx1 e0
          have f1 := Ext.keeps hx1 e1
          obtain ⟨xg, hxg, hrg⟩ := Hg.out.gpos g (by rw [hG]; simp)
          have hpos := Hg.out.rpos (sp, pos, blk) (by simp)
          obtain ⟨cso, hgo⟩ : ∃ cs, wr.heap[gO]? = some (Obj.cells cs 52 (0, 0)) := by
            obtain ⟨xo, ho, _⟩ := Hg.out.orow
            exact row_type ho gO rfl
          obtain ⟨csg, hgg⟩ := Hg.out.lens g (by rw [hG]; simp)
          have hgl := (HGs.out g (by rw [hG]; simp)).1
          have t0 := cell_new wr #[.string ⟨sp.toArray⟩, .slice (some ⟨blk, 0, none⟩) 1 1] 52 0 (v := .string ⟨sp.toArray⟩) rfl
          have t1 := cell_new wr #[.string ⟨sp.toArray⟩, .slice (some ⟨blk, 0, none⟩) 1 1] 52 1 (v := .slice (some ⟨blk, 0, none⟩) 1 1) rfl
          have hn20 : (n0 : Int) ≤ 100000 := by omega
          have HG := Lib.hid hG
          have Hn0 := Lib.hid hn0
          rw [hGn] at Hg ⊢
          have hkk : ((n0 + 1 : Nat) : Int) - 1 = (n0 : Int) := by omega
          clear hG hn0 hGn hgq e0 e1
          by_cases hse : g.s = sp
          · have hsb : (g.s == sp) = true := by simpa using hse
            gi_wp2_with fail
            gi_quiet (fail)
            gi_wp2_with fail
            refine wpIn_wide.2 (wp_norm ?_)
            obtain ⟨i0, hi0, hz0, hz1, hz2⟩ := info_parts info_int
            have hxq := Ext.trans hx1 (Ext.drewN _ nq)
            have Hxg := Lib.hid hxg
            have Hpos := Lib.hid hpos
            have Hxq := Lib.hid hxq
            have Hgo := Lib.hid hgo
            have Hgg := Lib.hid hgg
            have hb4 := Hg.out.b4
            have hbs := Hg.out.size
            clear hxg hpos hxq hgo hgg hx1
            have Hn1 := Lib.hid (show ∀ u ∈ [Value.int .i64 pos], u.oneCell' = true from fun u hu => by
              simp only [List.mem_singleton] at hu
              subst hu
              rfl)
            have H63 := Lib.hid (show g.ps.length + 1 ≤ maxLen by unfold maxLen; omega)
            have Hby := Lib.hid (show (g.ps.length + 1) * 8 ≤ 140737488355328 by omega)
            have Hba := Lib.hid (show B + 4 ≤ wr.heap.size by omega)
            have hne : some gO ≠ some g.blk := fun e => by
              injection e with e
              have h1 := Hgo.out
              rw [e, Hgg.out] at h1
              injection h1 with h1
              injection h1 with _ h1 _
              exact absurd h1 (by decide)
            have Hne := Lib.hid hne
            have hb0 : (0 : Int) ≤ (n0 : Int) := by omega
            have hb1' : (n0 : Int) < (n0 : Int) + 1 := by omega
            have hb2 : (n0 : Int) < ((n0 + 1 : Nat) : Int) := by omega
            clear hne
            go_region_law ((refine step_append_lies _ (by rfl) _ _ _ (by rfl) (B + 4) 3 i0 (.int .i64 0) 1 8 Try.underlying50 hi0 hz0 hz1 hz2 rfl (by decide) (.slice (some ⟨g.blk, 0, none⟩) g.ps.length g.cap) g.ps.length xg (by rfl) (ownsRow_ext Hxg.out (Ext.trans Hxq.out (Ext.drew _))) ⟨blk, 0, none⟩ 1 1 [.int .i64 pos] (by rfl) rfl (World.news_of_block (cs := #[.int .i64 pos]) (heap_up Hpos.out.1 (Ext.trans Hxq.out (Ext.drew _)))) Hn1.out (by decide) H63.out Hby.out (Nat.le_trans Hba.out (Ext.trans Hxq.out (Ext.drew _)).size) _ rfl ?_; intro b6 c6 w6 hown6 hg6 hat6 hlt6; have z1 := (hg6.cell_far ⟨gO, n0 * 2 + 1, none⟩ (Array.getElem?_eq_some_iff.1 (heap_up Hgo.out (Ext.trans Hxq.out (Ext.drew _)))).1 Hne.out).trans f1; have z2 := (hg6.frozen_far ⟨gO, n0 * 2 + 1, none⟩ (Array.getElem?_eq_some_iff.1 (heap_up Hgo.out (Ext.trans Hxq.out (Ext.drew _)))).1 Hne.out).trans (Lib.frozen_of_heap (heap_up Hgo.out (Ext.trans Hxq.out (Ext.drew _))) _); have Hown6 := Lib.hid hown6; have Hg6 := Lib.hid hg6; have Hat6 := Lib.hid hat6; clear hown6 hg6 hat6))
            all_goals simp only [normPost]
            all_goals gi_wp2
            all_goals
              have h0 := Hg.out
              rw [HG.out] at h0
              have h1 := h0.same (Ext.trans Hxq.out (Ext.drew _)) ⟨xg ++ [.int .i64 pos], by rw [List.length_append]; exact Hown6.out, own_more hrg Hpos.out.2.2⟩ Hg6.out (hat_blk Hat6.out)
              rw [← Hn0.out] at h1
              have hgr := Hgr.out
              rw [HG.out, grp_same hse b6 c6] at hgr
              have hlg := congrArg List.length HG.out
              rw [List.length_append, List.length_singleton] at hlg
              refine ⟨⟨j + 1, G0 ++ [⟨g.s, b6, c6, g.ps ++ [pos]⟩], rfl, by omega, by rw [List.length_append, List.length_singleton]; omega, fun g' hg' => ?_, by rw [HR.out]; exact h1, by rw [HR.out]; exact hgr⟩, by simp only [intOf]; omega⟩
              rcases List.mem_append.1 hg' with hg' | hg'
              · have := HGs.out g' (by rw [HG.out]; simp [hg'])
                exact ⟨by omega, this.2⟩
              · simp only [List.mem_singleton] at hg'
                subst hg'
                have := HGs.out g (by rw [HG.out]; simp)
                exact ⟨by rw [List.length_append, List.length_singleton]; omega, this.2⟩
          · have hsb : (g.s == sp) = false := by simpa using hse
            gi_wp2_with fail
            gi_quiet (fail)
            have Hxq := Lib.hid (Ext.trans hx1 (Ext.drewN _ nq))
            have hsq : ((wr.alloc (.cells #[.string ⟨sp.toArray⟩, .slice (some ⟨blk, 0, none⟩) 1 1] 52)).drewN nq).heap.size = wr.heap.size + 1 := by simp
            have hsv := SV.one_ ((wr.alloc (.cells #[.string ⟨sp.toArray⟩, .slice (some ⟨blk, 0, none⟩) 1 1] 52)).drewN nq) #[.string ⟨sp.toArray⟩, .slice (some ⟨blk, 0, none⟩) 1 1] 52 2 rfl
            rw [hsq] at hsv
            have hreps : ∀ W : World, Reps (α := Tq) W (fun k => False ∧ k < W.heap.size ∧ some k ≠ (Value.slice (some ⟨gO, 0, none⟩) (n0 + 1) co).ownBlock) [.string ⟨sp.toArray⟩, .slice (some ⟨blk, 0, none⟩) 1 1] [toQ (sp, pos, blk)] := fun W => Reps.single rfl
            have hxb := Ext.al Hxq.out (.cells #[.string ⟨sp.toArray⟩, .slice (some ⟨blk, 0, none⟩) 1 1] 52)
            have hsb2 := Hg.out.size
            have hlg := congrArg List.length HG.out
            rw [List.length_append, List.length_singleton] at hlg
            have Hlg := Lib.hid hlg
            have HG100 : Hid (G.length ≤ 100000) := Lib.hid (by omega)
            have Hxb := Lib.hid hxb
            have Hsv := Lib.hid hsv
            have Hreps := Lib.hid hreps
            clear hsv hreps hxb hx1 hlg
            gi_wp2_with (gi_at_builtin; go_loud (refine wpListIn_append_l _ rfl (.tmp 78) (.tmp 80) 46 rfl b1 52 (fun _ => False) (.agg #[.string ⟨#[]⟩, .slice none 0 0]) 40 Try.underlying46 info_term rfl (by decide) (.slice (some ⟨gO, 0, none⟩) (n0 + 1) co) (G.map Gq.q) rfl (Hg.out.orow.ext Hxb.out) (wr.heap.size + 1 + 1) (.slice (some ⟨wr.heap.size + 1, 0, none⟩) 1 1) [toQ (sp, pos, blk)] [.string ⟨sp.toArray⟩, .slice (some ⟨blk, 0, none⟩) 1 1] rfl Hsv.out (Hreps.out _) (by have := HG100.out; rw [List.length_map]; simp <;> omega) (by omega) (by simp <;> omega) ?_; intro v6 w6 hown6 hg6 hat6; have hnew := Hg.out.new Hxb.out hown6 hg6; have Hnew := Lib.hid hnew; clear hown6 hg6 hat6 hnew))
            have hgr := Hgr.out
            rw [HG.out, grp_new hse, ← HG.out] at hgr
            refine ⟨⟨j + 1, G ++ [gOf (sp, pos, blk)], rfl, by omega, by rw [List.length_append, List.length_singleton]; omega, fun g' hg' => ?_, by rw [HR.out]; exact Hnew.out, by rw [HR.out]; exact hgr⟩, by simp only [intOf]; omega⟩
            rcases List.mem_append.1 hg' with hg' | hg'
            · have := HGs.out g' hg'
              exact ⟨by omega, this.2⟩
            · simp only [List.mem_singleton] at hg'
              subst hg'
              exact ⟨by simp [gOf], Hspl.out⟩
      · have hji : ¬(j : Int) < P2.length := by omega
        have hdn : P2.drop j = [] := List.drop_of_length_le (by omega)
        rw [hdn] at Hg Hgr
        have hres : G.map tg = termsL fs := by
          have h1 := Hgr.out
          have h2 : grp (G.map tg).reverse (raws []) = G.map tg := by simp [raws, grp]
          rw [h2] at h1
          rw [h1, Hraw.out]
          rfl
        have Hres := Lib.hid hres
        have hsl := Hg.out.res fun g hg => (HGs.out g hg).2
        have Hsl := Lib.hid hsl
        have hbel := Hg.out.bel
        have Hbel := Lib.hid hbel
        have hdf := Hg.out.dfr
        clear hdn hres hsl hbel hg hgr hGs
        gi_wp2
        refine ⟨by simp, .inl ⟨_, _, rfl, run_takeDeferred hdf, ?_⟩⟩
        refine ⟨_, results_tmp rfl _ _ _, _, rfl, ?_, ?_⟩
        · rw [← Hres.out, List.map_map]
          exact Hsl.out
        · have h1 : Ext w1 wr := by
            show Below w1.heap.size w1 wr
            rw [hBB]
            exact Hbel.out
          have h2 := Ext.trans Hx1.out h1
          exact h2.grown (grownBy_putObj' wr (B + 2) (.deferred none)) h2.size (fun k e => by injection e with e; omega)
end Go.Proofs.Ytbnjhpknagkiaaa
