/-
  Contract of the reference's add (chapter 10).
  Conditions: texts of at most 1,000 bytes; at most 1,000,000 terms and places of one.
-/
import Derived.Test.YtbnjhpknagkiaaaNk
import Derived.Test.YtbnjhpknagkiaaaUc
import Derived.Deep.WholeRow
namespace Go.Proofs.Ytbnjhpknagkiaaa
open Go.RowKit Go.Op

theorem SL.svS {α : Type} [Rep α] {w : World} {S : Nat → Prop} {v : Value} {l : List α} (h : SL w S v l) (hS : ∀ k, S k → k < w.heap.size) : ∃ xs, SV w w.heap.size (Rep.n α) v l.length xs ∧ Reps w S xs l := by
  obtain ⟨A, c, xs, e, h1, h2, h3, h4, h5⟩ := h
  exact ⟨xs, ⟨A, c, e, h1, h2, h3, (h4.more hS).rd⟩, h5⟩
/-- a new row of no element, of no room -/
theorem OwnL.empty_ {α : Type} [Rep α] (w : World) (e t : TypeId) (S : Nat → Prop) (he : e = t) : OwnL (α := α) (w.alloc (.cells #[] t)) w.heap.size e S (.slice (some ⟨w.heap.size, 0, none⟩) 0 0) [] := by
  subst he
  exact ⟨[], World.ownsRow_made w #[] 0 (by simp) (by simp [maxLen]) (by simp), rfl⟩
theorem OwnL.form0 {α : Type} [Rep α] {w : World} {base : Nat} {e : TypeId} {S : Nat → Prop} {v : Value} {l : List α} (h : OwnL w base e S v l) : ∃ A n c, v = .slice A n c := by
  obtain ⟨A, c, h, _⟩ := h.form
  exact ⟨A, _, c, h⟩
theorem info_rterm : (Try.prog.info? 53).map (fun i => (i.zero, i.size, i.bytes)) = some (some (.agg #[.string ⟨#[]⟩, .slice none 0 0]), 2, 40) := by kernel_rfl
theorem tgT_len (L : List TG) : (L.map tgT).length = L.length := List.length_map ..
theorem reps_ints0 {w W : World} {S T : Nat → Prop} : ∀ {l : List Int} {xs : List Value}, Reps w S xs l → Reps W T xs l
  | [], _, h => h
  | _ :: _, _, h => by
    obtain ⟨cs, rest, e, h1, h2⟩ := h
    exact ⟨cs, rest, e, h1, reps_ints0 h2⟩
theorem sl_ints {w : World} {base : Nat} {e : TypeId} {v : Value} {l : List Int} (h : OwnL w base e (fun _ => False) v l) : SL w (fun k => base ≤ k ∧ k < w.heap.size) v l := h.sl_own fun _ _ _ _ hr => reps_ints0 hr
theorem own_lt {α : Type} [Rep α] {w : World} {base : Nat} {e : TypeId} {S : Nat → Prop} {v : Value} {l : List α} (h : OwnL w base e S v l) : ∀ j, v.ownBlock = some j → base ≤ j ∧ j < w.heap.size := by
  intro j hj
  obtain ⟨xs, h1, _⟩ := h
  exact World.ownsRow.lt h1 j hj
theorem own_new1 (w : World) {p : Int} (hp : I6 p) : OwnL (w.alloc (.cells #[.int .i64 p] 3)) w.heap.size 3 (fun _ => False) (.slice (some ⟨w.heap.size, 0, none⟩) 1 1) [p] :=
  ⟨[.int .i64 p], ⟨rfl, .inr ⟨w.heap.size, 1, _, rfl, Nat.le_refl _, heap_alloc_last w _, Nat.le_refl _, by unfold maxLen; omega, rfl, rfl⟩⟩, Reps.single ⟨rfl, hp⟩⟩
/-- a new term -/
theorem rep_new {w6 w8 : World} {b : Nat} {s : List UInt8} {v6 v8 : Value} {qs : List Int} (hs : s.length ≤ 1000) (h8 : OwnL w8 w6.heap.size 3 (fun _ => False) v8 qs) (h6 : ∀ j, v6.ownBlock = some j → b ≤ j ∧ j < w6.heap.size) :
    Reps (α := Tx × List Int) (w8.alloc (.cells #[.string ⟨s.toArray⟩, v8] 53)) (fun k => True ∧ k < (w8.alloc (.cells #[.string ⟨s.toArray⟩, v8] 53)).heap.size ∧ some k ≠ v6.ownBlock) [.string ⟨s.toArray⟩, v8] [((⟨s⟩ : Tx), qs)] :=
  Reps.single ⟨[_], [_], rfl, ⟨rfl, by show s.length ≤ maxLen; unfold maxLen; omega⟩, _, rfl, ((sl_ints h8).keep (Sm.of_ext (Ext.of_alloc w8 _) fun k hk => hk.2)).more fun k hk => ⟨trivial, by simp; omega, fun e => by have := h6 k e.symm; omega⟩⟩

set_option maxHeartbeats 16000000 in
set_option maxRecDepth 100000 in
theorem radd_any (w : World) (v : Value) (L : List TG) (s : List UInt8) (p : Int) (hv : SL w (Bw w) v (L.map tgT)) (hs : s.length ≤ 1000) (hL : ∀ t ∈ L, t.1.length ≤ 1000 ∧ t.2.length ≤ 1000000) (hl : L.length ≤ 1000000) (hp : I6 p) :
    Calls Try.prog 52 #[v, .string ⟨s.toArray⟩, .int .i64 p] w fun e w' => ∃ u, e = .returned u ∧ SL w' (Bw w') u ((addL L (s, p)).map tgT) ∧ Ext w w' := by
  obtain ⟨A, c, rfl, hc, hm⟩ := hv.form
  have hlen := tgT_len L
  rw [hlen] at hv hc ⊢
  have Hv := Lib.hid hv
  have HL := Lib.hid hL
  have Hp := Lib.hid hp
  have Hlen := Lib.hid hlen
  clear hv hL hp hlen
  go_enter Try.func52, Try.ntmps52
  go_wp2_with fail
  go_loopw [7] (fun iv wr => ∃ k : Nat, iv = .int .i64 k ∧ k ≤ L.length ∧ (∀ x ∈ L.take k, cmpT x.1 s < 0) ∧ Ext w wr) (fun iv _ => L.length - (intOf iv).toNat)
  case atStart => exact ⟨0, rfl, Nat.zero_le _, by simp, Below.refl _ _⟩
  case round =>
    obtain ⟨k, rfl, hk, hA, hx⟩ := hrel
    have HA := Lib.hid hA
    have Hx := Lib.hid hx
    clear hA hx
    by_cases hlk : k < L.length
    · have hkl : (k : Int) < L.length := by omega
      obtain ⟨ad, u, rfl, d0, d1, hu⟩ := Hv.out.trm_at (i := k) (by rw [Hlen.out]; exact hlk)
      rw [List.getElem_map] at d0 hu
      have hT := HL.out _ (List.getElem_mem hlk)
      have htk : L.take (k + 1) = L.take k ++ [L[k]] := List.take_succ_eq_append_getElem hlk
      have hsame : (L[k]).1 = s → addL (L.drop k) (s, p) = (s, (L[k]).2 ++ [p]) :: L.drop (k + 1) := fun he => addL_same hlk he
      have hnew : ¬cmpT (L[k]).1 s < 0 → ¬(L[k]).1 = s → addL (L.drop k) (s, p) = (s, [p]) :: L.drop k := fun h1 h2 => addL_new (fun _ => ⟨h1, h2⟩)
      generalize L[k] = T at d0 hu hT htk hsame hnew
      obtain ⟨t, ps⟩ := T
      simp only [tgT] at d0 hu
      dsimp only at hT hsame hnew
      have q0 := Ext.keeps Hx.out d0
      have q1 := Ext.keeps Hx.out d1
      obtain ⟨ht, hps⟩ := hT
      have Htk := Lib.hid htk
      have Hsame := Lib.hid hsame
      have Hnew := Lib.hid hnew
      have Hu := Lib.hid hu
      obtain ⟨Au, cu, rfl, hcu, hmu⟩ := hu.form
      clear htk hsame hnew d0 d1 hu
      have hrl := Lib.hid (rless_any wr t s (by omega))
      by_cases hlt : cmpT t s < 0
      · have hd : decide (cmpT t s < 0) = true := decide_eq_true hlt
        have HA2 : Hid (∀ x ∈ L.take (k + 1), cmpT x.1 s < 0) := Lib.hid (by
          intro x hx
          rw [Htk.out] at hx
          rcases List.mem_append.1 hx with hx | hx
          · exact HA.out x hx
          · simp only [List.mem_singleton] at hx
            subst hx
            exact hlt)
        clear hlt
        go_wp2_with fail
        refine hrl.out.mono ?_
        rintro e w2 ⟨rfl, hx2⟩
        rw [hd]
        have Hx2 := Lib.hid (Ext.trans Hx.out hx2)
        clear hx2 hd
        go_wp2
        exact ⟨⟨k + 1, by go_num, by omega, HA2.out, Hx2.out⟩, by simp only [intOf]; omega⟩
      · have hd : decide (cmpT t s < 0) = false := decide_eq_false hlt
        have Hlt := Lib.hid hlt
        clear hlt
        go_wp2_with fail
        refine hrl.out.mono ?_
        rintro e w2 ⟨rfl, hx2⟩
        rw [hd]
        have Hx2 := Lib.hid (Ext.trans Hx.out hx2)
        have Hx2b := Lib.hid hx2
        have hsz2 := Hx2.out.size
        have Hu1 := Lib.hid q0
        have Hu2 := Lib.hid q1
        clear q0 q1 hx2 hd
        by_cases hts : t = s
        · have hsb : (t == s) = true := by rw [hts]; simp
          have Hres := Lib.hid ((addL_at HA.out).trans (congrArg (L.take k ++ ·) (Hsame.out hts)))
          clear hts
          have hvd := SL.cut_ (k := k + 1) (l := L.map tgT) (by rw [Hlen.out]; exact Hv.out) (by rw [Hlen.out]; omega)
          rw [Hlen.out] at hvd
          by_cases hck : c = k + 1
          · subst hck
            rw [if_pos rfl, Nat.sub_self, show L.length - (k + 1) = 0 by omega] at hvd
            have Hvd := Lib.hid hvd
            clear hvd
            have hdl : ((L.map tgT).drop (k + 1)).length = L.length - (k + 1) := by rw [List.length_drop, Hlen.out]
            have Hdl := Lib.hid hdl
            clear hdl
            have hx3 : Ext w (w2.alloc (.cells #[] 53)) := Ext.al Hx2.out _
            have hvk := SL.take_ (k := k) (l := L.map tgT) (by rw [Hlen.out]; exact Hv.out) (by rw [Hlen.out]; omega)
            obtain ⟨news, hsv, hreps⟩ := SL.svS (hvk.keep (Sm.of_ext hx3 fun k hk => hk)) (fun k hk => by have := hx3.size; simp only [Bw] at hk; omega)
            have hlk2 : ((L.map tgT).take k).length = k := by rw [List.length_take, Hlen.out]; omega
            have hreps3 : Reps (α := Tx × List Int) (w2.alloc (.cells #[] 53)) (fun k => k < w.heap.size ∧ k < (w2.alloc (.cells #[] 53)).heap.size ∧ some k ≠ (Value.slice (some ⟨w2.heap.size, 0, none⟩) 0 0).ownBlock) news ((L.map tgT).take k) := hreps.more fun k hk => ⟨hk, by simp only [Bw] at hk; simp; omega, fun e => by simp only [Bw] at hk; simp [Value.ownBlock] at e; omega⟩
            have Hsv := Lib.hid hsv
            have Hreps3 := Lib.hid hreps3
            have Hx3 := Lib.hid hx3
            have Hlk2 := Lib.hid hlk2
            clear hsv hreps hreps3 hx3 hvk hlk2
            go_wp2_with (first
              | (at_builtin; (refine wpList_append_l _ rfl (.tmp 57) (.tmp 61) 48 rfl w.heap.size 53 (fun _ => True) (.agg #[.string ⟨#[]⟩, .slice none 0 0]) 40 Try.underlying48 info_rterm rfl (by decide) (.slice A9 n9 c9) ((L.map tgT).take k ++ [((⟨s⟩ : Tx), ps ++ [p])]) rfl Hown9.out _ (.slice (some ad) 0 0) ((L.map tgT).drop (k + 1)) nrs rfl Hsvr.out Hrr.out (by rw [List.length_append, Hlk2.out, Hdl.out]; simp; omega) (by omega) (by omega) ?_; intro v10 w10 hown10 hg10 hat10; have hx10 : Ext w w10 := Below.grown Hx9.out hg10 (by omega) (fun j hj => Hown9.out.ge j hj); have Hown10 := Lib.hid hown10; have Hx10 := Lib.hid hx10; clear hown10 hg10 hat10 hx10))
              | (at_builtin; (refine wpList_append_l _ rfl (.tmp 42) (.tmp 55) 48 rfl w.heap.size 53 (fun _ => True) (.agg #[.string ⟨#[]⟩, .slice none 0 0]) 40 Try.underlying48 info_rterm rfl (by decide) (.slice A6 n6 c6) ((L.map tgT).take k) rfl (Hol8.out.ext (Ext.of_alloc w8 _)) (w8.heap.size + 1) (.slice (some ⟨w8.heap.size, 0, none⟩) 1 1) [((⟨s⟩ : Tx), ps ++ [p])] [.string ⟨s.toArray⟩, .slice A8 n8 c8] rfl Hsv9.out Hrp8.out (by rw [Hlk2.out]; simp; omega) (by omega) (by simp; omega) ?_; intro v9 w9 hown9 hg9 hat9; have hx9 : Ext w w9 := Below.grown (Ext.al (Ext.trans Hx6.out Hx8.out) _) hg9 (by simp; omega) (fun j hj => (Hlt6.out j hj).1); obtain ⟨nrs, hsvr, hrr⟩ := SL.svS (Hvd.out.keep (Sm.of_ext hx9 fun k hk => hk)) (fun k hk => by have := hx9.size; simp only [Bw] at hk; omega); have hrr9 := hrr.more (S' := fun k => True ∧ k < w9.heap.size ∧ some k ≠ v9.ownBlock) (fun k hk => ⟨trivial, by have := hx9.size; simp only [Bw] at hk; omega, fun e => by have := hown9.ge k e.symm; simp only [Bw] at hk; omega⟩); have hl9 : ∃ q, q = ((L.map tgT).take k ++ [((⟨s⟩ : Tx), ps ++ [p])]).length := ⟨_, rfl⟩; have Hsvr := Lib.hid hsvr; have Hrr := Lib.hid hrr9; have hv9 := hown9.form0; obtain ⟨A9, n9, c9, rfl⟩ := hv9; have Hown9 := Lib.hid hown9; have Hx9 := Lib.hid hx9; have hsz9 := hx9.size; clear hown9 hg9 hat9 hx9 hsvr hrr hrr9 hl9))
              | (at_builtin; (refine wpList_append_l _ rfl (.tmp 50) (.tmp 52) 50 rfl w6.heap.size 3 (fun _ => False) (.int .i64 0) 8 Try.underlying50 info_int rfl (by decide) (.slice A7 n7 c7) ps rfl (Hown7.out.ext (Ext.of_alloc w7 _)) (w7.heap.size + 1) (.slice (some ⟨w7.heap.size, 0, none⟩) 1 1) [p] [.int .i64 p] rfl Hsv8.out (Reps.single ⟨rfl, Hp.out⟩) (by simp; omega) (by omega) (by simp; omega) ?_; intro v8 w8 hown8 hg8 hat8; have hx8 : Ext w6 w8 := Below.grown (Ext.al Hx7.out _) hg8 (by simp; omega) (fun j hj => Hown7.out.ge j hj); have hv8 := hown8.form0; obtain ⟨A8, n8, c8, rfl⟩ := hv8; have Hown8 := Lib.hid hown8; have Hx8 := Lib.hid hx8; have hsz8 := hx8.size; have hsv9 := SV.one_ w8 #[.string ⟨s.toArray⟩, .slice A8 n8 c8] 53 2 rfl; have Hol8 := Lib.hid ((Hol.out.ext hx8).more (S' := fun _ => True) fun _ _ => trivial); have hrp8 := rep_new (s := s) hs Hown8.out Hlt6.out; have Hsv9 := Lib.hid hsv9; have Hrp8 := Lib.hid hrp8; clear hown8 hg8 hat8 hx8 hsv9 hrp8))
              | (at_builtin; (refine wpList_append_l _ rfl (.tmp 44) (.tmp 49) 50 rfl w6.heap.size 3 (fun _ => False) (.int .i64 0) 8 Try.underlying50 info_int rfl (by decide) (.slice (some ⟨w6.heap.size, 0, none⟩) 0 0) [] rfl (OwnL.empty_ w6 _ _ _ rfl) _ (.slice Au ps.length cu) ps nps rfl Hsvp.out (reps_ints0 Hrp.out) (by simp; omega) (by omega) (by simp) ?_; intro v7 w7 hown7 hg7 hat7; rw [List.nil_append] at hown7; have hx7 : Ext w6 w7 := Below.grown (Ext.of_alloc w6 _) hg7 (by simp) (fun j hj => by simp [Value.ownBlock] at hj; omega); have hv7 := hown7.form0; obtain ⟨A7, n7, c7, rfl⟩ := hv7; have Hown7 := Lib.hid hown7; have Hx7 := Lib.hid hx7; have hsz7 := hx7.size; have hsv8 := SV.one_ w7 #[.int .i64 p] 3 1 rfl; have Hsv8 := Lib.hid hsv8; clear hown7 hg7 hat7 hx7 hsv8))
              | (at_builtin; (refine wpList_append_l _ rfl (.tmp 24) (.tmp 27) 48 rfl w.heap.size 53 (fun j => j < w.heap.size) (.agg #[.string ⟨#[]⟩, .slice none 0 0]) 40 Try.underlying48 info_rterm rfl (by decide) (.slice (some ⟨w2.heap.size, 0, none⟩) 0 0) [] rfl ((OwnL.empty_ w2 _ _ _ rfl).base_ hsz2) _ (.slice (some ad) k (k + 1)) ((L.map tgT).take k) news rfl Hsv.out Hreps3.out (by rw [Hlk2.out]; simp; omega) (by omega) (by simp; omega) ?_; intro v6 w6 hown6 hg6 hat6; rw [List.nil_append] at hown6; have hx6 : Ext w w6 := Below.grown Hx3.out hg6 (by simp; omega) (fun j hj => by simp [Value.ownBlock] at hj; omega); have hx36 : Ext w2 w6 := Below.grown (Ext.of_alloc w2 _) hg6 (by simp) (fun j hj => by simp [Value.ownBlock] at hj; omega); have z0 := Ext.keeps hx36 (Ext.keeps Hx2b.out Hu1.out); have z1 := Ext.keeps hx36 (Ext.keeps Hx2b.out Hu2.out); have hv6 := hown6.form0; obtain ⟨A6, n6, c6, rfl⟩ := hv6; have Hol := Lib.hid hown6; have Hx6 := Lib.hid hx6; have hsz6 := hx6.size; have hlt6 := own_lt Hol.out; have Hlt6 := Lib.hid hlt6; have y6 := Ext.of_alloc w6 (.cells #[] 3); have z2 := Ext.keeps y6 z1; obtain ⟨nps, hsvp, hrp⟩ := SL.svS (Hu.out.keep (Sm.of_ext (Ext.trans Hx6.out y6) fun k hk => hk)) (fun k hk => by have := (Ext.trans Hx6.out y6).size; simp only [Bw] at hk; omega); have Hsvp := Lib.hid hsvp; have Hrp := Lib.hid hrp; clear hown6 hg6 hat6 hx6 hx36 hsvp hrp hlt6 y6))
              | go_in)
            go_ret
            refine ⟨_, rfl, ?_, Hx10.out⟩
            have hf := Hown10.out.sl
            rw [Hres.out]
            simpa [tgT, List.map_take, List.map_drop] using hf
          · rw [if_neg hck] at hvd
            have Hvd : Hid (SL w (Bw w) (.slice (some (ad.add ((k + 1) * 2))) (L.length - (k + 1)) (c - (k + 1))) ((L.map tgT).drop (k + 1))) := Lib.hid hvd
            clear hvd
            have hdl : ((L.map tgT).drop (k + 1)).length = L.length - (k + 1) := by rw [List.length_drop, Hlen.out]
            have Hdl := Lib.hid hdl
            clear hdl
            have hx3 : Ext w (w2.alloc (.cells #[] 53)) := Ext.al Hx2.out _
            have hvk := SL.take_ (k := k) (l := L.map tgT) (by rw [Hlen.out]; exact Hv.out) (by rw [Hlen.out]; omega)
            obtain ⟨news, hsv, hreps⟩ := SL.svS (hvk.keep (Sm.of_ext hx3 fun k hk => hk)) (fun k hk => by have := hx3.size; simp only [Bw] at hk; omega)
            have hlk2 : ((L.map tgT).take k).length = k := by rw [List.length_take, Hlen.out]; omega
            have hreps3 : Reps (α := Tx × List Int) (w2.alloc (.cells #[] 53)) (fun k => k < w.heap.size ∧ k < (w2.alloc (.cells #[] 53)).heap.size ∧ some k ≠ (Value.slice (some ⟨w2.heap.size, 0, none⟩) 0 0).ownBlock) news ((L.map tgT).take k) := hreps.more fun k hk => ⟨hk, by simp only [Bw] at hk; simp; omega, fun e => by simp only [Bw] at hk; simp [Value.ownBlock] at e; omega⟩
            have Hsv := Lib.hid hsv
            have Hreps3 := Lib.hid hreps3
            have Hx3 := Lib.hid hx3
            have Hlk2 := Lib.hid hlk2
            clear hsv hreps hreps3 hx3 hvk hlk2
            go_wp2_with (first
              | (at_builtin; (refine wpList_append_l _ rfl (.tmp 57) (.tmp 61) 48 rfl w.heap.size 53 (fun _ => True) (.agg #[.string ⟨#[]⟩, .slice none 0 0]) 40 Try.underlying48 info_rterm rfl (by decide) (.slice A9 n9 c9) ((L.map tgT).take k ++ [((⟨s⟩ : Tx), ps ++ [p])]) rfl Hown9.out _ (.slice (some (ad.add ((k + 1) * 2))) (L.length - (k + 1)) (c - (k + 1))) ((L.map tgT).drop (k + 1)) nrs rfl Hsvr.out Hrr.out (by rw [List.length_append, Hlk2.out, Hdl.out]; simp; omega) (by omega) (by omega) ?_; intro v10 w10 hown10 hg10 hat10; have hx10 : Ext w w10 := Below.grown Hx9.out hg10 (by omega) (fun j hj => Hown9.out.ge j hj); have Hown10 := Lib.hid hown10; have Hx10 := Lib.hid hx10; clear hown10 hg10 hat10 hx10))
              | (at_builtin; (refine wpList_append_l _ rfl (.tmp 42) (.tmp 55) 48 rfl w.heap.size 53 (fun _ => True) (.agg #[.string ⟨#[]⟩, .slice none 0 0]) 40 Try.underlying48 info_rterm rfl (by decide) (.slice A6 n6 c6) ((L.map tgT).take k) rfl (Hol8.out.ext (Ext.of_alloc w8 _)) (w8.heap.size + 1) (.slice (some ⟨w8.heap.size, 0, none⟩) 1 1) [((⟨s⟩ : Tx), ps ++ [p])] [.string ⟨s.toArray⟩, .slice A8 n8 c8] rfl Hsv9.out Hrp8.out (by rw [Hlk2.out]; simp; omega) (by omega) (by simp; omega) ?_; intro v9 w9 hown9 hg9 hat9; have hx9 : Ext w w9 := Below.grown (Ext.al (Ext.trans Hx6.out Hx8.out) _) hg9 (by simp; omega) (fun j hj => (Hlt6.out j hj).1); obtain ⟨nrs, hsvr, hrr⟩ := SL.svS (Hvd.out.keep (Sm.of_ext hx9 fun k hk => hk)) (fun k hk => by have := hx9.size; simp only [Bw] at hk; omega); have hrr9 := hrr.more (S' := fun k => True ∧ k < w9.heap.size ∧ some k ≠ v9.ownBlock) (fun k hk => ⟨trivial, by have := hx9.size; simp only [Bw] at hk; omega, fun e => by have := hown9.ge k e.symm; simp only [Bw] at hk; omega⟩); have hl9 : ∃ q, q = ((L.map tgT).take k ++ [((⟨s⟩ : Tx), ps ++ [p])]).length := ⟨_, rfl⟩; have Hsvr := Lib.hid hsvr; have Hrr := Lib.hid hrr9; have hv9 := hown9.form0; obtain ⟨A9, n9, c9, rfl⟩ := hv9; have Hown9 := Lib.hid hown9; have Hx9 := Lib.hid hx9; have hsz9 := hx9.size; clear hown9 hg9 hat9 hx9 hsvr hrr hrr9 hl9))
              | (at_builtin; (refine wpList_append_l _ rfl (.tmp 50) (.tmp 52) 50 rfl w6.heap.size 3 (fun _ => False) (.int .i64 0) 8 Try.underlying50 info_int rfl (by decide) (.slice A7 n7 c7) ps rfl (Hown7.out.ext (Ext.of_alloc w7 _)) (w7.heap.size + 1) (.slice (some ⟨w7.heap.size, 0, none⟩) 1 1) [p] [.int .i64 p] rfl Hsv8.out (Reps.single ⟨rfl, Hp.out⟩) (by simp; omega) (by omega) (by simp; omega) ?_; intro v8 w8 hown8 hg8 hat8; have hx8 : Ext w6 w8 := Below.grown (Ext.al Hx7.out _) hg8 (by simp; omega) (fun j hj => Hown7.out.ge j hj); have hv8 := hown8.form0; obtain ⟨A8, n8, c8, rfl⟩ := hv8; have Hown8 := Lib.hid hown8; have Hx8 := Lib.hid hx8; have hsz8 := hx8.size; have hsv9 := SV.one_ w8 #[.string ⟨s.toArray⟩, .slice A8 n8 c8] 53 2 rfl; have Hol8 := Lib.hid ((Hol.out.ext hx8).more (S' := fun _ => True) fun _ _ => trivial); have hrp8 := rep_new (s := s) hs Hown8.out Hlt6.out; have Hsv9 := Lib.hid hsv9; have Hrp8 := Lib.hid hrp8; clear hown8 hg8 hat8 hx8 hsv9 hrp8))
              | (at_builtin; (refine wpList_append_l _ rfl (.tmp 44) (.tmp 49) 50 rfl w6.heap.size 3 (fun _ => False) (.int .i64 0) 8 Try.underlying50 info_int rfl (by decide) (.slice (some ⟨w6.heap.size, 0, none⟩) 0 0) [] rfl (OwnL.empty_ w6 _ _ _ rfl) _ (.slice Au ps.length cu) ps nps rfl Hsvp.out (reps_ints0 Hrp.out) (by simp; omega) (by omega) (by simp) ?_; intro v7 w7 hown7 hg7 hat7; rw [List.nil_append] at hown7; have hx7 : Ext w6 w7 := Below.grown (Ext.of_alloc w6 _) hg7 (by simp) (fun j hj => by simp [Value.ownBlock] at hj; omega); have hv7 := hown7.form0; obtain ⟨A7, n7, c7, rfl⟩ := hv7; have Hown7 := Lib.hid hown7; have Hx7 := Lib.hid hx7; have hsz7 := hx7.size; have hsv8 := SV.one_ w7 #[.int .i64 p] 3 1 rfl; have Hsv8 := Lib.hid hsv8; clear hown7 hg7 hat7 hx7 hsv8))
              | (at_builtin; (refine wpList_append_l _ rfl (.tmp 24) (.tmp 27) 48 rfl w.heap.size 53 (fun j => j < w.heap.size) (.agg #[.string ⟨#[]⟩, .slice none 0 0]) 40 Try.underlying48 info_rterm rfl (by decide) (.slice (some ⟨w2.heap.size, 0, none⟩) 0 0) [] rfl ((OwnL.empty_ w2 _ _ _ rfl).base_ hsz2) _ (.slice (some ad) k c) ((L.map tgT).take k) news rfl Hsv.out Hreps3.out (by rw [Hlk2.out]; simp; omega) (by omega) (by simp; omega) ?_; intro v6 w6 hown6 hg6 hat6; rw [List.nil_append] at hown6; have hx6 : Ext w w6 := Below.grown Hx3.out hg6 (by simp; omega) (fun j hj => by simp [Value.ownBlock] at hj; omega); have hx36 : Ext w2 w6 := Below.grown (Ext.of_alloc w2 _) hg6 (by simp) (fun j hj => by simp [Value.ownBlock] at hj; omega); have z0 := Ext.keeps hx36 (Ext.keeps Hx2b.out Hu1.out); have z1 := Ext.keeps hx36 (Ext.keeps Hx2b.out Hu2.out); have hv6 := hown6.form0; obtain ⟨A6, n6, c6, rfl⟩ := hv6; have Hol := Lib.hid hown6; have Hx6 := Lib.hid hx6; have hsz6 := hx6.size; have hlt6 := own_lt Hol.out; have Hlt6 := Lib.hid hlt6; have y6 := Ext.of_alloc w6 (.cells #[] 3); have z2 := Ext.keeps y6 z1; obtain ⟨nps, hsvp, hrp⟩ := SL.svS (Hu.out.keep (Sm.of_ext (Ext.trans Hx6.out y6) fun k hk => hk)) (fun k hk => by have := (Ext.trans Hx6.out y6).size; simp only [Bw] at hk; omega); have Hsvp := Lib.hid hsvp; have Hrp := Lib.hid hrp; clear hown6 hg6 hat6 hx6 hx36 hsvp hrp hlt6 y6))
              | go_in)
            go_ret
            refine ⟨_, rfl, ?_, Hx10.out⟩
            have hf := Hown10.out.sl
            rw [Hres.out]
            simpa [tgT, List.map_take, List.map_drop] using hf
        · have hsb : (t == s) = false := by simpa using hts
          have Hres := Lib.hid ((addL_at HA.out).trans (congrArg (L.take k ++ ·) (Hnew.out Hlt.out hts)))
          clear hts
          have hvd := SL.cut_ (k := k) (l := L.map tgT) (by rw [Hlen.out]; exact Hv.out) (by rw [Hlen.out]; omega)
          have hck : ¬c = k := by omega
          rw [Hlen.out, if_neg hck] at hvd
          have Hvd : Hid (SL w (Bw w) (.slice (some (ad.add (k * 2))) (L.length - k) (c - k)) ((L.map tgT).drop k)) := Lib.hid hvd
          clear hvd
          have hdl : ((L.map tgT).drop (k)).length = L.length - (k) := by rw [List.length_drop, Hlen.out]
          have Hdl := Lib.hid hdl
          clear hdl
          have hx3 : Ext w (w2.alloc (.cells #[] 53)) := Ext.al Hx2.out _
          have hvk := SL.take_ (k := k) (l := L.map tgT) (by rw [Hlen.out]; exact Hv.out) (by rw [Hlen.out]; omega)
          obtain ⟨news, hsv, hreps⟩ := SL.svS (hvk.keep (Sm.of_ext hx3 fun k hk => hk)) (fun k hk => by have := hx3.size; simp only [Bw] at hk; omega)
          have hlk2 : ((L.map tgT).take k).length = k := by rw [List.length_take, Hlen.out]; omega
          have hreps3 : Reps (α := Tx × List Int) (w2.alloc (.cells #[] 53)) (fun k => k < w.heap.size ∧ k < (w2.alloc (.cells #[] 53)).heap.size ∧ some k ≠ (Value.slice (some ⟨w2.heap.size, 0, none⟩) 0 0).ownBlock) news ((L.map tgT).take k) := hreps.more fun k hk => ⟨hk, by simp only [Bw] at hk; simp; omega, fun e => by simp only [Bw] at hk; simp [Value.ownBlock] at e; omega⟩
          have Hsv := Lib.hid hsv
          have Hreps3 := Lib.hid hreps3
          have Hx3 := Lib.hid hx3
          have Hlk2 := Lib.hid hlk2
          clear hsv hreps hreps3 hx3 hvk hlk2
          go_wp2_with (first
            | (at_builtin; (refine wpList_append_l _ rfl (.tmp 70) (.tmp 73) 48 rfl w.heap.size 53 (fun _ => True) (.agg #[.string ⟨#[]⟩, .slice none 0 0]) 40 Try.underlying48 info_rterm rfl (by decide) (.slice A9 n9 c9) ((L.map tgT).take k ++ [((⟨s⟩ : Tx), [p])]) rfl Hown9.out _ (.slice (some (ad.add (k * 2))) (L.length - k) (c - k)) ((L.map tgT).drop (k)) nrs rfl Hsvr.out Hrr.out (by rw [List.length_append, Hlk2.out, Hdl.out]; simp; omega) (by omega) (by omega) ?_; intro v10 w10 hown10 hg10 hat10; have hx10 : Ext w w10 := Below.grown Hx9.out hg10 (by omega) (fun j hj => Hown9.out.ge j hj); have Hown10 := Lib.hid hown10; have Hx10 := Lib.hid hx10; clear hown10 hg10 hat10 hx10))
            | (at_builtin; (refine wpList_append_l _ rfl (.tmp 63) (.tmp 68) 48 rfl w.heap.size 53 (fun _ => True) (.agg #[.string ⟨#[]⟩, .slice none 0 0]) 40 Try.underlying48 info_rterm rfl (by decide) (.slice A6 n6 c6) ((L.map tgT).take k) rfl (Hol8.out.ext (Ext.of_alloc _ _)) (w6.heap.size + 1 + 1) (.slice (some ⟨w6.heap.size + 1, 0, none⟩) 1 1) [((⟨s⟩ : Tx), [p])] [.string ⟨s.toArray⟩, .slice (some ⟨w6.heap.size, 0, none⟩) 1 1] rfl Hsv9.out Hrp8.out (by rw [Hlk2.out]; simp; omega) (by omega) (by simp; omega) ?_; intro v9 w9 hown9 hg9 hat9; have hx9 : Ext w w9 := Below.grown (Ext.al (Ext.al Hx6.out _) _) hg9 (by simp; omega) (fun j hj => (Hlt6.out j hj).1); obtain ⟨nrs, hsvr, hrr⟩ := SL.svS (Hvd.out.keep (Sm.of_ext hx9 fun k hk => hk)) (fun k hk => by have := hx9.size; simp only [Bw] at hk; omega); have hrr9 := hrr.more (S' := fun k => True ∧ k < w9.heap.size ∧ some k ≠ v9.ownBlock) (fun k hk => ⟨trivial, by have := hx9.size; simp only [Bw] at hk; omega, fun e => by have := hown9.ge k e.symm; simp only [Bw] at hk; omega⟩); have hl9 : ∃ q, q = ((L.map tgT).take k ++ [((⟨s⟩ : Tx), [p])]).length := ⟨_, rfl⟩; have Hsvr := Lib.hid hsvr; have Hrr := Lib.hid hrr9; have hv9 := hown9.form0; obtain ⟨A9, n9, c9, rfl⟩ := hv9; have Hown9 := Lib.hid hown9; have Hx9 := Lib.hid hx9; have hsz9 := hx9.size; clear hown9 hg9 hat9 hx9 hsvr hrr hrr9 hl9))
            | (at_builtin; (refine wpList_append_l _ rfl (.tmp 24) (.tmp 27) 48 rfl w.heap.size 53 (fun j => j < w.heap.size) (.agg #[.string ⟨#[]⟩, .slice none 0 0]) 40 Try.underlying48 info_rterm rfl (by decide) (.slice (some ⟨w2.heap.size, 0, none⟩) 0 0) [] rfl ((OwnL.empty_ w2 _ _ _ rfl).base_ hsz2) _ (.slice (some ad) k c) ((L.map tgT).take k) news rfl Hsv.out Hreps3.out (by rw [Hlk2.out]; simp; omega) (by omega) (by simp; omega) ?_; intro v6 w6 hown6 hg6 hat6; rw [List.nil_append] at hown6; have hx6 : Ext w w6 := Below.grown Hx3.out hg6 (by simp; omega) (fun j hj => by simp [Value.ownBlock] at hj; omega); have hx36 : Ext w2 w6 := Below.grown (Ext.of_alloc w2 _) hg6 (by simp) (fun j hj => by simp [Value.ownBlock] at hj; omega); have z0 := Ext.keeps hx36 (Ext.keeps Hx2b.out Hu1.out); have z1 := Ext.keeps hx36 (Ext.keeps Hx2b.out Hu2.out); have hv6 := hown6.form0; obtain ⟨A6, n6, c6, rfl⟩ := hv6; have Hol := Lib.hid hown6; have Hx6 := Lib.hid hx6; have hsz6 := hx6.size; have hlt6 := own_lt Hol.out; have Hlt6 := Lib.hid hlt6; have hx7 := Ext.of_alloc w6 (.cells #[.int .i64 p] 3); have hown8 := own_new1 w6 Hp.out; have Hown8 := Lib.hid hown8; have hsv9 := SV.one_ (w6.alloc (.cells #[.int .i64 p] 3)) #[.string ⟨s.toArray⟩, .slice (some ⟨w6.heap.size, 0, none⟩) 1 1] 53 2 rfl; rw [World.size_alloc] at hsv9; have Hol8 := Lib.hid ((Hol.out.ext hx7).more (S' := fun _ => True) fun _ _ => trivial); have hrp8 := rep_new (s := s) hs Hown8.out Hlt6.out; have Hsv9 := Lib.hid hsv9; have Hrp8 := Lib.hid hrp8; clear hown6 hg6 hat6 hx6 hx36 hlt6 hown8 hsv9 hrp8 hx7))
            | go_in)
          go_ret
          refine ⟨_, rfl, ?_, Hx10.out⟩
          have hf := Hown10.out.sl
          rw [Hres.out]
          simpa [tgT, List.map_take, List.map_drop] using hf
    · have hkl : ¬(k : Int) < L.length := by omega
      have hne : addL (L.drop k) (s, p) = (s, [p]) :: L.drop k := addL_new (fun h => absurd h hlk)
      have Hres := Lib.hid ((addL_at HA.out).trans (congrArg (L.take k ++ ·) hne))
      have hvd := SL.cut_ (k := k) (l := L.map tgT) (by rw [Hlen.out]; exact Hv.out) (by rw [Hlen.out]; omega)
      rw [Hlen.out] at hvd
      have hsz2 := Hx.out.size
      clear hne hlk
      obtain ⟨w2, hw2⟩ : ∃ w2, w2 = wr := ⟨_, rfl⟩
      subst hw2
      have Hx2 := Lib.hid Hx.out
      by_cases hck : c = k
      · obtain rfl : k = c := hck.symm
        rw [if_pos rfl, Nat.sub_self, show L.length - k = 0 by omega] at hvd
        have Hvd := Lib.hid hvd
        clear hvd
        have hdl : ((L.map tgT).drop (k)).length = L.length - (k) := by rw [List.length_drop, Hlen.out]
        have Hdl := Lib.hid hdl
        clear hdl
        have hx3 : Ext w (w2.alloc (.cells #[] 53)) := Ext.al Hx2.out _
        have hvk := SL.take_ (k := k) (l := L.map tgT) (by rw [Hlen.out]; exact Hv.out) (by rw [Hlen.out]; omega)
        obtain ⟨news, hsv, hreps⟩ := SL.svS (hvk.keep (Sm.of_ext hx3 fun k hk => hk)) (fun k hk => by have := hx3.size; simp only [Bw] at hk; omega)
        have hlk2 : ((L.map tgT).take k).length = k := by rw [List.length_take, Hlen.out]; omega
        have hreps3 : Reps (α := Tx × List Int) (w2.alloc (.cells #[] 53)) (fun k => k < w.heap.size ∧ k < (w2.alloc (.cells #[] 53)).heap.size ∧ some k ≠ (Value.slice (some ⟨w2.heap.size, 0, none⟩) 0 0).ownBlock) news ((L.map tgT).take k) := hreps.more fun k hk => ⟨hk, by simp only [Bw] at hk; simp; omega, fun e => by simp only [Bw] at hk; simp [Value.ownBlock] at e; omega⟩
        have Hsv := Lib.hid hsv
        have Hreps3 := Lib.hid hreps3
        have Hx3 := Lib.hid hx3
        have Hlk2 := Lib.hid hlk2
        clear hsv hreps hreps3 hx3 hvk hlk2
        go_wp2_with (first
          | (at_builtin; (refine wpList_append_l _ rfl (.tmp 70) (.tmp 73) 48 rfl w.heap.size 53 (fun _ => True) (.agg #[.string ⟨#[]⟩, .slice none 0 0]) 40 Try.underlying48 info_rterm rfl (by decide) (.slice A9 n9 c9) ((L.map tgT).take k ++ [((⟨s⟩ : Tx), [p])]) rfl Hown9.out _ (.slice A 0 0) ((L.map tgT).drop (k)) nrs rfl Hsvr.out Hrr.out (by rw [List.length_append, Hlk2.out, Hdl.out]; simp; omega) (by omega) (by omega) ?_; intro v10 w10 hown10 hg10 hat10; have hx10 : Ext w w10 := Below.grown Hx9.out hg10 (by omega) (fun j hj => Hown9.out.ge j hj); have Hown10 := Lib.hid hown10; have Hx10 := Lib.hid hx10; clear hown10 hg10 hat10 hx10))
          | (at_builtin; (refine wpList_append_l _ rfl (.tmp 63) (.tmp 68) 48 rfl w.heap.size 53 (fun _ => True) (.agg #[.string ⟨#[]⟩, .slice none 0 0]) 40 Try.underlying48 info_rterm rfl (by decide) (.slice A6 n6 c6) ((L.map tgT).take k) rfl (Hol8.out.ext (Ext.of_alloc _ _)) (w6.heap.size + 1 + 1) (.slice (some ⟨w6.heap.size + 1, 0, none⟩) 1 1) [((⟨s⟩ : Tx), [p])] [.string ⟨s.toArray⟩, .slice (some ⟨w6.heap.size, 0, none⟩) 1 1] rfl Hsv9.out Hrp8.out (by rw [Hlk2.out]; simp; omega) (by omega) (by simp; omega) ?_; intro v9 w9 hown9 hg9 hat9; have hx9 : Ext w w9 := Below.grown (Ext.al (Ext.al Hx6.out _) _) hg9 (by simp; omega) (fun j hj => (Hlt6.out j hj).1); obtain ⟨nrs, hsvr, hrr⟩ := SL.svS (Hvd.out.keep (Sm.of_ext hx9 fun k hk => hk)) (fun k hk => by have := hx9.size; simp only [Bw] at hk; omega); have hrr9 := hrr.more (S' := fun k => True ∧ k < w9.heap.size ∧ some k ≠ v9.ownBlock) (fun k hk => ⟨trivial, by have := hx9.size; simp only [Bw] at hk; omega, fun e => by have := hown9.ge k e.symm; simp only [Bw] at hk; omega⟩); have hl9 : ∃ q, q = ((L.map tgT).take k ++ [((⟨s⟩ : Tx), [p])]).length := ⟨_, rfl⟩; have Hsvr := Lib.hid hsvr; have Hrr := Lib.hid hrr9; have hv9 := hown9.form0; obtain ⟨A9, n9, c9, rfl⟩ := hv9; have Hown9 := Lib.hid hown9; have Hx9 := Lib.hid hx9; have hsz9 := hx9.size; clear hown9 hg9 hat9 hx9 hsvr hrr hrr9 hl9))
          | (at_builtin; (refine wpList_append_l _ rfl (.tmp 24) (.tmp 27) 48 rfl w.heap.size 53 (fun j => j < w.heap.size) (.agg #[.string ⟨#[]⟩, .slice none 0 0]) 40 Try.underlying48 info_rterm rfl (by decide) (.slice (some ⟨w2.heap.size, 0, none⟩) 0 0) [] rfl ((OwnL.empty_ w2 _ _ _ rfl).base_ hsz2) _ (.slice A k k) ((L.map tgT).take k) news rfl Hsv.out Hreps3.out (by rw [Hlk2.out]; simp; omega) (by omega) (by simp; omega) ?_; intro v6 w6 hown6 hg6 hat6; rw [List.nil_append] at hown6; have hx6 : Ext w w6 := Below.grown Hx3.out hg6 (by simp; omega) (fun j hj => by simp [Value.ownBlock] at hj; omega); have hx36 : Ext w2 w6 := Below.grown (Ext.of_alloc w2 _) hg6 (by simp) (fun j hj => by simp [Value.ownBlock] at hj; omega); have hv6 := hown6.form0; obtain ⟨A6, n6, c6, rfl⟩ := hv6; have Hol := Lib.hid hown6; have Hx6 := Lib.hid hx6; have hsz6 := hx6.size; have hlt6 := own_lt Hol.out; have Hlt6 := Lib.hid hlt6; have hx7 := Ext.of_alloc w6 (.cells #[.int .i64 p] 3); have hown8 := own_new1 w6 Hp.out; have Hown8 := Lib.hid hown8; have hsv9 := SV.one_ (w6.alloc (.cells #[.int .i64 p] 3)) #[.string ⟨s.toArray⟩, .slice (some ⟨w6.heap.size, 0, none⟩) 1 1] 53 2 rfl; rw [World.size_alloc] at hsv9; have Hol8 := Lib.hid ((Hol.out.ext hx7).more (S' := fun _ => True) fun _ _ => trivial); have hrp8 := rep_new (s := s) hs Hown8.out Hlt6.out; have Hsv9 := Lib.hid hsv9; have Hrp8 := Lib.hid hrp8; clear hown6 hg6 hat6 hx6 hx36 hlt6 hown8 hsv9 hrp8 hx7))
          | go_in)
        go_ret
        refine ⟨_, rfl, ?_, Hx10.out⟩
        have hf := Hown10.out.sl
        rw [Hres.out]
        simpa [tgT, List.map_take, List.map_drop] using hf
      · rw [if_neg hck] at hvd
        have Hvd : Hid (SL w (Bw w) (.slice (A.map (·.add (k * 2))) (L.length - k) (c - k)) ((L.map tgT).drop k)) := Lib.hid hvd
        clear hvd
        have hdl : ((L.map tgT).drop (k)).length = L.length - (k) := by rw [List.length_drop, Hlen.out]
        have Hdl := Lib.hid hdl
        clear hdl
        have hx3 : Ext w (w2.alloc (.cells #[] 53)) := Ext.al Hx2.out _
        have hvk := SL.take_ (k := k) (l := L.map tgT) (by rw [Hlen.out]; exact Hv.out) (by rw [Hlen.out]; omega)
        obtain ⟨news, hsv, hreps⟩ := SL.svS (hvk.keep (Sm.of_ext hx3 fun k hk => hk)) (fun k hk => by have := hx3.size; simp only [Bw] at hk; omega)
        have hlk2 : ((L.map tgT).take k).length = k := by rw [List.length_take, Hlen.out]; omega
        have hreps3 : Reps (α := Tx × List Int) (w2.alloc (.cells #[] 53)) (fun k => k < w.heap.size ∧ k < (w2.alloc (.cells #[] 53)).heap.size ∧ some k ≠ (Value.slice (some ⟨w2.heap.size, 0, none⟩) 0 0).ownBlock) news ((L.map tgT).take k) := hreps.more fun k hk => ⟨hk, by simp only [Bw] at hk; simp; omega, fun e => by simp only [Bw] at hk; simp [Value.ownBlock] at e; omega⟩
        have Hsv := Lib.hid hsv
        have Hreps3 := Lib.hid hreps3
        have Hx3 := Lib.hid hx3
        have Hlk2 := Lib.hid hlk2
        clear hsv hreps hreps3 hx3 hvk hlk2
        go_wp2_with (first
          | (at_builtin; (refine wpList_append_l _ rfl (.tmp 70) (.tmp 73) 48 rfl w.heap.size 53 (fun _ => True) (.agg #[.string ⟨#[]⟩, .slice none 0 0]) 40 Try.underlying48 info_rterm rfl (by decide) (.slice A9 n9 c9) ((L.map tgT).take k ++ [((⟨s⟩ : Tx), [p])]) rfl Hown9.out _ (.slice (A.map (·.add (k * 2))) (L.length - k) (c - k)) ((L.map tgT).drop (k)) nrs rfl Hsvr.out Hrr.out (by rw [List.length_append, Hlk2.out, Hdl.out]; simp; omega) (by omega) (by omega) ?_; intro v10 w10 hown10 hg10 hat10; have hx10 : Ext w w10 := Below.grown Hx9.out hg10 (by omega) (fun j hj => Hown9.out.ge j hj); have Hown10 := Lib.hid hown10; have Hx10 := Lib.hid hx10; clear hown10 hg10 hat10 hx10))
          | (at_builtin; (refine wpList_append_l _ rfl (.tmp 63) (.tmp 68) 48 rfl w.heap.size 53 (fun _ => True) (.agg #[.string ⟨#[]⟩, .slice none 0 0]) 40 Try.underlying48 info_rterm rfl (by decide) (.slice A6 n6 c6) ((L.map tgT).take k) rfl (Hol8.out.ext (Ext.of_alloc _ _)) (w6.heap.size + 1 + 1) (.slice (some ⟨w6.heap.size + 1, 0, none⟩) 1 1) [((⟨s⟩ : Tx), [p])] [.string ⟨s.toArray⟩, .slice (some ⟨w6.heap.size, 0, none⟩) 1 1] rfl Hsv9.out Hrp8.out (by rw [Hlk2.out]; simp; omega) (by omega) (by simp; omega) ?_; intro v9 w9 hown9 hg9 hat9; have hx9 : Ext w w9 := Below.grown (Ext.al (Ext.al Hx6.out _) _) hg9 (by simp; omega) (fun j hj => (Hlt6.out j hj).1); obtain ⟨nrs, hsvr, hrr⟩ := SL.svS (Hvd.out.keep (Sm.of_ext hx9 fun k hk => hk)) (fun k hk => by have := hx9.size; simp only [Bw] at hk; omega); have hrr9 := hrr.more (S' := fun k => True ∧ k < w9.heap.size ∧ some k ≠ v9.ownBlock) (fun k hk => ⟨trivial, by have := hx9.size; simp only [Bw] at hk; omega, fun e => by have := hown9.ge k e.symm; simp only [Bw] at hk; omega⟩); have hl9 : ∃ q, q = ((L.map tgT).take k ++ [((⟨s⟩ : Tx), [p])]).length := ⟨_, rfl⟩; have Hsvr := Lib.hid hsvr; have Hrr := Lib.hid hrr9; have hv9 := hown9.form0; obtain ⟨A9, n9, c9, rfl⟩ := hv9; have Hown9 := Lib.hid hown9; have Hx9 := Lib.hid hx9; have hsz9 := hx9.size; clear hown9 hg9 hat9 hx9 hsvr hrr hrr9 hl9))
          | (at_builtin; (refine wpList_append_l _ rfl (.tmp 24) (.tmp 27) 48 rfl w.heap.size 53 (fun j => j < w.heap.size) (.agg #[.string ⟨#[]⟩, .slice none 0 0]) 40 Try.underlying48 info_rterm rfl (by decide) (.slice (some ⟨w2.heap.size, 0, none⟩) 0 0) [] rfl ((OwnL.empty_ w2 _ _ _ rfl).base_ hsz2) _ (.slice A k c) ((L.map tgT).take k) news rfl Hsv.out Hreps3.out (by rw [Hlk2.out]; simp; omega) (by omega) (by simp; omega) ?_; intro v6 w6 hown6 hg6 hat6; rw [List.nil_append] at hown6; have hx6 : Ext w w6 := Below.grown Hx3.out hg6 (by simp; omega) (fun j hj => by simp [Value.ownBlock] at hj; omega); have hx36 : Ext w2 w6 := Below.grown (Ext.of_alloc w2 _) hg6 (by simp) (fun j hj => by simp [Value.ownBlock] at hj; omega); have hv6 := hown6.form0; obtain ⟨A6, n6, c6, rfl⟩ := hv6; have Hol := Lib.hid hown6; have Hx6 := Lib.hid hx6; have hsz6 := hx6.size; have hlt6 := own_lt Hol.out; have Hlt6 := Lib.hid hlt6; have hx7 := Ext.of_alloc w6 (.cells #[.int .i64 p] 3); have hown8 := own_new1 w6 Hp.out; have Hown8 := Lib.hid hown8; have hsv9 := SV.one_ (w6.alloc (.cells #[.int .i64 p] 3)) #[.string ⟨s.toArray⟩, .slice (some ⟨w6.heap.size, 0, none⟩) 1 1] 53 2 rfl; rw [World.size_alloc] at hsv9; have Hol8 := Lib.hid ((Hol.out.ext hx7).more (S' := fun _ => True) fun _ _ => trivial); have hrp8 := rep_new (s := s) hs Hown8.out Hlt6.out; have Hsv9 := Lib.hid hsv9; have Hrp8 := Lib.hid hrp8; clear hown6 hg6 hat6 hx6 hx36 hlt6 hown8 hsv9 hrp8 hx7))
          | go_in)
        go_ret
        refine ⟨_, rfl, ?_, Hx10.out⟩
        have hf := Hown10.out.sl
        rw [Hres.out]
        simpa [tgT, List.map_take, List.map_drop] using hf
end Go.Proofs.Ytbnjhpknagkiaaa
