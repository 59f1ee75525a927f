/-
  Contract of posting.Decode.
  Conditions: at most 20,000 bytes.
-/
import Derived.Test.YtccmhjlniljhcaaQp
import Derived.Test.YtccmhjlniljhcaaEq
import Derived.Test.YtccmhjlniljhcaaIv
namespace Go.Proofs.Ytccmhjlniljhcaa
open Go.RowKit

/-- the blocks of the two boxes -/
abbrev Two (B : Nat) : Nat → Prop := fun k => k = B ∨ k = B + 1
theorem two_below {B : Nat} {w W W' : World} (h : Below B w W) (hk : Kept (Two B) W W') (hB : B ≤ W.heap.size) : Below B w W' := h.trans (hk.below hB fun k hk => by rcases hk with rfl | rfl <;> omega)
theorem OwnL.kpt {α : Type} [Rep α] {w w' : World} {base : Nat} {e : TypeId} {S T : Nat → Prop} {v : Value} {l : List α} (h : OwnL w base e S v l) (hk : Kept T w w') (hT : ∀ k, T k → k < base ∨ w.heap.size ≤ k) (hS : ∀ k, S k → base ≤ k) : OwnL w' base e S v l := by
  obtain ⟨xs, h1, h2⟩ := h
  refine ⟨xs, ⟨h1.1, ?_⟩, (h2.keep (Sm.of_kept hk fun k hk' => ⟨hk'.2.1, fun ht => ?_⟩)).more fun k hk' => ⟨hk'.1, Nat.lt_of_lt_of_le hk'.2.1 hk.size, hk'.2.2⟩⟩
  · rcases h1.2 with hn | ⟨g, cap, cur, rfl, hb, hgg, rest⟩
    · exact .inl hn
    · refine .inr ⟨g, cap, cur, rfl, hb, ?_, rest⟩
      have hlt := (Array.getElem?_eq_some_iff.1 hgg).1
      rw [hk.block g hlt fun ht => by rcases hT g ht with h | h <;> omega]
      exact hgg
  · have := hS k hk'.1
    rcases hT k ht with h | h
    · omega
    · have := hk'.2.1
      omega

theorem NumSt.len {n0 L Br : Nat} {W : World} {o : Option (List UInt8)} (h : NumSt n0 L W Br o) {b : List UInt8} (e : o = some b) : b.length ≤ L := by
  obtain ⟨vr, bs0, h1, h2, h3, h4, h5⟩ := h
  rw [← h5 b e]
  exact h3
theorem NumSt.wrong {n0 L Br : Nat} {W : World} {o : Option (List UInt8)} (h : NumSt n0 L W Br o) : W.cell? ⟨Br + 1, 0, none⟩ = some (.bool o.isNone) ∧ W.frozen? ⟨Br + 1, 0, none⟩ = false := by
  obtain ⟨vr, bs0, h1, h2, h3, h4, h5⟩ := h
  exact ⟨h4.cell, h4.frozen⟩

theorem numO_len' (b : Nat) (o : Option (List UInt8)) : (numO b o).2 = none ∨ lenO (numO b o).2 + 1 ≤ lenO o := by
  cases o with
  | none => exact .inl rfl
  | some bs => exact numO_len b bs
theorem info_post : (Try.prog.info? 43).map (fun i => (i.zero, i.size, i.bytes)) = some (some (.agg #[.int .i64 0, .slice none 0 0]), 2, 32) := by kernel_rfl
/-- a post's own block -/
def Pbox (W : World) (B : Nat) (d : Int) (v : Value) : Prop := W.heap[B]? = some (.cells #[.int .i64 d, v] 43 (0, 0))
theorem Pbox.cell {W : World} {B : Nat} {d : Int} {v : Value} (h : Pbox W B d v) : W.cell? ⟨B, 0, none⟩ = some (.int .i64 d) ∧ W.cell? ⟨B, 1, none⟩ = some v ∧ W.frozen? ⟨B, 1, none⟩ = false := by
  simp [World.cell?, World.frozen?, show W.heap[B]? = _ from h]
theorem Pbox.lt {W : World} {B : Nat} {d : Int} {v : Value} (h : Pbox W B d v) : B < W.heap.size := (Array.getElem?_eq_some_iff.1 h).1
theorem Pbox.new (W : World) (d : Int) (v : Value) : Pbox (W.alloc (.cells #[.int .i64 d, v] 43)) W.heap.size d v := World.alloc_heap_new W _
theorem Pbox.keep {T : Nat → Prop} {W W' : World} {B : Nat} {d : Int} {v : Value} (h : Pbox W B d v) (hk : Kept T W W') (hT : ¬T B) : Pbox W' B d v := (hk.block B h.lt hT).trans h
theorem Pbox.set {W : World} {B : Nat} {d : Int} {v : Value} (v' : Value) (h : Pbox W B d v) : Pbox (W.setCell ⟨B, 1, none⟩ v') B d v' := by
  obtain ⟨hlt, hk⟩ := Array.getElem?_eq_some_iff.1 h
  show (W.heap.modify B _)[B]? = _
  rw [Array.getElem?_eq_getElem (by rw [Array.size_modify]; exact hlt), Array.getElem_modify_self, hk]
  rfl
theorem OwnL.sl_none {α : Type} [Rep α] {w : World} {base : Nat} {e : TypeId} {v : Value} {l : List α} (h : OwnL w base e (fun _ => False) v l) : SL w (fun k => base ≤ k ∧ k < w.heap.size) v l := by
  obtain ⟨xs, h1, h2⟩ := h
  obtain ⟨A, c, hv, k1, k2, k3, k4⟩ := ownsRow_form h1
  refine ⟨A, c, xs, hv, k1, k2, k3, ⟨k4.1, fun hn => ?_⟩, h2.more fun k hk => hk.1.elim⟩
  obtain ⟨ad, e, hb, hc⟩ := k4.2 hn
  refine ⟨ad, e, ⟨?_, hb⟩, hc⟩
  exact owns_ge h1 ad.block (by rw [hv, e]; rfl)

set_option maxHeartbeats 4000000 in
set_option maxRecDepth 100000 in
theorem decode_any (w : World) (v : Value) (bs : List UInt8) (hv : BS w w.heap.size v bs) (hl : bs.length ≤ 20000) :
    Calls Try.prog 12 #[v] w fun e w' => ∃ u l E, e = .returned (.tuple #[u, .int .i64 (E : Nat)]) ∧ SL w' (Bw w') u l ∧ DecIs bs l E ∧ Ext w w' := by
  obtain ⟨A, c, rfl⟩ := hv.form
  have Hv := Lib.hid hv
  clear hv
  go_enter Try.func12, Try.ntmps12
  go_wp2_with fail
  refine (number_any w.heap.size bs.length _ w.heap.size (some bs) 65536 (Nat.le_refl _) (by omega) (by decide) ?h0).mono ?_
  case h0 =>
    refine ⟨_, bs, (Boxed.new w _ _).alloc _, Hv.out.ext (Nat.le_refl _) ((Ext.of_alloc _ _).trans (Ext.of_alloc _ _)), Nat.le_refl _, ?_, fun _ h => by injection h⟩
    have := Boxed.new (w.alloc (.cells #[.slice A bs.length c] 23)) 4 (.bool false)
    rw [World.size_alloc] at this
    exact this
  rintro e w1 ⟨rfl, hs1, hk1⟩
  have hb1 : Below w.heap.size w w1 := two_below ((Ext.of_alloc w _).al _) hk1 (by simp; omega)
  have hsz1 : w.heap.size + 2 ≤ w1.heap.size := by have := hk1.size; simp at this; omega
  have hn := numO_le 65536 (some bs)
  have hpc := pcode_eq bs
  generalize (numO 65536 (some bs)).1 = n at hn hpc
  generalize (numO 65536 (some bs)).2 = o1 at hs1 hpc
  have Hs1 := Lib.hid hs1
  have Hb1 := Lib.hid hb1
  have Hpc := Lib.hid hpc
  clear hs1 hb1 hk1 hpc
  go_wp2_with fail
  obtain ⟨M, hM⟩ : ∃ M : Nat, ((n : Int) + 32 - 1) / 32 = (M : Int) := ⟨(n + 31) / 32, by omega⟩
  have hMn : (n + 31) / 32 = M := by omega
  rw [hM]
  rw [hMn] at Hpc
  have hMl : M ≤ 2048 := by omega
  have hbl : (bs.length : Int) ≤ 20000 := by omega
  clear hM hMn
  go_loopw [24] (fun i wr => ∃ (q : Nat) (o : Option (List UInt8)), i = .int .i64 q ∧ q ≤ M ∧ NumSt w.heap.size bs.length wr w.heap.size o ∧ Below w.heap.size w wr ∧ w.heap.size + 2 ≤ wr.heap.size ∧ hdsO bs.length (M - q) o = hdsO bs.length M o1) (fun i _ => M - (intOf i).toNat)
  case atStart => exact ⟨0, o1, rfl, Nat.zero_le _, Hs1.out, Hb1.out, hsz1, rfl⟩
  case round =>
    obtain ⟨q, o, rfl, hq, hs, hb, hsz, hh⟩ := hrel
    have Hs := Lib.hid hs
    have Hb := Lib.hid hb
    have Hh := Lib.hid hh
    clear hs hb hh
    by_cases hlq : q < M
    · have hql : (q : Int) < M := by omega
      go_wp2_with fail
      refine (number_any w.heap.size bs.length _ w.heap.size o 65536 (Nat.le_refl _) (by omega) (by decide) Hs.out).mono ?_
      rintro e w2 ⟨rfl, hs2, hk2⟩
      have Hs2 := Lib.hid hs2
      have Hk2 := Lib.hid hk2
      clear hs2 hk2
      go_wp2_with fail
      refine (number_any w.heap.size bs.length _ w.heap.size _ bs.length (Nat.le_refl _) (by omega) (by omega) Hs2.out).mono ?_
      rintro e w3 ⟨rfl, hs3, hk3⟩
      have Hs3 := Lib.hid hs3
      have Hk3 := Lib.hid (Hk2.out.trans hk3)
      have hsz3 := Hk3.out.size
      clear hs3 hk3
      go_wp2_with fail
      go_roundw
      case rel =>
        refine ⟨q + 1, _, rfl, by omega, Hs3.out, two_below Hb.out Hk3.out (by omega), by omega, ?_⟩
        rw [← Hh.out, show M - q = (M - (q + 1)) + 1 from by omega, hdsO_succ]
      case measure => simp only [intOf]; omega
    · have hql : ¬(q : Int) < M := by omega
      have hq0 : M - q = 0 := by omega
      rw [hq0, hdsO_zero] at Hh
      have hpc := Hpc.out
      rw [← Hh.out] at hpc
      have Hpc2 := Lib.hid hpc
      clear hpc Hpc Hh hq0
      go_wp2_with fail
      have h0 : wt ([] : List Post) = 0 := rfl
      go_loopw [8, 9, 10] (fun l la i wq => ∃ (k : Nat) (ls : List Post) (o : Option (List UInt8)), i = .int .i64 k ∧ k ≤ n ∧ la = .int .i64 (plast (-1) ls) ∧ -1 ≤ plast (-1) ls ∧ plast (-1) ls ≤ 65537 * (k : Int) ∧ OwnL wq (w.heap.size + 2) 43 (fun j => w.heap.size + 2 ≤ j) l ls ∧
        NumSt w.heap.size bs.length wq w.heap.size o ∧ Below w.heap.size w wq ∧ w.heap.size + 2 ≤ wq.heap.size ∧ pcode bs = postsO bs.length (n - k) ls o ∧ wt ls ≤ 10 * bs.length + 40 ∧ ∀ b, o = some b → wt ls + 10 * b.length ≤ 10 * bs.length) (fun _ _ i _ => n - (intOf i).toNat)
      case atStart => exact ⟨0, [], o, rfl, Nat.zero_le _, rfl, by decide, by decide, OwnL.nil_ _ _ _ _, Hs.out, Hb.out, hsz, Hpc2.out, by omega, fun b hb => by have := Hs.out.len hb; omega⟩
      case round =>
        rename World => wq
        obtain ⟨k, ls, o', rfl, hk, rfl, hla1, hla2, hol, hs, hb, hsz, hpc, hwt, hwo⟩ := hrel
        obtain ⟨hwc, hwf⟩ := hs.wrong
        obtain ⟨Al, cl, rfl, _, _⟩ := hol.form
        have Hol := Lib.hid hol
        have Hs := Lib.hid hs
        have Hb := Lib.hid hb
        have Hpc := Lib.hid hpc
        have Hwo := Lib.hid hwo
        clear hol hs hb hpc hwo
        by_cases hstop : k = n ∨ o' = none
        · have hsl := Hol.out.sl
          have Hsl := Lib.hid hsl
          have henc : Calls Try.prog 10 #[.slice Al ls.length cl] wq fun e w' => ∃ u E, e = .returned (.tuple #[u, .int .i64 (E : Nat)]) ∧ Ext wq w' ∧ ((psOk ls = false ∧ E = 80) ∨ (psOk ls = true ∧ E = 0 ∧ Own w' wq.heap.size u (penc ls))) := by
            cases hok : psOk ls with
            | false =>
              refine (encode_bad wq _ ls Hsl.out hok).mono ?_
              rintro e w' ⟨rfl, hx⟩
              exact ⟨_, 80, rfl, hx, .inl ⟨rfl, rfl⟩⟩
            | true =>
              refine (encode_ok wq _ ls Hsl.out hok (by omega)).mono ?_
              rintro e w' ⟨u, rfl, ho, hx⟩
              exact ⟨u, 0, rfl, hx, .inr ⟨rfl, rfl, ho⟩⟩
          have Henc := Lib.hid henc
          have hxq : ∀ w', Ext wq w' → Ext w w' := fun w' hx => Hb.out.trans (Below.mono hx (by omega))
          have Hxq := Lib.hid hxq
          have Hstop := Lib.hid hstop
          clear hsl henc hxq
          have hcases : (k < n ∧ o' = none) ∨ k = n := by
            by_cases h : k = n
            · exact .inr h
            · exact .inl ⟨by omega, hstop.resolve_left h⟩
          clear hstop
          rcases hcases with ⟨hkn, rfl⟩ | hkn
          · have hkl : (k : Int) < n := by omega
            simp only [Option.isNone_none] at hwc
            go_wp2_with fail
            refine Henc.out.mono ?_
            rintro e w2 ⟨u, E, rfl, hx2, _⟩
            have Hx2 := Lib.hid hx2
            clear hx2
            have hwc := Ext.keeps Hx2.out hwc
            go_wp2
            go_ret2
            exact ⟨_, [], 80, rfl, SL.nil_ _ _, dec_none hl (.inl (by rw [Hpc.out]; rfl)), Hxq.out _ Hx2.out⟩
          · have hkl : ¬(k : Int) < n := by omega
            have hpc := Hpc.out
            rw [show n - k = 0 from by omega, postsO_zero] at hpc
            cases o' with
            | none =>
              simp only [Option.isNone_none] at hwc
              go_wp2_with fail
              refine Henc.out.mono ?_
              rintro e w2 ⟨u, E, rfl, hx2, _⟩
              have Hx2 := Lib.hid hx2
              clear hx2
              have hwc := Ext.keeps Hx2.out hwc
              go_wp2
              go_ret2
              exact ⟨_, [], 80, rfl, SL.nil_ _ _, dec_none hl (.inl hpc), Hxq.out _ Hx2.out⟩
            | some r =>
              simp only [Option.isNone_some] at hwc
              rw [Option.map_some] at hpc
              have Hpc2 := Lib.hid hpc
              clear hpc
              go_wp2_with fail
              refine Henc.out.mono ?_
              rintro e w2 ⟨u, E, rfl, hx2, hE⟩
              have Hx2 := Lib.hid hx2
              clear hx2
              have hwc := Ext.keeps Hx2.out hwc
              rcases hE with ⟨hok, rfl⟩ | ⟨hok, rfl, ho⟩
              · go_wp2
                go_ret2
                exact ⟨_, [], 80, rfl, SL.nil_ _ _, dec_other hl (.inl Hpc2.out) (.inl hok), Hxq.out _ Hx2.out⟩
              · have Ho := Lib.hid ho
                clear ho
                go_wp2_with fail
                refine (equalb_any w2 u _ (penc ls) bs (Own.bs Ho.out).sl (SL.up (Hv.out.sl) (Hxq.out _ Hx2.out))).mono ?_
                rintro e w3 ⟨rfl, hx3⟩
                have Hx3 := Lib.hid hx3
                clear hx3
                by_cases hpe : penc ls = bs
                · have Hpe := Lib.hid hpe
                  rw [decide_eq_true hpe]
                  clear hpe
                  go_wp2
                  go_ret2
                  exact ⟨_, ls, 0, rfl, SL.up Hsl.out (Ext.trans Hx2.out Hx3.out), .inl ⟨rfl, hok, Hpe.out⟩, Hxq.out _ (Ext.trans Hx2.out Hx3.out)⟩
                · have Hpe := Lib.hid hpe
                  rw [decide_eq_false hpe]
                  clear hpe
                  go_wp2
                  go_ret2
                  exact ⟨_, [], 80, rfl, SL.nil_ _ _, dec_other hl (.inl Hpc2.out) (.inr Hpe.out), Hxq.out _ (Ext.trans Hx2.out Hx3.out)⟩
        · have hlk : k < n := by omega
          have hkl : (k : Int) < n := by omega
          cases o' with
          | none => exact absurd (Or.inr rfl) hstop
          | some b =>
            clear hstop
            simp only [Option.isNone_some] at hwc
            have hp2 := postsO_succ bs.length (n - (k + 1)) ls b
            rw [show n - (k + 1) + 1 = n - k from by omega] at hp2
            have Hp2 := Lib.hid hp2
            clear hp2
            go_wp2_with fail
            refine (number_any w.heap.size bs.length _ w.heap.size _ 65536 (Nat.le_refl _) (by omega) (by decide) Hs.out).mono ?_
            rintro e w2 ⟨rfl, hs2, hk2⟩
            have hd := numO_le 65536 (some b)
            have hdl := numO_len 65536 b
            generalize (numO 65536 (some b)).1 = d at hd Hp2
            generalize (numO 65536 (some b)).2 = o2 at hs2 hdl Hp2
            have Hs2 := Lib.hid hs2
            have Hk2 := Lib.hid hk2
            clear hs2 hk2 hwc hwf
            generalize plast (-1) ls = LA at hla1 hla2 Hp2
            have hdd : (d : Int) ≤ 65536 := by omega
            have hkk : (k : Int) ≤ 65536 := by omega
            go_wp2_with fail
            rw [show min (1048576 : Int) (bs.length : Int) = ((min 1048576 bs.length : Nat) : Int) from by omega]
            refine (number_any w.heap.size bs.length _ w.heap.size o2 (min 1048576 bs.length) (Nat.le_refl _) (by omega) (by omega) (Hs2.out.keep (Nat.le_refl _) (Ext.kept (Ext.of_alloc w2 _) (fun _ => False)) (fun _ _ h => h))).mono ?_
            rintro e w3 ⟨rfl, hs3, hk3⟩
            have hC := numO_le (min 1048576 bs.length) o2
            have hCl := numO_len' (min 1048576 bs.length) o2
            generalize (numO (min 1048576 bs.length) o2).1 = C at hC Hp2
            generalize (numO (min 1048576 bs.length) o2).2 = o3 at hs3 hCl Hp2
            have hsz2 : wq.heap.size ≤ w2.heap.size := Hk2.out.size
            have hwb : o3 = none ∨ lenO o3 + 2 ≤ b.length := by
              rcases hCl with h | h
              · exact .inl h
              · rcases hdl with h' | h'
                · subst h'
                  simp [lenO] at h
                · exact .inr (by omega)
            have hpb : Pbox w3 w2.heap.size (LA + 1 + d) (.slice none 0 0) := (Pbox.new w2 _ _).keep hk3 (by omega)
            have hkp : Kept (fun j => Two w.heap.size j ∨ w2.heap.size ≤ j) wq w3 := (Hk2.out.more fun _ _ h => .inl h).trans ((Ext.kept (Ext.of_alloc w2 _) _).trans (hk3.more fun _ _ h => .inl h))
            have hCi : (C : Int) ≤ 20000 := by omega
            have Hs3 := Lib.hid hs3
            have Hpb := Lib.hid hpb
            have Hkp := Lib.hid hkp
            have Hwb := Lib.hid hwb
            have hbL := Hs.out.len rfl
            clear hs3 hk3 hpb hkp hwb hCl hdl
            go_wp2_with fail
            go_loopw [12, 13] (fun at_ kk wi => ∃ (j : Nat) (ps : List Int) (oo : Option (List UInt8)) (pv : Value), kk = .int .i64 j ∧ j ≤ C ∧ at_ = .int .i64 (ilast (-1) ps) ∧ -1 ≤ ilast (-1) ps ∧ ilast (-1) ps ≤ 1048577 * (ps.length : Int) ∧ ps.length ≤ b.length ∧ (oo = none ∨ ps.length + lenO oo + 2 ≤ b.length) ∧
              Pbox wi w2.heap.size (LA + 1 + d) pv ∧ OwnL wi (w2.heap.size + 1) 3 (fun _ => False) pv ps ∧ NumSt w.heap.size bs.length wi w.heap.size oo ∧ Kept (fun j => Two w.heap.size j ∨ w2.heap.size ≤ j) wq wi ∧ possO j ps oo = possO C [] o3) (fun _ kk _ => (intOf kk).toNat)
            case atStart => exact ⟨C, [], o3, _, rfl, Nat.le_refl _, rfl, by decide, by decide, Nat.zero_le _, by simpa using Hwb.out, Hpb.out, OwnL.nil_ _ _ _ _, Hs3.out, Hkp.out, rfl⟩
            case round =>
              rename World => wi
              obtain ⟨j, ps, oo, pv, rfl, hj, rfl, hi1, hi2, hpl, hw, hpb, hop, hs, hkp, hpo⟩ := hrel
              obtain ⟨hwc, hwf⟩ := hs.wrong
              obtain ⟨Ap, cp, rfl, _, _⟩ := hop.form
              obtain ⟨hp0, hp1, hpf⟩ := hpb.cell
              have Hpb := Lib.hid hpb
              have Hop := Lib.hid hop
              have Hs := Lib.hid hs
              have Hkp := Lib.hid hkp
              have Hpo := Lib.hid hpo
              have Hw := Lib.hid hw
              clear hpb hop hs hkp hpo hw
              by_cases hstop : j = 0 ∨ oo = none
              · have hfin : postsO bs.length (n - k) ls (some b) = postsO bs.length (n - (k + 1)) (ls ++ [(LA + 1 + (d : Int), ps)]) oo := by
                  rw [Hp2.out, ← Hpo.out]
                  rcases hstop with rfl | rfl
                  · rw [possO_zero]
                    cases oo <;> rfl
                  · rfl
                have hol2 := Hol.out.kpt Hkp.out (fun k hk => by rcases hk with hk | hk; exact .inl (by omega); exact .inr (by omega)) (fun k hk => hk)
                have hlto : ∀ k, (Value.slice Al ls.length cl).ownBlock = some k → k < wq.heap.size := by
                  intro k hk
                  obtain ⟨xs, h1, _⟩ := Hol.out
                  exact (World.ownsRow.lt h1 k hk).2
                have hreps : Reps (α := Post) (wi.alloc (.cells #[.int .i64 (LA + 1 + (d : Int)), .slice Ap ps.length cp] 43)) (fun k => (w.heap.size + 2 ≤ k) ∧ k < (wi.alloc (.cells #[.int .i64 (LA + 1 + (d : Int)), .slice Ap ps.length cp] 43)).heap.size ∧ some k ≠ (Value.slice Al ls.length cl).ownBlock) [.int .i64 (LA + 1 + (d : Int)), .slice Ap ps.length cp] [(LA + 1 + (d : Int), ps)] := by
                  refine Reps.single (rep_post (I6.mk (by omega)) ((Hop.out.sl_none.keep (Sm.of_ext (Ext.of_alloc wi _) fun k hk => hk.2)).more fun k hk => ⟨by omega, by have := hk.2; simp; omega, fun e => ?_⟩))
                  have := hlto k e.symm
                  omega
                have hcases : (j = 0) ∨ (0 < j ∧ oo = none) := by
                  rcases hstop with h | h
                  · exact .inl h
                  · by_cases h' : j = 0
                    · exact .inl h'
                    · exact .inr ⟨by omega, h⟩
                have Hol2 := Lib.hid hol2
                have Hreps := Lib.hid hreps
                have Hfin := Lib.hid hfin
                have hpw := Hkp.out.size
                have hpbl := Hpb.out.lt
                have hlsl : ls.length ≤ 1000000 := by have := wt_len ls; omega
                clear hol2 hreps hfin hlto hstop
                rcases hcases with hj0 | ⟨hj0, hoo⟩
                · have hjj : ¬(0 : Int) < (j : Int) := by omega
                  clear hj0
                  go_wp2_with (at_builtin; go_loud (refine wpList_append_l _ rfl (.tmp 74) (.tmp 76) 22 rfl (w.heap.size + 2) 43 (fun j => w.heap.size + 2 ≤ j) (.agg #[.int .i64 0, .slice none 0 0]) 32 Try.underlying22 info_post rfl (by decide) (.slice Al ls.length cl) ls rfl (Hol2.out.ext (Ext.of_alloc _ _)) (wi.heap.size + 1) (.slice (some ⟨wi.heap.size, 0, none⟩) 1 1) [(LA + 1 + (d : Int), ps)] [.int .i64 (LA + 1 + (d : Int)), .slice Ap ps.length cp] rfl (SV.one_ wi #[.int .i64 (LA + 1 + (d : Int)), .slice Ap ps.length cp] _ 2 rfl) Hreps.out (by simp; omega) (by omega) (by simp; omega) ?_; intro v6 w6 hown6 hg6 hat6; generalize hps : ls ++ [(LA + 1 + (d : Int), ps)] = PS at hown6; obtain ⟨A6, c6, rfl, _, _⟩ := hown6.form; have hk6 : Kept (fun j => w.heap.size + 2 ≤ j) wi w6 := (Ext.kept (Ext.of_alloc wi _) _).trans (grown_kept hg6 fun r hr _ => Hol2.out.ge r hr); have Hps := Lib.hid hps; have Hk6 := Lib.hid hk6; have Hown6 := Lib.hid hown6; clear hps hk6 hown6 hg6 hat6))
                  go_roundw
                  case rel =>
                    obtain rfl := Hps.out
                    have hsz6 := Hk6.out.size
                    have hwb := Hwo.out b rfl
                    refine ⟨k + 1, _, oo, rfl, by omega, by rw [plast_snoc], by rw [plast_snoc]; omega, by rw [plast_snoc]; omega, Hown6.out, Hs.out.keep (Nat.le_refl _) Hk6.out (fun k hk => by omega), ?_, by omega, by rw [Hpc.out, Hfin.out], by rw [wt_append, wt_cons, wt_nil]; simp only; omega, ?_⟩
                    · exact (Hb.out.trans (Hkp.out.below (by omega) fun k hk => by rcases hk with (rfl | rfl) | hk <;> omega)).trans (Hk6.out.below (by omega) fun k hk => by omega)
                    · intro r hr
                      subst hr
                      rcases Hw.out with h | h
                      · cases h
                      · rw [show lenO (some r) = r.length from rfl] at h
                        rw [wt_append, wt_cons, wt_nil]
                        simp only
                        omega
                  case measure => simp only [intOf]; omega
                · have hjj : (0 : Int) < (j : Int) := by omega
                  subst hoo
                  simp only [Option.isNone_none] at hwc
                  clear hj0
                  go_wp2_with (at_builtin; go_loud (refine wpList_append_l _ rfl (.tmp 74) (.tmp 76) 22 rfl (w.heap.size + 2) 43 (fun j => w.heap.size + 2 ≤ j) (.agg #[.int .i64 0, .slice none 0 0]) 32 Try.underlying22 info_post rfl (by decide) (.slice Al ls.length cl) ls rfl (Hol2.out.ext (Ext.of_alloc _ _)) (wi.heap.size + 1) (.slice (some ⟨wi.heap.size, 0, none⟩) 1 1) [(LA + 1 + (d : Int), ps)] [.int .i64 (LA + 1 + (d : Int)), .slice Ap ps.length cp] rfl (SV.one_ wi #[.int .i64 (LA + 1 + (d : Int)), .slice Ap ps.length cp] _ 2 rfl) Hreps.out (by simp; omega) (by omega) (by simp; omega) ?_; intro v6 w6 hown6 hg6 hat6; generalize hps : ls ++ [(LA + 1 + (d : Int), ps)] = PS at hown6; obtain ⟨A6, c6, rfl, _, _⟩ := hown6.form; have hk6 : Kept (fun j => w.heap.size + 2 ≤ j) wi w6 := (Ext.kept (Ext.of_alloc wi _) _).trans (grown_kept hg6 fun r hr _ => Hol2.out.ge r hr); have Hps := Lib.hid hps; have Hk6 := Lib.hid hk6; have Hown6 := Lib.hid hown6; clear hps hk6 hown6 hg6 hat6))
                  go_roundw
                  case rel =>
                    obtain rfl := Hps.out
                    have hsz6 := Hk6.out.size
                    have hwb := Hwo.out b rfl
                    refine ⟨k + 1, _, none, rfl, by omega, by rw [plast_snoc], by rw [plast_snoc]; omega, by rw [plast_snoc]; omega, Hown6.out, Hs.out.keep (Nat.le_refl _) Hk6.out (fun k hk => by omega), ?_, by omega, by rw [Hpc.out, Hfin.out], by rw [wt_append, wt_cons, wt_nil]; simp only; omega, ?_⟩
                    · exact (Hb.out.trans (Hkp.out.below (by omega) fun k hk => by rcases hk with (rfl | rfl) | hk <;> omega)).trans (Hk6.out.below (by omega) fun k hk => by omega)
                    · intro r hr
                      cases hr
                  case measure => simp only [intOf]; omega
              · have hj0 : 0 < (j : Int) := by omega
                obtain ⟨b4, rfl⟩ : ∃ b4, oo = some b4 := by
                  cases oo with
                  | none => exact absurd (Or.inr rfl) hstop
                  | some b4 => exact ⟨b4, rfl⟩
                simp only [Option.isNone_some] at hwc
                have hw := Hw.out
                simp only [reduceCtorEq, false_or, lenO] at hw
                clear hstop Hw
                go_wp2_with fail
                refine (number_any w.heap.size bs.length _ w.heap.size _ 1048576 (Nat.le_refl _) (by omega) (by decide) Hs.out).mono ?_
                rintro e w5 ⟨rfl, hs5, hk5⟩
                have hx := numO_le 1048576 (some b4)
                have hxl := numO_len' 1048576 (some b4)
                obtain ⟨j', rfl⟩ : ∃ j', j = j' + 1 := ⟨j - 1, by omega⟩
                have hpo := possO_succ j' ps (some b4)
                rw [Hpo.out] at hpo
                generalize (numO 1048576 (some b4)).1 = x at hx hpo
                generalize (numO 1048576 (some b4)).2 = o5 at hs5 hxl hpo
                have hpb5 : Pbox w5 w2.heap.size (LA + 1 + d) (.slice Ap ps.length cp) := Hpb.out.keep hk5 (by omega)
                have hop5 : OwnL w5 (w2.heap.size + 1) 3 (fun _ => False) (.slice Ap ps.length cp) ps := Hop.out.kpt hk5 (fun k hk => .inl (by omega)) (fun _ h => h.elim)
                obtain ⟨hp0, hp1, hpf⟩ := hpb5.cell
                have hx' : (x : Int) ≤ 1048576 := by omega
                have hb5 := hpb5.lt
                have Hpo := Lib.hid hpo
                have Hs5 := Lib.hid hs5
                have Hk5 := Lib.hid hk5
                have Hpb5 := Lib.hid hpb5
                have Hop5 := Lib.hid hop5
                have Hxl := Lib.hid hxl
                generalize hIL : ilast (-1) ps = IL at hi1 hi2 Hpo
                have HIL := Lib.hid hIL
                clear hs5 hk5 hpb5 hop5 hxl hpo hIL
                have hreps : ∀ W : World, Reps (α := Int) W (fun k => False ∧ k < W.heap.size ∧ some k ≠ (Value.slice Ap ps.length cp).ownBlock) [.int .i64 (IL + (1 + (x : Int)))] [IL + (1 + (x : Int))] := fun W => Reps.single ⟨rfl, I6.mk (by omega)⟩
                go_wp2_with (at_builtin; go_loud (refine wpList_append_l _ rfl (.tmp 67) (.tmp 69) 39 rfl (w2.heap.size + 1) 3 (fun _ => False) (.int .i64 0) 8 Try.underlying39 info_int rfl (by decide) (.slice Ap ps.length cp) ps rfl (Hop5.out.ext (Ext.of_alloc _ _)) (w5.heap.size + 1) (.slice (some ⟨w5.heap.size, 0, none⟩) 1 1) [IL + (1 + (x : Int))] [.int .i64 (IL + (1 + (x : Int)))] rfl (SV.one_ w5 #[.int .i64 (IL + (1 + (x : Int)))] _ 1 rfl) (hreps _) (by simp; omega) (by omega) (by simp; omega) ?_; intro v6 w6 hown6 hg6 hat6; generalize hps : ps ++ [IL + (1 + (x : Int))] = PS at hown6; obtain ⟨A6, c6, rfl, _, _⟩ := hown6.form; have hk6 : Kept (fun j => w2.heap.size + 1 ≤ j) w5 w6 := (Ext.kept (Ext.of_alloc w5 _) _).trans (grown_kept hg6 fun r hr _ => Hop5.out.ge r hr); have hpb6 := Hpb5.out.keep hk6 (by omega); obtain ⟨hp0, hp1, hpf⟩ := hpb6.cell; have Hps := Lib.hid hps; have Hk6 := Lib.hid hk6; have Hown6 := Lib.hid hown6; have Hpb6 := Lib.hid hpb6; clear hps hk6 hown6 hpb6 hg6 hat6))
                go_roundw
                case rel =>
                  have hk7 : Kept (fun j => j = w2.heap.size) w6 (w6.setCell ⟨w2.heap.size, 1, none⟩ (.slice A6 PS.length c6)) := Kept.setCell _ _ _ _ rfl
                  have hPl : PS.length = ps.length + 1 := by rw [← Hps.out]; simp
                  have hsz6 := Hk6.out.size
                  refine ⟨j', PS, o5, _, congrArg (Value.int .i64) (by omega), by omega, by rw [← Hps.out, ilast_snoc], by rw [← Hps.out, ilast_snoc]; omega, by rw [← Hps.out, ilast_snoc, Hps.out, hPl]; omega, by omega, ?_, Hpb6.out.set _, Hown6.out.kpt hk7 (fun k hk => .inl (by omega)) (fun _ h => h.elim), ?_, ?_, ?_⟩
                  · rcases Hxl.out with h | h
                    · exact .inl h
                    · rw [show lenO (some b4) = b4.length from rfl] at h
                      exact .inr (by omega)
                  · exact (Hs5.out.keep (Nat.le_refl _) Hk6.out (fun k hk => by omega)).keep (Nat.le_refl _) hk7 (fun k hk => by omega)
                  · exact Hkp.out.trans ((Hk5.out.more fun _ _ h => .inl h).trans ((Hk6.out.more fun _ _ h => .inr (by omega)).trans (hk7.more fun _ _ h => .inr (by omega))))
                  · rw [← Hps.out]; exact Hpo.out.symm
                case measure => simp only [intOf]; omega

end Go.Proofs.Ytccmhjlniljhcaa
