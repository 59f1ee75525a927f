/-
  Contract of posting.Join.
  Conditions: at most 10,000 posts each.
-/
import Derived.Test.YtccmhjlniljhcaaRd
import Derived.Test.YtccmhjlniljhcaaRt
namespace Go.Proofs.Ytccmhjlniljhcaa
open Go.RowKit

/-- a row of numbers in blocks from B on -/
def IntsP (B : Nat) (ps : List Int) : Value → World → Prop := fun v W => SL W (fun k => B ≤ k ∧ k < W.heap.size) v ps
theorem mono_IntsP (B : Nat) (ps : List Int) : Mono (IntsP B ps) := fun v w w' h hx => (SL.keep h (Sm.of_ext hx fun k hk => hk.2)).more fun k hk => ⟨hk.1, Nat.lt_of_lt_of_le hk.2 hx.size⟩
/-- a post whose places lie in blocks from B on -/
def PostP (B : Nat) (p : Post) : Value → World → Prop := fun v W => ∃ u, v = .agg #[.int .i64 p.1, u] ∧ IntsP B p.2 u W
theorem mono_PostP (B : Nat) (p : Post) : Mono (PostP B p) := fun v w w' ⟨u, h, h1⟩ hx => ⟨u, h, mono_IntsP B p.2 u w w' h1 hx⟩
/-- a slice of one post -/
def OneP (B : Nat) (p : Post) : Value → World → Prop := fun v W => ∃ news, SV W W.heap.size 2 v 1 news ∧ Reps (α := Post) W (fun k => B ≤ k ∧ k < W.heap.size) news [p]
theorem mono_OneP (B : Nat) (p : Post) : Mono (OneP B p) := fun v w w' ⟨n, h, h1⟩ hx => ⟨n, h.up hx, (h1.keep (Sm.of_ext hx fun k hk => hk.2)).more fun k hk => ⟨hk.1, Nat.lt_of_lt_of_le hk.2 hx.size⟩⟩
section
variable {o : Oper} {a : Act} {W : World}
theorem do_post {x y : Operand} {B : Nat} {D : Int} {ps : List Int} (ho : o.op = .build 43 #[(0, x), (1, y)]) (hx : a.eval x = .int .i64 D) (hy : IntsP B ps (a.eval y) W) : Res Try.prog o a W (PostP B (D, ps)) := by
  obtain ⟨A, c, e, _, _⟩ := hy.form
  refine do_run (v := .agg #[.int .i64 D, .slice A ps.length c]) (by simp only [execOp, ho, List.map_toArray, List.map_cons, List.map_nil, hx, e]; simp [go_sem]) ⟨_, rfl, ?_⟩
  rw [← e]
  exact hy
theorem do_one {x : Operand} {B : Nat} {p : Post} (ho : o.op = .buildSlice 22 1 #[(0, x)]) (hx : PostP B p (a.eval x) W) (h6 : I6 p.1) : Res Try.prog o a W (OneP B p) := by
  obtain ⟨u, e, hu⟩ := hx
  obtain ⟨A, c, rfl, _, _⟩ := hu.form
  refine do_run_to (v := .slice (some ⟨W.heap.size, 0, none⟩) 1 1) (w' := W.alloc (.cells #[.int .i64 p.1, .slice A p.2.length c] 43)) (by simp only [execOp, ho, List.map_toArray, List.map_cons, List.map_nil, e]; simp [go_sem]) (Ext.of_alloc _ _) ⟨[.int .i64 p.1, .slice A p.2.length c], ?_, ?_⟩
  · have := SV.one_ W #[.int .i64 p.1, .slice A p.2.length c] 43 2 rfl
    rw [World.size_alloc]
    exact this
  · exact Reps.single (rep_post h6 ((SL.keep hu (Sm.of_ext (Ext.of_alloc _ _) fun k hk => hk.2)).more fun k hk => ⟨hk.1, by have := hk.2; simp; omega⟩))
end

theorem take_mapP (l : List Post) (k : Nat) : (l.take k).length = min k l.length := List.length_take
/-- b's posts, behind a's -/
def jn (a b : List Post) (by_ : Int) : List Post := a ++ b.map fun p => (p.1 + by_, p.2)
theorem jn_take (a b : List Post) (y : Int) {k : Nat} (h : k < b.length) : a ++ (b.take (k + 1)).map (fun p => (p.1 + y, p.2)) = (a ++ (b.take k).map (fun p => (p.1 + y, p.2))) ++ [((b[k]).1 + y, (b[k]).2)] := by
  rw [List.take_succ_eq_append_getElem h, List.map_append, List.append_assoc]
  rfl

/-- what comes out -/
def JoinIs (J : List Post) (w' : World) (e : Ending) : Prop := (psOk J = true ∧ ∃ z, e = .returned (.tuple #[z, .int .i64 0]) ∧ SL w' (Bw w') z J) ∨ (psOk J = false ∧ e = .returned (.tuple #[.slice none 0 0, .int .i64 80]))

set_option maxHeartbeats 6400000 in
set_option maxRecDepth 100000 in
theorem join_ok (w : World) (u v : Value) (a b : List Post) (y : Int) (hu : SL w (Bw w) u a) (hv : SL w (Bw w) v b) (ha : psOk a = true) (hb : psOk b = true) (hy : 0 ≤ y ∧ y ≤ 65536) (hla : wt a ≤ 700000) (hlb : wt b ≤ 700000) :
    Calls Try.prog 17 #[u, v, .int .i64 y] w fun e w' => JoinIs (jn a b y) w' e ∧ Ext w w' := by
  obtain ⟨A, c, rfl, hc, hm⟩ := hu.form
  obtain ⟨A', c', rfl, hc', hm'⟩ := hv.form
  have Hu := Lib.hid hu
  have Hv := Lib.hid hv
  have Ha := Lib.hid ha
  have Hb := Lib.hid hb
  have hy1 := hy.1
  have hy2 := hy.2
  have hy3 : decide (y < 0) = false := decide_eq_false (by omega)
  have hy4 : decide (65536 < y) = false := decide_eq_false (by omega)
  have hwa := wt_len a
  have hwb := wt_len b
  have hbb : ∀ q ∈ b, -1000000 ≤ q.1 ∧ q.1 ≤ 1000000 := by
    intro q hq
    obtain ⟨h1, _⟩ := psOk_spec hb
    obtain ⟨i, hi, rfl⟩ := List.getElem_of_mem hq
    have h2 := (plast_bounds h1 i).2.2.2 hi
    have h3 := (plast_bounds h1 i).1
    omega
  have Hbb := Lib.hid hbb
  clear hu hv hm hm' ha hb hy hbb
  go_enter Try.func17, Try.ntmps17
  go_wp2_with fail
  refine (check_any w _ a Hu.out).mono ?_
  rintro e w1 ⟨rfl, hx1⟩
  rw [Ha.out, if_pos rfl]
  have Hx1 := Lib.hid hx1
  clear hx1
  go_wp2_with fail
  refine (check_any w1 _ b (Hv.out.up Hx1.out)).mono ?_
  rintro e w2 ⟨rfl, hx2⟩
  rw [Hb.out, if_pos rfl]
  have Hx2 := Lib.hid (Ext.trans Hx1.out hx2)
  clear hx2
  go_wp2_with fail
  go_loopw [8, 32] (fun o i wr => ∃ k : Nat, i = .int .i64 k ∧ k ≤ a.length ∧ OwnL wr w.heap.size 43 (fun j => w.heap.size ≤ j) o (a.take k) ∧ Ext w wr) (fun _ i _ => a.length - (intOf i).toNat)
  case atStart => exact ⟨0, rfl, Nat.zero_le _, OwnL.nil_ _ _ _ _, Hx2.out⟩
  case round =>
    rename World => wq
    obtain ⟨k, rfl, hk, hol, hx⟩ := hrel
    obtain ⟨Al, cl, rfl, hclo, hmo⟩ := hol.form
    have hsz := hx.size
    have hll : (a.take k).length = k := by rw [List.length_take]; omega
    have Hx := Lib.hid hx
    have Hol := Lib.hid hol
    by_cases hlk : k < a.length
    · have hkl : (k : Int) < a.length := by omega
      obtain ⟨ad, u, rfl, had, hc0, hc1, hu, h6⟩ := Hu.out.post_at hlk
      have q0 := Ext.keeps hx hc0
      have q1 := Ext.keeps hx hc1
      have htk := List.take_succ_eq_append_getElem hlk
      have hu2 := hu.up hx
      obtain ⟨Au, cu, rfl, hcu, hmu⟩ := hu.form
      have hmem := wt_mem (List.getElem_mem hlk)
      generalize a[k] = N at hc0 hc1 hu2 hu h6 htk q0 q1 hcu hmem
      obtain ⟨D, ps⟩ := N
      dsimp only at hc0 hc1 hu2 hu h6 htk q0 q1 hcu hmem
      have hps : ps.length ≤ 1000000 := by omega
      have Htk := Lib.hid htk
      have H6 := Lib.hid h6
      have Hu2 := Lib.hid hu2
      have hb0 := Pbox.new wq D (.slice Au ps.length cu)
      obtain ⟨p0, p1, pf⟩ := hb0.cell
      clear hc0 hc1 hu hu2 htk h6 hol hx hb0
      generalize a.take k = LS at Hol hll Htk hclo
      have hlt : ∀ j, (Value.slice Al LS.length cl).ownBlock = some j → w.heap.size ≤ j ∧ j < wq.heap.size := by
        intro j hj
        obtain ⟨xs, h1, _⟩ := Hol.out
        exact ⟨Hol.out.ge j hj, (World.ownsRow.lt h1 j hj).2⟩
      have Hlt := Lib.hid hlt
      clear hlt
      go_wp2_with fail
      refine wp_region_tail [Is (.slice Al LS.length cl), Is (.pointer (some ⟨wq.heap.size, 0, none⟩)), Is (.int .i64 D), Is (.pointer (some ⟨wq.heap.size, 1, none⟩)), Is (.slice Au ps.length cu), IntsP (wq.heap.size + 1) ps, PostP (wq.heap.size + 1) (D, ps), OneP (wq.heap.size + 1) (D, ps)] 8 (by kernel_rfl) (by kernel_rfl) (by kernel_rfl) (of_decide_eq_true (by kernel_rfl)) (by kernel_rfl) (by kernel_rfl) (by kernel_rfl) ?_ ?_ ?_
      · intro p hp
        simp only [List.mem_cons, List.not_mem_nil, or_false] at hp
        rcases hp with rfl | rfl | rfl | rfl | rfl | rfl | rfl | rfl
        all_goals first | exact mono_is _ | exact mono_IntsP _ _ | exact mono_PostP _ _ | exact mono_OneP _ _
      · refine Steps.cons_ (step_mk (Is (.slice Al LS.length cl)) rfl fun a W hx hE hO => ?_) ?_
        · have h8 : a.eval (.tmp 8) = .slice Al LS.length cl := hO 8 (by kernel_rfl)
          exact yes_none rfl (do_move rfl h8)
        refine Steps.cons_ (step_mk (Is (.pointer (some ⟨wq.heap.size, 0, none⟩))) rfl fun a W hx hE hO => ?_) ?_
        · have h10 : a.eval (.tmp 10) = .pointer (some ⟨wq.heap.size, 0, none⟩) := hO 10 (by kernel_rfl)
          refine yes_none rfl (do_run (by simp only [execOp, h10] <;> simp [go_sem]) rfl)
        refine Steps.cons_ (step_mk (Is (.int .i64 D)) rfl fun a W hx hE hO => ?_) ?_
        · have h37 : a.eval (.tmp 37) = (.pointer (some ⟨wq.heap.size, 0, none⟩)) := hE 1 (by kernel_rfl) 37 rfl
          refine yes_none rfl ?_
          have q := Ext.keeps (Ext.trans (Ext.drew _) hx) p0; exact do_run (by simp only [execOp, h37] <;> simp [go_sem, q]) rfl
        refine Steps.cons_ (step_mk (Is (.pointer (some ⟨wq.heap.size, 1, none⟩))) rfl fun a W hx hE hO => ?_) ?_
        · have h10 : a.eval (.tmp 10) = .pointer (some ⟨wq.heap.size, 0, none⟩) := hO 10 (by kernel_rfl)
          refine yes_none rfl (do_run (by simp only [execOp, h10] <;> simp [go_sem]) rfl)
        refine Steps.cons_ (step_mk (Is (.slice Au ps.length cu)) rfl fun a W hx hE hO => ?_) ?_
        · have h39 : a.eval (.tmp 39) = (.pointer (some ⟨wq.heap.size, 1, none⟩)) := hE 3 (by kernel_rfl) 39 rfl
          refine yes_none rfl ?_
          have q := Ext.keeps (Ext.trans (Ext.drew _) hx) p1; exact do_run (by simp only [execOp, h39] <;> simp [go_sem, q]) rfl
        refine Steps.cons_ (step_mk (IntsP (wq.heap.size + 1) ps) rfl fun a W hx hE hO => ?_) ?_
        · have h40 : a.eval (.tmp 40) = (.slice Au ps.length cu) := hE 4 (by kernel_rfl) 40 rfl
          refine yes_none rfl (do_call rfl Try.func39 (by kernel_rfl) (by kernel_rfl) (args := #[(.slice Au ps.length cu)]) (by simp only [List.map_toArray, List.map_cons, List.map_nil, h40]) ?_)
          exact (clonei_any W _ ps (Hu2.out.up (Ext.trans (Ext.of_alloc wq _) (Ext.trans (Ext.drew _) hx))) hps).mono fun e w' ⟨v', he, ho, hx'⟩ => ⟨v', he, hx', ho.sl_none.more fun j hj => ⟨by have := hx.size; simp at this; omega, hj.2⟩⟩
        refine Steps.cons_ (step_mk (PostP (wq.heap.size + 1) (D, ps)) rfl fun a W hx hE hO => ?_) ?_
        · have h38 : a.eval (.tmp 38) = (.int .i64 D) := hE 2 (by kernel_rfl) 38 rfl
          have h41 : (IntsP (wq.heap.size + 1) ps) (a.eval (.tmp 41)) W := hE 5 (by kernel_rfl) 41 rfl
          refine yes_none rfl ?_
          exact do_post rfl h38 h41
        refine Steps.cons_ (step_mk (OneP (wq.heap.size + 1) (D, ps)) rfl fun a W hx hE hO => ?_) ?_
        · have h42 : (PostP (wq.heap.size + 1) (D, ps)) (a.eval (.tmp 42)) W := hE 6 (by kernel_rfl) 42 rfl
          refine yes_none rfl ?_
          exact do_one rfl h42 H6.out
        exact Steps.nil_
      · intro a W hx hd hsz hE hO
        have h36 : a.eval (.tmp 36) = (.slice Al LS.length cl) := hE 0 (of_decide_eq_true (by kernel_rfl)) 36 rfl
        have h43 : (OneP (wq.heap.size + 1) (D, ps)) (a.eval (.tmp 43)) W := hE 7 (of_decide_eq_true (by kernel_rfl)) 43 rfl
        have hmix := act_mix [false, false, false, false, false, false, false, false, false, false, false, false, false, false, false, false, false, false, false, false, false, false, false, false, false, false, false, false, false, false, false, false, false, false, false, false, true, true, true, true, true, true, true, true, false, false, false, false, false, false, false, false, false, false, false, false, false, false, false, false, false, false, false, false, false, false, false, false, false, false] (by kernel_rfl) hsz hd hO
        simp only [mixA, Nat.reduceAdd, Nat.zero_add] at hmix
        rw [hmix]
        rw [h36]
        generalize a.eval (.tmp 37) = u37
        generalize a.eval (.tmp 38) = u38
        generalize a.eval (.tmp 39) = u39
        generalize a.eval (.tmp 40) = u40
        generalize a.eval (.tmp 41) = u41
        generalize a.eval (.tmp 42) = u42
        clear hmix hd hsz hE hO
        simp only [List.drop_succ_cons, List.drop_zero]
        obtain ⟨news, hsv, hreps⟩ := h43
        generalize a.eval (.tmp 43) = u43 at hsv
        have Hol7 := Lib.hid (Hol.out.ext (Ext.trans (Ext.of_alloc wq (.cells #[.int .i64 D, .slice Au ps.length cu] 43)) hx))
        have hreps7 : Reps (α := Post) W (fun k => w.heap.size ≤ k ∧ k < W.heap.size ∧ some k ≠ (Value.slice Al LS.length cl).ownBlock) news [(D, ps)] := hreps.more fun k hk => ⟨by omega, hk.2, fun e => by have := (Hlt.out k e.symm).2; omega⟩
        have Hsv := Lib.hid hsv
        have Hreps := Lib.hid hreps7
        have hszW := hx.size
        simp only [World.size_alloc] at hszW
        have Hx7 := Lib.hid (Ext.trans Hx.out (Ext.trans (Ext.of_alloc wq (.cells #[.int .i64 D, .slice Au ps.length cu] 43)) hx))
        clear hsv hreps hreps7 h36 hx p0 p1 q0 q1
        go_wp2_with (at_builtin; go_loud (refine wpList_append_l _ rfl (.tmp 36) (.tmp 43) 22 rfl w.heap.size 43 (fun j => w.heap.size ≤ j) (.agg #[.int .i64 0, .slice none 0 0]) 32 Try.underlying22 info_post rfl (by decide) (.slice Al LS.length cl) LS rfl Hol7.out W.heap.size u43 [(D, ps)] news rfl Hsv.out Hreps.out (by simp; omega) (by omega) (by omega) ?_; intro v6 w6 hown6 hg6 hat6))
        go_roundw
        case rel => exact ⟨k + 1, rfl, by omega, by rw [Htk.out]; exact hown6, Below.grown Hx7.out hg6 (by omega) (fun j hj => (Hlt.out j hj).1)⟩
        case measure => simp only [intOf]; omega
    · have hkl : ¬(k : Int) < a.length := by omega
      rw [hll, List.take_of_length_le (by omega)] at hol
      have hol0 : OwnL wq w.heap.size 43 (fun j => w.heap.size ≤ j) (.slice Al k cl) (a ++ (b.take 0).map fun p => (p.1 + y, p.2)) := by simpa using hol
      rw [hll] at hclo
      have Hol0 := Lib.hid hol0
      clear hol hol0 hx Hol
      go_wp2_with fail
      go_loopw [8, 48] (fun o i wr => ∃ k : Nat, i = .int .i64 k ∧ k ≤ b.length ∧ OwnL wr w.heap.size 43 (fun j => w.heap.size ≤ j) o (a ++ (b.take k).map fun p => (p.1 + y, p.2)) ∧ Ext w wr) (fun _ i _ => b.length - (intOf i).toNat)
      case atStart => exact ⟨0, rfl, Nat.zero_le _, Hol0.out, Hx.out⟩
      case round =>
        rename World => wq
        obtain ⟨k, rfl, hk, hol, hx⟩ := hrel
        obtain ⟨Al, cl, rfl, hclo, hmo⟩ := hol.form
        have hsz := hx.size
        have hll : (a ++ (b.take k).map fun p => (p.1 + y, p.2)).length = a.length + k := by rw [List.length_append, List.length_map, List.length_take]; omega
        have Hx := Lib.hid hx
        have Hol := Lib.hid hol
        by_cases hlk : k < b.length
        · have hkl : (k : Int) < b.length := by omega
          obtain ⟨ad, u, rfl, had, hc0, hc1, hu, h6⟩ := Hv.out.post_at hlk
          have q0 := Ext.keeps hx hc0
          have q1 := Ext.keeps hx hc1
          have htk := jn_take a b y hlk
          have hu2 := hu.up hx
          obtain ⟨Au, cu, rfl, hcu, hmu⟩ := hu.form
          have hmem := wt_mem (List.getElem_mem hlk)
          have hDb := Hbb.out _ (List.getElem_mem hlk)
          generalize b[k] = N at hc0 hc1 hu2 hu h6 htk q0 q1 hcu hmem hDb
          obtain ⟨D, ps⟩ := N
          dsimp only at hc0 hc1 hu2 hu h6 htk q0 q1 hcu hmem hDb
          have hps : ps.length ≤ 1000000 := by omega
          have Htk := Lib.hid htk
          have H6 := Lib.hid h6
          have h6y : I6 (D + y) := I6.mk (by omega)
          have H6y := Lib.hid h6y
          have Hu2 := Lib.hid hu2
          have hb0 := Pbox.new wq D (.slice Au ps.length cu)
          obtain ⟨p0, p1, pf⟩ := hb0.cell
          have hwr : IntKind.i64.wrap (D + y) = D + y := by have := h6y.le; rw [IntKind.wrap_i64]; omega
          clear hc0 hc1 hu hu2 htk h6 h6y hol hx hb0
          generalize (a ++ (b.take k).map fun p => (p.1 + y, p.2)) = LS at Hol hll Htk hclo
          have hlt : ∀ j, (Value.slice Al LS.length cl).ownBlock = some j → w.heap.size ≤ j ∧ j < wq.heap.size := by
            intro j hj
            obtain ⟨xs, h1, _⟩ := Hol.out
            exact ⟨Hol.out.ge j hj, (World.ownsRow.lt h1 j hj).2⟩
          have Hlt := Lib.hid hlt
          clear hlt
          go_wp2_with fail
          refine wp_region_tail [Is (.slice Al LS.length cl), Is (.pointer (some ⟨wq.heap.size, 0, none⟩)), Is (.int .i64 D), Is (.int .i64 y), Is (.int .i64 (D + y)), Is (.pointer (some ⟨wq.heap.size, 1, none⟩)), Is (.slice Au ps.length cu), IntsP (wq.heap.size + 1) ps, PostP (wq.heap.size + 1) (D + y, ps), OneP (wq.heap.size + 1) (D + y, ps)] 10 (by kernel_rfl) (by kernel_rfl) (by kernel_rfl) (of_decide_eq_true (by kernel_rfl)) (by kernel_rfl) (by kernel_rfl) (by kernel_rfl) ?_ ?_ ?_
          · intro p hp
            simp only [List.mem_cons, List.not_mem_nil, or_false] at hp
            rcases hp with rfl | rfl | rfl | rfl | rfl | rfl | rfl | rfl | rfl | rfl
            all_goals first | exact mono_is _ | exact mono_IntsP _ _ | exact mono_PostP _ _ | exact mono_OneP _ _
          · refine Steps.cons_ (step_mk (Is (.slice Al LS.length cl)) rfl fun a W hx hE hO => ?_) ?_
            · have h8 : a.eval (.tmp 8) = .slice Al LS.length cl := hO 8 (by kernel_rfl)
              exact yes_none rfl (do_move rfl h8)
            refine Steps.cons_ (step_mk (Is (.pointer (some ⟨wq.heap.size, 0, none⟩))) rfl fun a W hx hE hO => ?_) ?_
            · have h12 : a.eval (.tmp 12) = .pointer (some ⟨wq.heap.size, 0, none⟩) := hO 12 (by kernel_rfl)
              refine yes_none rfl (do_run (by simp only [execOp, h12] <;> simp [go_sem]) rfl)
            refine Steps.cons_ (step_mk (Is (.int .i64 D)) rfl fun a W hx hE hO => ?_) ?_
            · have h53 : a.eval (.tmp 53) = (.pointer (some ⟨wq.heap.size, 0, none⟩)) := hE 1 (by kernel_rfl) 53 rfl
              refine yes_none rfl ?_
              have q := Ext.keeps (Ext.trans (Ext.drew _) hx) p0; exact do_run (by simp only [execOp, h53] <;> simp [go_sem, q]) rfl
            refine Steps.cons_ (step_mk (Is (.int .i64 y)) rfl fun a W hx hE hO => ?_) ?_
            · have h2 : a.eval (.tmp 2) = .int .i64 y := hO 2 (by kernel_rfl)
              exact yes_none rfl (do_move rfl h2)
            refine Steps.cons_ (step_mk (Is (.int .i64 (D + y))) rfl fun a W hx hE hO => ?_) ?_
            · have h54 : a.eval (.tmp 54) = (.int .i64 D) := hE 2 (by kernel_rfl) 54 rfl
              have h55 : a.eval (.tmp 55) = (.int .i64 y) := hE 3 (by kernel_rfl) 55 rfl
              refine yes_none rfl ?_
              exact do_bin (v := .int .i64 (D + y)) rfl h54 h55 (by simp [go_sem, hwr]) rfl
            refine Steps.cons_ (step_mk (Is (.pointer (some ⟨wq.heap.size, 1, none⟩))) rfl fun a W hx hE hO => ?_) ?_
            · have h12 : a.eval (.tmp 12) = .pointer (some ⟨wq.heap.size, 0, none⟩) := hO 12 (by kernel_rfl)
              refine yes_none rfl (do_run (by simp only [execOp, h12] <;> simp [go_sem]) rfl)
            refine Steps.cons_ (step_mk (Is (.slice Au ps.length cu)) rfl fun a W hx hE hO => ?_) ?_
            · have h57 : a.eval (.tmp 57) = (.pointer (some ⟨wq.heap.size, 1, none⟩)) := hE 5 (by kernel_rfl) 57 rfl
              refine yes_none rfl ?_
              have q := Ext.keeps (Ext.trans (Ext.drew _) hx) p1; exact do_run (by simp only [execOp, h57] <;> simp [go_sem, q]) rfl
            refine Steps.cons_ (step_mk (IntsP (wq.heap.size + 1) ps) rfl fun a W hx hE hO => ?_) ?_
            · have h58 : a.eval (.tmp 58) = (.slice Au ps.length cu) := hE 6 (by kernel_rfl) 58 rfl
              refine yes_none rfl (do_call rfl Try.func39 (by kernel_rfl) (by kernel_rfl) (args := #[(.slice Au ps.length cu)]) (by simp only [List.map_toArray, List.map_cons, List.map_nil, h58]) ?_)
              exact (clonei_any W _ ps (Hu2.out.up (Ext.trans (Ext.of_alloc wq _) (Ext.trans (Ext.drew _) hx))) hps).mono fun e w' ⟨v', he, ho, hx'⟩ => ⟨v', he, hx', ho.sl_none.more fun j hj => ⟨by have := hx.size; simp at this; omega, hj.2⟩⟩
            refine Steps.cons_ (step_mk (PostP (wq.heap.size + 1) (D + y, ps)) rfl fun a W hx hE hO => ?_) ?_
            · have h56 : a.eval (.tmp 56) = (.int .i64 (D + y)) := hE 4 (by kernel_rfl) 56 rfl
              have h59 : (IntsP (wq.heap.size + 1) ps) (a.eval (.tmp 59)) W := hE 7 (by kernel_rfl) 59 rfl
              refine yes_none rfl ?_
              exact do_post rfl h56 h59
            refine Steps.cons_ (step_mk (OneP (wq.heap.size + 1) (D + y, ps)) rfl fun a W hx hE hO => ?_) ?_
            · have h60 : (PostP (wq.heap.size + 1) (D + y, ps)) (a.eval (.tmp 60)) W := hE 8 (by kernel_rfl) 60 rfl
              refine yes_none rfl ?_
              exact do_one rfl h60 H6y.out
            exact Steps.nil_
          · intro a W hx hd hsz hE hO
            have h52 : a.eval (.tmp 52) = (.slice Al LS.length cl) := hE 0 (of_decide_eq_true (by kernel_rfl)) 52 rfl
            have h61 : (OneP (wq.heap.size + 1) (D + y, ps)) (a.eval (.tmp 61)) W := hE 9 (of_decide_eq_true (by kernel_rfl)) 61 rfl
            have hmix := act_mix [false, false, false, false, false, false, false, false, false, false, false, false, false, false, false, false, false, false, false, false, false, false, false, false, false, false, false, false, false, false, false, false, false, false, false, false, false, false, false, false, false, false, false, false, false, false, false, false, false, false, false, false, true, true, true, true, true, true, true, true, true, true, false, false, false, false, false, false, false, false] (by kernel_rfl) hsz hd hO
            simp only [mixA, Nat.reduceAdd, Nat.zero_add] at hmix
            rw [hmix]
            rw [h52]
            generalize a.eval (.tmp 53) = u53
            generalize a.eval (.tmp 54) = u54
            generalize a.eval (.tmp 55) = u55
            generalize a.eval (.tmp 56) = u56
            generalize a.eval (.tmp 57) = u57
            generalize a.eval (.tmp 58) = u58
            generalize a.eval (.tmp 59) = u59
            generalize a.eval (.tmp 60) = u60
            clear hmix hd hsz hE hO
            simp only [List.drop_succ_cons, List.drop_zero]
            obtain ⟨news, hsv, hreps⟩ := h61
            generalize a.eval (.tmp 61) = u61 at hsv
            have Hol7 := Lib.hid (Hol.out.ext (Ext.trans (Ext.of_alloc wq (.cells #[.int .i64 D, .slice Au ps.length cu] 43)) hx))
            have hreps7 : Reps (α := Post) W (fun k => w.heap.size ≤ k ∧ k < W.heap.size ∧ some k ≠ (Value.slice Al LS.length cl).ownBlock) news [(D + y, ps)] := hreps.more fun k hk => ⟨by omega, hk.2, fun e => by have := (Hlt.out k e.symm).2; omega⟩
            have Hsv := Lib.hid hsv
            have Hreps := Lib.hid hreps7
            have hszW := hx.size
            simp only [World.size_alloc] at hszW
            have Hx7 := Lib.hid (Ext.trans Hx.out (Ext.trans (Ext.of_alloc wq (.cells #[.int .i64 D, .slice Au ps.length cu] 43)) hx))
            clear hsv hreps hreps7 h52 hx p0 p1 q0 q1 hwr
            go_wp2_with (at_builtin; go_loud (refine wpList_append_l _ rfl (.tmp 52) (.tmp 61) 22 rfl w.heap.size 43 (fun j => w.heap.size ≤ j) (.agg #[.int .i64 0, .slice none 0 0]) 32 Try.underlying22 info_post rfl (by decide) (.slice Al LS.length cl) LS rfl Hol7.out W.heap.size u61 [(D + y, ps)] news rfl Hsv.out Hreps.out (by simp; omega) (by omega) (by omega) ?_; intro v6 w6 hown6 hg6 hat6))
            go_roundw
            case rel => exact ⟨k + 1, rfl, by omega, by rw [Htk.out]; exact hown6, Below.grown Hx7.out hg6 (by omega) (fun j hj => (Hlt.out j hj).1)⟩
            case measure => simp only [intOf]; omega
        · have hkl : ¬(k : Int) < b.length := by omega
          have hJ : (a ++ (b.take k).map fun p => (p.1 + y, p.2)) = jn a b y := by rw [List.take_of_length_le (by omega)]; rfl
          have hsl := hol.sl
          rw [hll, hJ] at hsl
          clear Hol hol hll hx hclo hJ
          generalize hJ : jn a b y = J at hsl
          have Hsl := Lib.hid hsl
          have HJ := Lib.hid hJ
          clear hsl hJ
          go_wp2_with fail
          refine (check_any wq _ J Hsl.out).mono ?_
          rintro e w5 ⟨rfl, hx5⟩
          have Hx5 := Lib.hid hx5
          clear hx5
          cases hpo : psOk J with
          | true =>
            rw [if_pos rfl]
            go_wp2
            go_ret2
            exact ⟨by rw [HJ.out]; exact .inl ⟨hpo, _, rfl, Hsl.out.up Hx5.out⟩, Ext.trans Hx.out Hx5.out⟩
          | false =>
            rw [if_neg (by decide)]
            go_wp2
            go_ret2
            exact ⟨by rw [HJ.out]; exact .inr ⟨hpo, rfl⟩, Ext.trans Hx.out Hx5.out⟩

end Go.Proofs.Ytccmhjlniljhcaa
