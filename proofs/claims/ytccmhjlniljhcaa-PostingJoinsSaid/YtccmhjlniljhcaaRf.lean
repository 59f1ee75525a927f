/-
  Contracts of posting.Join where it refuses, and of the reference's Join.
  Conditions: rows of at most 700,000 bytes, by their weight.
-/
import Derived.Test.YtccmhjlniljhcaaRe
import Derived.Test.YtccmhjlniljhcaaQh
namespace Go.Proofs.Ytccmhjlniljhcaa
open Go.RowKit

/-- may two rows be joined? -/
def jOk (a b : List Post) (y : Int) : Bool := (psOk a && psOk b) && (decide (0 ≤ y) && decide (y ≤ 65536))
set_option maxHeartbeats 1600000 in
set_option maxRecDepth 100000 in
theorem join_bad (w : World) (u v : Value) (a b : List Post) (y : Int) (hu : SL w (Bw w) u a) (hv : SL w (Bw w) v b) (h : jOk a b y = false) :
    Calls Try.prog 17 #[u, v, .int .i64 y] w fun e w' => e = .returned (.tuple #[.slice none 0 0, .int .i64 80]) ∧ Ext w w' := by
  obtain ⟨A, c, rfl, _, _⟩ := hu.form
  obtain ⟨A', c', rfl, _, _⟩ := hv.form
  have Hu := Lib.hid hu
  have Hv := Lib.hid hv
  clear hu hv
  cases ha : psOk a with
  | false =>
    have Ha := Lib.hid ha
    clear h ha
    go_enter Try.func17, Try.ntmps17
    go_wp2_with fail
    refine (check_any w _ a Hu.out).mono ?_
    rintro e w1 ⟨rfl, hx1⟩
    rw [Ha.out, if_neg (by decide)]
    go_wp2
    go_ret2
    exact ⟨rfl, hx1⟩
  | true =>
    cases hb : psOk b with
    | false =>
      have Ha := Lib.hid ha
      have Hb := Lib.hid hb
      clear h ha hb
      go_enter Try.func17, Try.ntmps17
      go_wp2_with fail
      refine (check_any w _ a Hu.out).mono ?_
      rintro e w1 ⟨rfl, hx1⟩
      rw [Ha.out, if_pos rfl]
      have Hx1 := Lib.hid hx1
      clear hx1
      go_wp2_with fail
      refine (check_any w1 _ b (Hv.out.up Hx1.out)).mono ?_
      rintro e w2 ⟨rfl, hx2⟩
      rw [Hb.out, if_neg (by decide)]
      go_wp2
      go_ret2
      exact ⟨rfl, Ext.trans Hx1.out hx2⟩
    | true =>
      have hy : y < 0 ∨ (0 ≤ y ∧ 65536 < y) := by
        rw [jOk, ha, hb] at h
        by_cases h1 : y < 0
        · exact .inl h1
        · refine .inr ⟨by omega, ?_⟩
          have e1 : decide (0 ≤ y) = true := decide_eq_true (by omega)
          rw [e1] at h
          simp at h
          exact h
      have Ha := Lib.hid ha
      have Hb := Lib.hid hb
      clear h ha hb
      rcases hy with hy | ⟨hy0, hy⟩
      · have hd : decide (y < 0) = true := decide_eq_true hy
        clear hy
        go_enter Try.func17, Try.ntmps17
        go_wp2_with fail
        refine (check_any w _ a Hu.out).mono ?_
        rintro e w1 ⟨rfl, hx1⟩
        rw [Ha.out, if_pos rfl]
        have Hx1 := Lib.hid hx1
        clear hx1
        go_wp2_with fail
        refine (check_any w1 _ b (Hv.out.up Hx1.out)).mono ?_
        rintro e w2 ⟨rfl, hx2⟩
        rw [Hb.out, if_pos rfl]
        go_wp2
        go_ret2
        exact ⟨rfl, Ext.trans Hx1.out hx2⟩
      · have hd0 : decide (y < 0) = false := decide_eq_false (by omega)
        have hd : decide (65536 < y) = true := decide_eq_true hy
        clear hy hy0
        go_enter Try.func17, Try.ntmps17
        go_wp2_with fail
        refine (check_any w _ a Hu.out).mono ?_
        rintro e w1 ⟨rfl, hx1⟩
        rw [Ha.out, if_pos rfl]
        have Hx1 := Lib.hid hx1
        clear hx1
        go_wp2_with fail
        refine (check_any w1 _ b (Hv.out.up Hx1.out)).mono ?_
        rintro e w2 ⟨rfl, hx2⟩
        rw [Hb.out, if_pos rfl]
        go_wp2
        go_ret2
        exact ⟨rfl, Ext.trans Hx1.out hx2⟩

set_option maxHeartbeats 1600000 in
set_option maxRecDepth 100000 in
theorem rjoin_bad (w : World) (u v : Value) (a b : List Post) (y : Int) (hu : SL w (Bw w) u a) (hv : SL w (Bw w) v b) (h : jOk a b y = false) :
    Calls Try.prog 18 #[u, v, .int .i64 y] w fun e w' => e = .returned (.tuple #[.slice none 0 0, .int .i64 80]) ∧ Ext w w' := by
  obtain ⟨A, c, rfl, _, _⟩ := hu.form
  obtain ⟨A', c', rfl, _, _⟩ := hv.form
  have Hu := Lib.hid hu
  have Hv := Lib.hid hv
  clear hu hv
  by_cases h0 : y < 0
  · have hd : decide (y < 0) = true := decide_eq_true h0
    clear h h0
    go_enter Try.func18, Try.ntmps18
    go_wp2
    go_ret2
    exact ⟨rfl, Below.refl _ _⟩
  · have hd0 : decide (y < 0) = false := decide_eq_false h0
    by_cases h1 : 65536 < y
    · have hd : decide (65536 < y) = true := decide_eq_true h1
      clear h h0 h1
      go_enter Try.func18, Try.ntmps18
      go_wp2
      go_ret2
      exact ⟨rfl, Below.refl _ _⟩
    · have hd1 : decide (65536 < y) = false := decide_eq_false h1
      have hab : psOk a = false ∨ (psOk a = true ∧ psOk b = false) := by
        have e1 : decide (0 ≤ y) = true := decide_eq_true (by omega)
        have e2 : decide (y ≤ 65536) = true := decide_eq_true (by omega)
        rw [jOk, e1, e2] at h
        cases ha : psOk a with
        | false => exact .inl rfl
        | true =>
          rw [ha] at h
          exact .inr ⟨rfl, by simpa using h⟩
      clear h h0 h1
      rcases hab with ha | ⟨ha, hb⟩
      · have Ha := Lib.hid ha
        clear ha
        go_enter Try.func18, Try.ntmps18
        go_wp2_with fail
        refine (is_any w _ a Hu.out).mono ?_
        rintro e w1 ⟨rfl, hx1⟩
        rw [Ha.out]
        go_wp2
        go_ret2
        exact ⟨rfl, hx1⟩
      · have Ha := Lib.hid ha
        have Hb := Lib.hid hb
        clear ha hb
        go_enter Try.func18, Try.ntmps18
        go_wp2_with fail
        refine (is_any w _ a Hu.out).mono ?_
        rintro e w1 ⟨rfl, hx1⟩
        rw [Ha.out]
        have Hx1 := Lib.hid hx1
        clear hx1
        go_wp2_with fail
        refine (is_any w1 _ b (Hv.out.up Hx1.out)).mono ?_
        rintro e w2 ⟨rfl, hx2⟩
        rw [Hb.out]
        go_wp2
        go_ret2
        exact ⟨rfl, Ext.trans Hx1.out hx2⟩

/-- a slice of one post that lies in old blocks -/
def OldP (B : Nat) (p : Post) : Value → World → Prop := fun v W => B ≤ W.heap.size ∧ ∃ news, SV W W.heap.size 2 v 1 news ∧ Reps (α := Post) W (fun k => k < B) news [p]
theorem mono_OldP (B : Nat) (p : Post) : Mono (OldP B p) := fun v w w' ⟨hB, n, h, h1⟩ hx => ⟨Nat.le_trans hB hx.size, n, h.up hx, h1.keep (Sm.of_ext hx fun k hk => Nat.lt_of_lt_of_le hk hB)⟩
section
variable {o : Oper} {a : Act} {W : World}
theorem do_build {x y : Operand} {D : Int} {A : Option Addr} {n c : Nat} {p : Value → World → Prop} (ho : o.op = .build 43 #[(0, x), (1, y)]) (hx : a.eval x = .int .i64 D) (hy : a.eval y = .slice A n c) (hp : p (.agg #[.int .i64 D, .slice A n c]) W) : Res Try.prog o a W p := by
  refine do_run (v := .agg #[.int .i64 D, .slice A n c]) (by simp only [execOp, ho, List.map_toArray, List.map_cons, List.map_nil, hx, hy]; simp [go_sem]) hp
theorem do_old {x : Operand} {B : Nat} {D : Int} {ps : List Int} {A : Option Addr} {c : Nat} (ho : o.op = .buildSlice 22 1 #[(0, x)]) (e : a.eval x = .agg #[.int .i64 D, .slice A ps.length c]) (h6 : I6 D) (hB : B ≤ W.heap.size) (hu : SL W (· < B) (.slice A ps.length c) ps) : Res Try.prog o a W (OldP B (D, ps)) := by
  refine do_run_to (v := .slice (some ⟨W.heap.size, 0, none⟩) 1 1) (w' := W.alloc (.cells #[.int .i64 D, .slice A ps.length c] 43)) (by simp only [execOp, ho, List.map_toArray, List.map_cons, List.map_nil, e]; simp [go_sem]) (Ext.of_alloc _ _) ⟨by simp; omega, [.int .i64 D, .slice A ps.length c], ?_, ?_⟩
  · have := SV.one_ W #[.int .i64 D, .slice A ps.length c] 43 2 rfl
    rw [World.size_alloc]
    exact this
  · exact Reps.single (rep_post h6 (SL.keep hu (Sm.of_ext (Ext.of_alloc _ _) fun k hk => by omega)))
end
theorem SL.svS {α : Type} [Rep α] {w : World} {S : Nat → Prop} {v : Value} {l : List α} (h : SL w S v l) (hS : ∀ k, S k → k < w.heap.size) : ∃ xs, SV w w.heap.size (Rep.n α) v l.length xs ∧ Reps w S xs l := by
  obtain ⟨A, c, xs, e, h1, h2, h3, h4, h5⟩ := h
  exact ⟨xs, ⟨A, c, e, h1, h2, h3, (h4.more hS).rd⟩, h5⟩

set_option maxHeartbeats 6400000 in
set_option maxRecDepth 100000 in
theorem rjoin_ok (w : World) (u v : Value) (a b : List Post) (y : Int) (hu : SL w (Bw w) u a) (hv : SL w (Bw w) v b) (ha : psOk a = true) (hb : psOk b = true) (hy : 0 ≤ y ∧ y ≤ 65536) (hla : wt a ≤ 700000) (hlb : wt b ≤ 700000) :
    Calls Try.prog 18 #[u, v, .int .i64 y] w fun e w' => JoinIs (jn a b y) w' e ∧ Ext w w' := by
  obtain ⟨A, c, rfl, hc, hm⟩ := hu.form
  obtain ⟨A', c', rfl, hc', hm'⟩ := hv.form
  have Hu := Lib.hid hu
  have Hv := Lib.hid hv
  have Ha := Lib.hid ha
  have Hb := Lib.hid hb
  have hy1 := hy.1
  have hy2 := hy.2
  have hy3 : decide (y < 0) = false := decide_eq_false (by omega)
  have hy4 : decide (65536 < y) = false := decide_eq_false (by omega)
  have hwa := wt_len a
  have hwb := wt_len b
  have hbb : ∀ q ∈ b, -1000000 ≤ q.1 ∧ q.1 ≤ 1000000 := by
    intro q hq
    obtain ⟨h1, _⟩ := psOk_spec hb
    obtain ⟨i, hi, rfl⟩ := List.getElem_of_mem hq
    have h2 := (plast_bounds h1 i).2.2.2 hi
    have h3 := (plast_bounds h1 i).1
    omega
  have Hbb := Lib.hid hbb
  clear hu hv hm hm' ha hb hy hbb
  go_enter Try.func18, Try.ntmps18
  go_wp2_with fail
  refine (is_any w _ a Hu.out).mono ?_
  rintro e w1 ⟨rfl, hx1⟩
  rw [Ha.out]
  have Hx1 := Lib.hid hx1
  clear hx1
  go_wp2_with fail
  refine (is_any w1 _ b (Hv.out.up Hx1.out)).mono ?_
  rintro e w2 ⟨rfl, hx2⟩
  rw [Hb.out]
  have hx2' := Ext.trans Hx1.out hx2
  have hsz2 := hx2'.size
  have hx3 : Ext w (w2.alloc (.cells #[] 43)) := Ext.al hx2' _
  obtain ⟨news, hsv, hreps⟩ := SL.svS (Hu.out.keep (Sm.of_ext hx3 fun k hk => hk)) (fun k hk => by have := hx3.size; simp only [Bw] at hk; omega)
  have hreps3 : Reps (α := Post) (w2.alloc (.cells #[] 43)) (fun k => k < w.heap.size ∧ k < (w2.alloc (.cells #[] 43)).heap.size ∧ some k ≠ (Value.slice (some ⟨w2.heap.size, 0, none⟩) 0 0).ownBlock) news a := hreps.more fun k hk => ⟨hk, by simp only [Bw] at hk; simp; omega, fun e => by simp only [Bw] at hk; simp [Value.ownBlock] at e; omega⟩
  have Hsv := Lib.hid hsv
  have Hreps3 := Lib.hid hreps3
  have Hx3 := Lib.hid hx3
  clear hsv hreps hreps3 hx2 hx2' hx3
  go_wp2_with (at_builtin; go_loud (refine wpList_append_l _ rfl (.tmp 26) (.tmp 27) 22 rfl w.heap.size 43 (fun j => j < w.heap.size) (.agg #[.int .i64 0, .slice none 0 0]) 32 Try.underlying22 info_post rfl (by decide) (.slice (some ⟨w2.heap.size, 0, none⟩) 0 0) [] rfl ((OwnL.empty_ w2 _ _ _ rfl).base_ hsz2) _ (.slice A a.length c) a news rfl Hsv.out Hreps3.out (by simp; omega) (by omega) (by simp; omega) ?_; intro v6 w6 hown6 hg6 hat6))
  rw [List.nil_append] at hown6
  have hol0 : OwnL w6 w.heap.size 43 (fun j => j < w.heap.size) v6 (a ++ (b.take 0).map fun p => (p.1 + y, p.2)) := by simpa using hown6
  have Hol0 := Lib.hid hol0
  have hx6 : Ext w w6 := Below.grown Hx3.out hg6 (by simp; omega) (fun j hj => by simp [Value.ownBlock] at hj; omega)
  have Hx6 := Lib.hid hx6
  clear hown6 hol0 hg6 hat6 hx6
  go_wp2_with fail
  go_loopw [8, 9] (fun o i wr => ∃ k : Nat, i = .int .i64 k ∧ k ≤ b.length ∧ OwnL wr w.heap.size 43 (fun j => j < w.heap.size) o (a ++ (b.take k).map fun p => (p.1 + y, p.2)) ∧ Ext w wr) (fun _ i _ => b.length - (intOf i).toNat)
  case atStart => exact ⟨0, rfl, Nat.zero_le _, Hol0.out, Hx6.out⟩
  case round =>
    rename World => wq
    obtain ⟨k, rfl, hk, hol, hx⟩ := hrel
    obtain ⟨Al, cl, rfl, hclo, hmo⟩ := hol.form
    have hsz := hx.size
    have hll : (a ++ (b.take k).map fun p => (p.1 + y, p.2)).length = a.length + k := by rw [List.length_append, List.length_map, List.length_take]; omega
    have Hx := Lib.hid hx
    have Hol := Lib.hid hol
    by_cases hlk : k < b.length
    · have hkl : (k : Int) < b.length := by omega
      obtain ⟨ad, u, rfl, had, hc0, hc1, hu, h6⟩ := Hv.out.post_at hlk
      have q0 := Ext.keeps hx hc0
      have q1 := Ext.keeps hx hc1
      have htk := jn_take a b y hlk
      have hu2 := hu.keep (Sm.of_ext hx fun k hk => hk)
      obtain ⟨Au, cu, rfl, hcu, hmu⟩ := hu.form
      have hmem := wt_mem (List.getElem_mem hlk)
      have hDb := Hbb.out _ (List.getElem_mem hlk)
      generalize b[k] = N at hc0 hc1 hu2 hu h6 htk q0 q1 hcu hmem hDb
      obtain ⟨D, ps⟩ := N
      dsimp only at hc0 hc1 hu2 hu h6 htk q0 q1 hcu hmem hDb
      have hps : ps.length ≤ 1000000 := by omega
      have Htk := Lib.hid htk
      have h6y : I6 (D + y) := I6.mk (by omega)
      have H6y := Lib.hid h6y
      have Hu2 := Lib.hid hu2
      have hwr : IntKind.i64.wrap (D + y) = D + y := by have := h6y.le; rw [IntKind.wrap_i64]; omega
      clear hc0 hc1 hu hu2 htk h6 h6y hol hx
      generalize (a ++ (b.take k).map fun p => (p.1 + y, p.2)) = LS at Hol hll Htk hclo
      have hlt : ∀ j, (Value.slice Al LS.length cl).ownBlock = some j → w.heap.size ≤ j ∧ j < wq.heap.size := by
        intro j hj
        obtain ⟨xs, h1, _⟩ := Hol.out
        exact ⟨Hol.out.ge j hj, (World.ownsRow.lt h1 j hj).2⟩
      have Hlt := Lib.hid hlt
      clear hlt
      go_wp2_with fail
      refine wp_region_tail [Is (.slice Al LS.length cl), Is (.slice (some ad) b.length c'), Is (.int .i64 k), Is (.pointer (some (ad.add (k * 2)))), Is (.pointer (some (ad.add (k * 2)))), Is (.int .i64 D), Is (.int .i64 y), Is (.int .i64 (D + y)), Is (.slice (some ad) b.length c'), Is (.int .i64 k), Is (.pointer (some (ad.add (k * 2)))), Is (.pointer (some ⟨(ad.add (k * 2)).block, (ad.add (k * 2)).off + 1, none⟩)), Is (.slice Au ps.length cu), Is (.agg #[.int .i64 (D + y), .slice Au ps.length cu]), OldP w.heap.size (D + y, ps)] 15 (by kernel_rfl) (by kernel_rfl) (by kernel_rfl) (of_decide_eq_true (by kernel_rfl)) (by kernel_rfl) (by kernel_rfl) (by kernel_rfl) ?_ ?_ ?_
      · intro p hp
        simp only [List.mem_cons, List.not_mem_nil, or_false] at hp
        rcases hp with rfl | rfl | rfl | rfl | rfl | rfl | rfl | rfl | rfl | rfl | rfl | rfl | rfl | rfl | rfl
        all_goals first | exact mono_is _ | exact mono_OldP _ _
      · refine Steps.cons_ (step_mk (Is (.slice Al LS.length cl)) rfl fun a W hx hE hO => ?_) ?_
        · have h8 : a.eval (.tmp 8) = .slice Al LS.length cl := hO 8 (by kernel_rfl)
          exact yes_none rfl (do_move rfl h8)
        refine Steps.cons_ (step_mk (Is (.slice (some ad) b.length c')) rfl fun a W hx hE hO => ?_) ?_
        · have h1 : a.eval (.tmp 1) = .slice (some ad) b.length c' := hO 1 (by kernel_rfl)
          exact yes_none rfl (do_move rfl h1)
        refine Steps.cons_ (step_mk (Is (.int .i64 k)) rfl fun a W hx hE hO => ?_) ?_
        · have h9 : a.eval (.tmp 9) = .int .i64 k := hO 9 (by kernel_rfl)
          exact yes_none rfl (do_move rfl h9)
        refine Steps.cons_ (step_mk (Is (.pointer (some (ad.add (k * 2))))) rfl fun a W hx hE hO => ?_) ?_
        · have h36 : a.eval (.tmp 36) = (.slice (some ad) b.length c') := hE 1 (by kernel_rfl) 36 rfl
          have h37 : a.eval (.tmp 37) = (.int .i64 k) := hE 2 (by kernel_rfl) 37 rfl
          refine yes_none rfl (do_run (by simp only [execOp, h36, h37] <;> simp [go_sem, hlk]) rfl)
        refine Steps.cons_ (step_mk (Is (.pointer (some (ad.add (k * 2))))) rfl fun a W hx hE hO => ?_) ?_
        · have h38 : a.eval (.tmp 38) = (.pointer (some (ad.add (k * 2)))) := hE 3 (by kernel_rfl) 38 rfl
          refine yes_none rfl (do_run (by simp only [execOp, h38] <;> simp [go_sem]) rfl)
        refine Steps.cons_ (step_mk (Is (.int .i64 D)) rfl fun a W hx hE hO => ?_) ?_
        · have h39 : a.eval (.tmp 39) = (.pointer (some (ad.add (k * 2)))) := hE 4 (by kernel_rfl) 39 rfl
          refine yes_none rfl ?_
          have q := Ext.keeps (Ext.trans (Ext.drew _) hx) q0; exact do_run (by simp only [execOp, h39] <;> simp [go_sem, q]) rfl
        refine Steps.cons_ (step_mk (Is (.int .i64 y)) rfl fun a W hx hE hO => ?_) ?_
        · have h2 : a.eval (.tmp 2) = .int .i64 y := hO 2 (by kernel_rfl)
          exact yes_none rfl (do_move rfl h2)
        refine Steps.cons_ (step_mk (Is (.int .i64 (D + y))) rfl fun a W hx hE hO => ?_) ?_
        · have h40 : a.eval (.tmp 40) = (.int .i64 D) := hE 5 (by kernel_rfl) 40 rfl
          have h41 : a.eval (.tmp 41) = (.int .i64 y) := hE 6 (by kernel_rfl) 41 rfl
          refine yes_none rfl ?_
          exact do_bin (v := .int .i64 (D + y)) rfl h40 h41 (by simp [go_sem, hwr]) rfl
        refine Steps.cons_ (step_mk (Is (.slice (some ad) b.length c')) rfl fun a W hx hE hO => ?_) ?_
        · have h1 : a.eval (.tmp 1) = .slice (some ad) b.length c' := hO 1 (by kernel_rfl)
          exact yes_none rfl (do_move rfl h1)
        refine Steps.cons_ (step_mk (Is (.int .i64 k)) rfl fun a W hx hE hO => ?_) ?_
        · have h9 : a.eval (.tmp 9) = .int .i64 k := hO 9 (by kernel_rfl)
          exact yes_none rfl (do_move rfl h9)
        refine Steps.cons_ (step_mk (Is (.pointer (some (ad.add (k * 2))))) rfl fun a W hx hE hO => ?_) ?_
        · have h43 : a.eval (.tmp 43) = (.slice (some ad) b.length c') := hE 8 (by kernel_rfl) 43 rfl
          have h44 : a.eval (.tmp 44) = (.int .i64 k) := hE 9 (by kernel_rfl) 44 rfl
          refine yes_none rfl (do_run (by simp only [execOp, h43, h44] <;> simp [go_sem, hlk]) rfl)
        refine Steps.cons_ (step_mk (Is (.pointer (some ⟨(ad.add (k * 2)).block, (ad.add (k * 2)).off + 1, none⟩))) rfl fun a W hx hE hO => ?_) ?_
        · have h45 : a.eval (.tmp 45) = (.pointer (some (ad.add (k * 2)))) := hE 10 (by kernel_rfl) 45 rfl
          refine yes_none rfl (do_run (by simp only [execOp, h45] <;> simp [go_sem]) rfl)
        refine Steps.cons_ (step_mk (Is (.slice Au ps.length cu)) rfl fun a W hx hE hO => ?_) ?_
        · have h46 : a.eval (.tmp 46) = (.pointer (some ⟨(ad.add (k * 2)).block, (ad.add (k * 2)).off + 1, none⟩)) := hE 11 (by kernel_rfl) 46 rfl
          refine yes_none rfl ?_
          have q := Ext.keeps (Ext.trans (Ext.drew _) hx) q1; exact do_run (by simp only [execOp, h46] <;> simp [go_sem, q]) rfl
        refine Steps.cons_ (step_mk (Is (.agg #[.int .i64 (D + y), .slice Au ps.length cu])) rfl fun a W hx hE hO => ?_) ?_
        · have h42 : a.eval (.tmp 42) = (.int .i64 (D + y)) := hE 7 (by kernel_rfl) 42 rfl
          have h47 : a.eval (.tmp 47) = (.slice Au ps.length cu) := hE 12 (by kernel_rfl) 47 rfl
          refine yes_none rfl ?_
          exact do_build rfl h42 h47 rfl
        refine Steps.cons_ (step_mk (OldP w.heap.size (D + y, ps)) rfl fun a W hx hE hO => ?_) ?_
        · have h48 : a.eval (.tmp 48) = (.agg #[.int .i64 (D + y), .slice Au ps.length cu]) := hE 13 (by kernel_rfl) 48 rfl
          refine yes_none rfl ?_
          exact do_old rfl h48 H6y.out (by have := hx.size; simp only [World.size_drew] at this; omega) (Hu2.out.keep (Sm.of_ext (Ext.trans (Ext.drew _) hx) fun k hk => by simp only [Bw] at hk; omega))
        exact Steps.nil_
      · intro a W hx hd hsz hE hO
        have h35 : a.eval (.tmp 35) = (.slice Al LS.length cl) := hE 0 (of_decide_eq_true (by kernel_rfl)) 35 rfl
        have h49 : (OldP w.heap.size (D + y, ps)) (a.eval (.tmp 49)) W := hE 14 (of_decide_eq_true (by kernel_rfl)) 49 rfl
        have hmix := act_mix [false, false, false, false, false, false, false, false, false, false, false, false, false, false, false, false, false, false, false, false, false, false, false, false, false, false, false, false, false, false, false, false, false, false, false, true, true, true, true, true, true, true, true, true, true, true, true, true, true, true, false, false, false, false, false] (by kernel_rfl) hsz hd hO
        simp only [mixA, Nat.reduceAdd, Nat.zero_add] at hmix
        rw [hmix]
        rw [h35]
        generalize a.eval (.tmp 36) = u36
        generalize a.eval (.tmp 37) = u37
        generalize a.eval (.tmp 38) = u38
        generalize a.eval (.tmp 39) = u39
        generalize a.eval (.tmp 40) = u40
        generalize a.eval (.tmp 41) = u41
        generalize a.eval (.tmp 42) = u42
        generalize a.eval (.tmp 43) = u43
        generalize a.eval (.tmp 44) = u44
        generalize a.eval (.tmp 45) = u45
        generalize a.eval (.tmp 46) = u46
        generalize a.eval (.tmp 47) = u47
        generalize a.eval (.tmp 48) = u48
        clear hmix hd hsz hE hO
        simp only [List.drop_succ_cons, List.drop_zero]
        obtain ⟨_, news, hsv, hreps⟩ := h49
        generalize a.eval (.tmp 49) = u49 at hsv
        have Hol7 := Lib.hid (Hol.out.ext hx)
        have hszW := hx.size
        have hreps7 : Reps (α := Post) W (fun k => k < w.heap.size ∧ k < W.heap.size ∧ some k ≠ (Value.slice Al LS.length cl).ownBlock) news [(D + y, ps)] := hreps.more fun k hk => ⟨hk, by omega, fun e => by have := (Hlt.out k e.symm).1; omega⟩
        have Hsv := Lib.hid hsv
        have Hreps := Lib.hid hreps7
        have Hx7 := Lib.hid (Ext.trans Hx.out hx)
        clear hsv hreps hreps7 h35 hx q0 q1 hwr
        go_wp2_with (at_builtin; go_loud (refine wpList_append_l _ rfl (.tmp 35) (.tmp 49) 22 rfl w.heap.size 43 (fun j => j < w.heap.size) (.agg #[.int .i64 0, .slice none 0 0]) 32 Try.underlying22 info_post rfl (by decide) (.slice Al LS.length cl) LS rfl Hol7.out W.heap.size u49 [(D + y, ps)] news rfl Hsv.out Hreps.out (by simp; omega) (by omega) (by omega) ?_; intro v6 w6 hown6 hg6 hat6))
        go_roundw
        case rel => exact ⟨k + 1, rfl, by omega, by rw [Htk.out]; exact hown6, Below.grown Hx7.out hg6 (by omega) (fun j hj => (Hlt.out j hj).1)⟩
        case measure => simp only [intOf]; omega
    · have hkl : ¬(k : Int) < b.length := by omega
      have hJ : (a ++ (b.take k).map fun p => (p.1 + y, p.2)) = jn a b y := by rw [List.take_of_length_le (by omega)]; rfl
      have hsl := hol.sl
      rw [hll, hJ] at hsl
      clear Hol hol hll hx hclo hJ
      generalize hJ : jn a b y = J at hsl
      have Hsl := Lib.hid hsl
      have HJ := Lib.hid hJ
      clear hsl hJ
      go_wp2_with fail
      refine (is_any wq _ J Hsl.out).mono ?_
      rintro e w5 ⟨rfl, hx5⟩
      have Hx5 := Lib.hid hx5
      clear hx5
      cases hpo : psOk J with
      | true =>
        go_wp2
        go_ret2
        exact ⟨by rw [HJ.out]; exact .inl ⟨hpo, _, rfl, Hsl.out.up Hx5.out⟩, Ext.trans Hx.out Hx5.out⟩
      | false =>
        go_wp2
        go_ret2
        exact ⟨by rw [HJ.out]; exact .inr ⟨hpo, rfl⟩, Ext.trans Hx.out Hx5.out⟩

end Go.Proofs.Ytccmhjlniljhcaa
