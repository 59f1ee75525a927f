/-
  FrameBack: the law's contract: it answers true and leaves all old memory alone.
  Conditions: none.
-/
import Derived.Test.YtgipbkfpfidpmaaLsplits
import Derived.Test.YtgipbkfpfidpmaaFt
import Derived.Test.YtgipbkfpfidpmaaStep
namespace Go.Proofs.Ytgipbkfpfidpmaa
open Go.RowKit

theorem fr_pos' (p : List UInt8) : 1 ≤ (fr p).length := by have := fr_pos p; omega
theorem frs_ge : ∀ l : List (List UInt8), l.length ≤ (frs l).length
  | [] => by simp [frs]
  | p :: l => by
    have h1 := fr_pos p
    have h2 := frs_ge l
    have e : frs (p :: l) = fr p ++ frs l := by simp [frs]
    rw [e, List.length_append, List.length_cons]
    omega
theorem sp_frs (l : List (List UInt8)) (h : ∀ p ∈ l, p.length ≤ 16777216) : sp (frs l) = (l, 0, 0) := by
  have hg := frs_ge l
  obtain ⟨n, hn⟩ : ∃ n, (frs l).length = n + l.length := ⟨(frs l).length - l.length, by omega⟩
  have := spl_frs l n [] h (by rw [List.append_nil]; omega)
  rw [List.append_nil] at this
  unfold sp
  rw [hn, this, spl_none rfl]
  simp

/-- a slot holds a row of rows of bytes -/
def BBSP (l : List (List UInt8)) : Value → World → Prop := fun v w => BBS w w.heap.size v l
theorem mono_BBSP (l : List (List UInt8)) : Mono (BBSP l) := fun _ _ _ h hx => h.up hx
/-- 'b[:k]' -/
theorem do_slice_to {P : Program} {o : Oper} {a : Act} {w : World} {p : Value → World → Prop} {t e : TypeId} {x y : Operand} {A : Option Addr} {n c k : Nat} {i : TypeInfo} (ho : o.op = .slice t x none (some y) none) (ht : P.underlying t = some (.slice e)) (hi : P.info? e = some i)
    (hx : a.eval x = .slice A n c) (hy : a.eval y = .int .i64 (k : Int)) (hk : k ≤ c) (hp : p (.slice A k c) w) : Res P o a w p :=
  do_run (v := .slice A k c) (by
    simp only [execOp, ho, hx, hy, Option.map_none, Option.map_some]
    simp [go_sem, Instr.sliceAt, Instr.slice, Instr.sliceBounds, hk, run_underlying ht, sizeOf, typeInfo, hi, Result.andThen]) hp

set_option maxHeartbeats 8000000 in
set_option maxRecDepth 100000 in
theorem fback_any (w : World) (va vl : Value) (as0 : List UInt8) (l0 : List (List UInt8)) (ha : BS w w.heap.size va as0) (hl : BBS w w.heap.size vl l0) :
    Calls Try.prog 7 #[vl, va] w fun e w' => e = .returned (.bool true) ∧ Ext w w' := by
  have Ha := Lib.hid ha
  have Hl := Lib.hid hl
  clear hl ha
  go_enter Try.func7, Try.ntmps7
  go_wp2_with fail
  refine (few_any w _ l0 Hl.out).mono ?_
  rintro e w1 ⟨v1, rfl, hf, hx1⟩
  obtain ⟨hf1, hf2⟩ := fewl_le l0
  generalize fewl l0 = l at hf hf1 hf2
  have Hf := Lib.hid hf
  have Hf1 := Lib.hid hf1
  clear hf hf1
  go_wp2_with fail
  refine (cut_any w1 _ va as0 ((Ha.out.ext (Nat.le_refl _) hx1).more hx1.size)).mono ?_
  rintro e w' ⟨vb, rfl, ha, rfl⟩
  have la : (as0.take 400).length ≤ 400 := by rw [List.length_take]; omega
  generalize as0.take 400 = xs at ha la
  have Hb := Lib.hid ha
  clear ha
  go_wp2_with fail
  refine (join_any w1 _ l Hf.out Hf1.out hf2).mono ?_
  rintro e w2 ⟨vx, rfl, hX, hx2⟩
  have hF := frs_len l Hf1.out
  go_wp2_with fail
  refine (split_any w2 _ (frs l) hX (by omega)).mono ?_
  rintro e w3 ⟨vk, rfl, hk, hx3⟩
  rw [sp_frs l (fun p hp => by have := Hf1.out p hp; omega)] at hk ⊢
  have HX := Lib.hid (hX.up hx3)
  have Hk := Lib.hid hk
  clear hX hk
  have h13 := hx2.trans hx3
  go_wp2_with fail
  refine (split_any w3 _ xs (Hb.out.up h13) (by omega)).mono ?_
  rintro e w4 ⟨vm, rfl, hm, hx4⟩
  have h14 := h13.trans hx4
  obtain ⟨i1, i2, i3, i4⟩ := frs_spl xs.length xs (Nat.le_refl _)
  obtain ⟨K, hK, hK1⟩ : ∃ K : Nat, (xs.length : Int) - ((sp xs).2.1 : Nat) = (K : Int) ∧ K = xs.length - (sp xs).2.1 := ⟨_, by unfold sp; omega, rfl⟩
  have hKl : K ≤ xs.length := by omega
  rw [hK]
  have hfr : frs (sp xs).1 = xs.take K := by rw [hK1]; exact i2
  have hml : ∀ p ∈ (sp xs).1, p.length ≤ 1000 := fun p hp => by have := i3 p hp; omega
  have hmn : (sp xs).1.length ≤ 500 := by have : (sp xs).1.length ≤ xs.length := i4; omega
  clear i1 i2 i3 i4 hK hK1
  generalize sp xs = S at hm hfr hml hmn
  obtain ⟨S1, S2, S3⟩ := S
  have Hm := Lib.hid hm
  have Hml := Lib.hid hml
  have Hfr := Lib.hid hfr
  clear hm hml hfr
  go_wp2_with fail
  refine (join_any w4 _ S1 Hm.out Hml.out hmn).mono ?_
  rintro e w5 ⟨vy, rfl, hy, hx5⟩
  rw [Hfr.out] at hy
  have h15 := h14.trans hx5
  have h35 := hx4.trans hx5
  have H15 := Lib.hid (hx1.trans h15)
  have fl : BBSP l v1 w5 := Hf.out.up h15
  have fk : BBSP l vk w5 := Hk.out.up h35
  have fx : BytesP (frs l) vx w5 := HX.out.up h35
  have fb : BytesP xs vb w5 := Hb.out.up h15
  have fy : BytesP (xs.take K) vy w5 := hy
  have Hy := Lib.hid hy
  clear hy hx1 hx2 hx3 hx4 hx5 h13 h14 h15 h35
  generalize frs l = F at fx hF HX
  generalize hT : xs.take K = T at fy Hy
  have HT := Lib.hid hT
  have fl' := Lib.hid fl
  have fk' := Lib.hid fk
  have fx' := Lib.hid fx
  have fb' := Lib.hid fb
  have fy' := Lib.hid fy
  clear fl fk fx fb fy hT
  go_wp2_with fail
  refine wp_region_list [Is (.int .i64 0), Is (.bool true), Is (.bool true), Is (.int .i64 0), Is (.bool true), Is (.bool true), Is (.bool true), Is (.int .i64 F.length), BytesP F, Is (.int .i64 (F).length), Is (.bool true), Is (.bool true), Is (.bool true), BBSP l, BBSP l, Is (.bool true), Is (.bool true), Is (.bool true), Is (.int .i64 0), Is (.bool true), Is (.bool true), Is (.bool true), Is (.int .i64 K), Is (.bool true), Is (.bool true), Is (.bool true), Is (.int .i64 K), BytesP xs, Is (.int .i64 (xs).length), Is (.bool true), Is (.bool true), Is (.bool true), BytesP T, Is (.string ⟨(T).toArray⟩), BytesP xs, Is (.int .i64 K), BytesP T, Is (.string ⟨(T).toArray⟩), Is (.bool true), Is (.bool true), Is (.bool true), Is (.bool true), Is (.bool true), Is (.bool true)] (by kernel_rfl) (by kernel_rfl) (by kernel_rfl) ?_ (Steps.all ?_) ?_
  · intro p hp
    simp only [List.mem_cons, List.not_mem_nil, or_false] at hp
    rcases hp with rfl | rfl | rfl | rfl | rfl | rfl | rfl | rfl | rfl | rfl | rfl | rfl | rfl | rfl | rfl | rfl | rfl | rfl | rfl | rfl | rfl | rfl | rfl | rfl | rfl | rfl | rfl | rfl | rfl | rfl | rfl | rfl | rfl | rfl | rfl | rfl | rfl | rfl | rfl | rfl | rfl | rfl | rfl | rfl
    all_goals first | exact mono_is _ | exact mono_bytes _ | exact mono_BBSP _
  · refine Steps.cons_ (step_mk (Is (.int .i64 0)) rfl fun a W hx hE hO => ?_) ?_
    · have h6 : a.eval (.tmp 6) = .int .i64 0 := hO 6 (by kernel_rfl)
      exact yes_none rfl (do_move rfl h6)
    refine Steps.cons_ (step_mk (Is (.bool true)) rfl fun a W hx hE hO => ?_) ?_
    · have h41 : a.eval (.tmp 41) = (.int .i64 0) := hE 0 (by kernel_rfl) 41 rfl
      exact yes_none rfl (do_bin (v := (.bool true)) rfl h41 rfl (by simp [go_sem]) rfl)
    refine Steps.cons_ (step_mk (Is (.bool true)) rfl fun a W hx hE hO => ?_) ?_
    · have h42 : a.eval (.tmp 42) = (.bool true) := hE 1 (by kernel_rfl) 42 rfl
      exact yes_none rfl (do_move rfl h42)
    refine Steps.cons_ (step_mk (Is (.int .i64 0)) rfl fun a W hx hE hO => ?_) ?_
    · have h43 : a.eval (.tmp 43) = (.bool true) := hE 2 (by kernel_rfl) 43 rfl
      have h9 : a.eval (.tmp 9) = .int .i64 0 := hO 9 (by kernel_rfl)
      exact yes_is (j := 2) (d := 43) (b := true) rfl rfl h43 (do_move rfl h9)
    refine Steps.cons_ (step_mk (Is (.bool true)) rfl fun a W hx hE hO => ?_) ?_
    · have h43 : a.eval (.tmp 43) = (.bool true) := hE 2 (by kernel_rfl) 43 rfl
      have h44 : a.eval (.tmp 44) = (.int .i64 0) := hE 3 (by kernel_rfl) 44 rfl
      exact yes_is (j := 2) (d := 43) (b := true) rfl rfl h43 (do_bin (v := (.bool true)) rfl h44 rfl (by simp [go_sem]) rfl)
    refine Steps.cons_ (step_mk (Is (.bool true)) rfl fun a W hx hE hO => ?_) ?_
    · have h43 : a.eval (.tmp 43) = (.bool true) := hE 2 (by kernel_rfl) 43 rfl
      have h45 : a.eval (.tmp 45) = (.bool true) := hE 4 (by kernel_rfl) 45 rfl
      exact yes_none rfl (do_pick rfl h43 h45)
    refine Steps.cons_ (step_mk (Is (.bool true)) rfl fun a W hx hE hO => ?_) ?_
    · have h46 : a.eval (.tmp 46) = (.bool true) := hE 5 (by kernel_rfl) 46 rfl
      exact yes_none rfl (do_move rfl h46)
    refine Steps.cons_ (step_mk (Is (.int .i64 F.length)) rfl fun a W hx hE hO => ?_) ?_
    · have h47 : a.eval (.tmp 47) = (.bool true) := hE 6 (by kernel_rfl) 47 rfl
      have h8 : a.eval (.tmp 8) = .int .i64 F.length := hO 8 (by kernel_rfl)
      exact yes_is (j := 6) (d := 47) (b := true) rfl rfl h47 (do_move rfl h8)
    refine Steps.cons_ (step_mk (BytesP F) rfl fun a W hx hE hO => ?_) ?_
    · have h47 : a.eval (.tmp 47) = (.bool true) := hE 6 (by kernel_rfl) 47 rfl
      have h5 : (BytesP F) (a.eval (.tmp 5)) W := old_is (v := vx) (hO 5 (by kernel_rfl)) (mono_at (mono_bytes _) fx'.out ((Ext.drew _).trans hx))
      exact yes_is (j := 6) (d := 47) (b := true) rfl rfl h47 (do_move rfl h5)
    refine Steps.cons_ (step_mk (Is (.int .i64 (F).length)) rfl fun a W hx hE hO => ?_) ?_
    · have h47 : a.eval (.tmp 47) = (.bool true) := hE 6 (by kernel_rfl) 47 rfl
      have h49 : (BytesP F) (a.eval (.tmp 49)) W := hE 8 (by kernel_rfl) 49 rfl
      refine yes_is (j := 6) (d := 47) (b := true) rfl rfl h47 ?_
      obtain ⟨A, c, hA⟩ := h49.form; exact do_len rfl Try.underlying22 hA rfl
    refine Steps.cons_ (step_mk (Is (.bool true)) rfl fun a W hx hE hO => ?_) ?_
    · have h47 : a.eval (.tmp 47) = (.bool true) := hE 6 (by kernel_rfl) 47 rfl
      have h48 : a.eval (.tmp 48) = (.int .i64 F.length) := hE 7 (by kernel_rfl) 48 rfl
      have h50 : a.eval (.tmp 50) = (.int .i64 (F).length) := hE 9 (by kernel_rfl) 50 rfl
      exact yes_is (j := 6) (d := 47) (b := true) rfl rfl h47 (do_bin (v := (.bool true)) rfl h48 h50 (by simp [go_sem]) rfl)
    refine Steps.cons_ (step_mk (Is (.bool true)) rfl fun a W hx hE hO => ?_) ?_
    · have h47 : a.eval (.tmp 47) = (.bool true) := hE 6 (by kernel_rfl) 47 rfl
      have h51 : a.eval (.tmp 51) = (.bool true) := hE 10 (by kernel_rfl) 51 rfl
      exact yes_none rfl (do_pick rfl h47 h51)
    refine Steps.cons_ (step_mk (Is (.bool true)) rfl fun a W hx hE hO => ?_) ?_
    · have h52 : a.eval (.tmp 52) = (.bool true) := hE 11 (by kernel_rfl) 52 rfl
      exact yes_none rfl (do_move rfl h52)
    refine Steps.cons_ (step_mk (BBSP l) rfl fun a W hx hE hO => ?_) ?_
    · have h53 : a.eval (.tmp 53) = (.bool true) := hE 12 (by kernel_rfl) 53 rfl
      have h7 : (BBSP l) (a.eval (.tmp 7)) W := old_is (v := vk) (hO 7 (by kernel_rfl)) (mono_at (mono_BBSP _) fk'.out ((Ext.drew _).trans hx))
      exact yes_is (j := 12) (d := 53) (b := true) rfl rfl h53 (do_move rfl h7)
    refine Steps.cons_ (step_mk (BBSP l) rfl fun a W hx hE hO => ?_) ?_
    · have h53 : a.eval (.tmp 53) = (.bool true) := hE 12 (by kernel_rfl) 53 rfl
      have h0 : (BBSP l) (a.eval (.tmp 0)) W := old_is (v := v1) (hO 0 (by kernel_rfl)) (mono_at (mono_BBSP _) fl'.out ((Ext.drew _).trans hx))
      exact yes_is (j := 12) (d := 53) (b := true) rfl rfl h53 (do_move rfl h0)
    refine Steps.cons_ (step_mk (Is (.bool true)) rfl fun a W hx hE hO => ?_) ?_
    · have h53 : a.eval (.tmp 53) = (.bool true) := hE 12 (by kernel_rfl) 53 rfl
      have h54 : (BBSP l) (a.eval (.tmp 54)) W := hE 13 (by kernel_rfl) 54 rfl
      have h55 : (BBSP l) (a.eval (.tmp 55)) W := hE 14 (by kernel_rfl) 55 rfl
      refine yes_is (j := 12) (d := 53) (b := true) rfl rfl h53 (do_call rfl Try.func22 (by kernel_rfl) (by kernel_rfl) (args := #[a.eval (.tmp 54), a.eval (.tmp 55)]) (by simp only [List.map_toArray, List.map_cons, List.map_nil]) ?_)
      exact (rsame_any W _ _ l l h54 h55).mono fun e w' ⟨he, hx⟩ => ⟨_, he, hx, congrArg Value.bool (decide_eq_true rfl)⟩
    refine Steps.cons_ (step_mk (Is (.bool true)) rfl fun a W hx hE hO => ?_) ?_
    · have h53 : a.eval (.tmp 53) = (.bool true) := hE 12 (by kernel_rfl) 53 rfl
      have h56 : a.eval (.tmp 56) = (.bool true) := hE 15 (by kernel_rfl) 56 rfl
      exact yes_none rfl (do_pick rfl h53 h56)
    refine Steps.cons_ (step_mk (Is (.bool true)) rfl fun a W hx hE hO => ?_) ?_
    · have h57 : a.eval (.tmp 57) = (.bool true) := hE 16 (by kernel_rfl) 57 rfl
      exact yes_none rfl (do_move rfl h57)
    refine Steps.cons_ (step_mk (Is (.int .i64 0)) rfl fun a W hx hE hO => ?_) ?_
    · have h58 : a.eval (.tmp 58) = (.bool true) := hE 17 (by kernel_rfl) 58 rfl
      have h14 : a.eval (.tmp 14) = .int .i64 0 := hO 14 (by kernel_rfl)
      exact yes_is (j := 17) (d := 58) (b := true) rfl rfl h58 (do_move rfl h14)
    refine Steps.cons_ (step_mk (Is (.bool true)) rfl fun a W hx hE hO => ?_) ?_
    · have h58 : a.eval (.tmp 58) = (.bool true) := hE 17 (by kernel_rfl) 58 rfl
      have h59 : a.eval (.tmp 59) = (.int .i64 0) := hE 18 (by kernel_rfl) 59 rfl
      exact yes_is (j := 17) (d := 58) (b := true) rfl rfl h58 (do_bin (v := (.bool true)) rfl h59 rfl (by simp [go_sem]) rfl)
    refine Steps.cons_ (step_mk (Is (.bool true)) rfl fun a W hx hE hO => ?_) ?_
    · have h58 : a.eval (.tmp 58) = (.bool true) := hE 17 (by kernel_rfl) 58 rfl
      have h60 : a.eval (.tmp 60) = (.bool true) := hE 19 (by kernel_rfl) 60 rfl
      exact yes_none rfl (do_pick rfl h58 h60)
    refine Steps.cons_ (step_mk (Is (.bool true)) rfl fun a W hx hE hO => ?_) ?_
    · have h61 : a.eval (.tmp 61) = (.bool true) := hE 20 (by kernel_rfl) 61 rfl
      exact yes_none rfl (do_move rfl h61)
    refine Steps.cons_ (step_mk (Is (.int .i64 K)) rfl fun a W hx hE hO => ?_) ?_
    · have h62 : a.eval (.tmp 62) = (.bool true) := hE 21 (by kernel_rfl) 62 rfl
      have h11 : a.eval (.tmp 11) = .int .i64 K := hO 11 (by kernel_rfl)
      exact yes_is (j := 21) (d := 62) (b := true) rfl rfl h62 (do_move rfl h11)
    refine Steps.cons_ (step_mk (Is (.bool true)) rfl fun a W hx hE hO => ?_) ?_
    · have h62 : a.eval (.tmp 62) = (.bool true) := hE 21 (by kernel_rfl) 62 rfl
      have h63 : a.eval (.tmp 63) = (.int .i64 K) := hE 22 (by kernel_rfl) 63 rfl
      exact yes_is (j := 21) (d := 62) (b := true) rfl rfl h62 (do_bin (v := (.bool true)) rfl h63 rfl (by simp [go_sem]) rfl)
    refine Steps.cons_ (step_mk (Is (.bool true)) rfl fun a W hx hE hO => ?_) ?_
    · have h62 : a.eval (.tmp 62) = (.bool true) := hE 21 (by kernel_rfl) 62 rfl
      have h64 : a.eval (.tmp 64) = (.bool true) := hE 23 (by kernel_rfl) 64 rfl
      exact yes_none rfl (do_pick rfl h62 h64)
    refine Steps.cons_ (step_mk (Is (.bool true)) rfl fun a W hx hE hO => ?_) ?_
    · have h65 : a.eval (.tmp 65) = (.bool true) := hE 24 (by kernel_rfl) 65 rfl
      exact yes_none rfl (do_move rfl h65)
    refine Steps.cons_ (step_mk (Is (.int .i64 K)) rfl fun a W hx hE hO => ?_) ?_
    · have h66 : a.eval (.tmp 66) = (.bool true) := hE 25 (by kernel_rfl) 66 rfl
      have h11 : a.eval (.tmp 11) = .int .i64 K := hO 11 (by kernel_rfl)
      exact yes_is (j := 25) (d := 66) (b := true) rfl rfl h66 (do_move rfl h11)
    refine Steps.cons_ (step_mk (BytesP xs) rfl fun a W hx hE hO => ?_) ?_
    · have h66 : a.eval (.tmp 66) = (.bool true) := hE 25 (by kernel_rfl) 66 rfl
      have h1 : (BytesP xs) (a.eval (.tmp 1)) W := old_is (v := vb) (hO 1 (by kernel_rfl)) (mono_at (mono_bytes _) fb'.out ((Ext.drew _).trans hx))
      exact yes_is (j := 25) (d := 66) (b := true) rfl rfl h66 (do_move rfl h1)
    refine Steps.cons_ (step_mk (Is (.int .i64 (xs).length)) rfl fun a W hx hE hO => ?_) ?_
    · have h66 : a.eval (.tmp 66) = (.bool true) := hE 25 (by kernel_rfl) 66 rfl
      have h68 : (BytesP xs) (a.eval (.tmp 68)) W := hE 27 (by kernel_rfl) 68 rfl
      refine yes_is (j := 25) (d := 66) (b := true) rfl rfl h66 ?_
      obtain ⟨A, c, hA⟩ := h68.form; exact do_len rfl Try.underlying22 hA rfl
    refine Steps.cons_ (step_mk (Is (.bool true)) rfl fun a W hx hE hO => ?_) ?_
    · have h66 : a.eval (.tmp 66) = (.bool true) := hE 25 (by kernel_rfl) 66 rfl
      have h67 : a.eval (.tmp 67) = (.int .i64 K) := hE 26 (by kernel_rfl) 67 rfl
      have h69 : a.eval (.tmp 69) = (.int .i64 (xs).length) := hE 28 (by kernel_rfl) 69 rfl
      refine yes_is (j := 25) (d := 66) (b := true) rfl rfl h66 ?_
      exact do_bin (v := .bool true) rfl h67 h69 (by simp [go_sem, hKl]) rfl
    refine Steps.cons_ (step_mk (Is (.bool true)) rfl fun a W hx hE hO => ?_) ?_
    · have h66 : a.eval (.tmp 66) = (.bool true) := hE 25 (by kernel_rfl) 66 rfl
      have h70 : a.eval (.tmp 70) = (.bool true) := hE 29 (by kernel_rfl) 70 rfl
      exact yes_none rfl (do_pick rfl h66 h70)
    refine Steps.cons_ (step_mk (Is (.bool true)) rfl fun a W hx hE hO => ?_) ?_
    · have h71 : a.eval (.tmp 71) = (.bool true) := hE 30 (by kernel_rfl) 71 rfl
      exact yes_none rfl (do_move rfl h71)
    refine Steps.cons_ (step_mk (BytesP T) rfl fun a W hx hE hO => ?_) ?_
    · have h72 : a.eval (.tmp 72) = (.bool true) := hE 31 (by kernel_rfl) 72 rfl
      have h13 : (BytesP T) (a.eval (.tmp 13)) W := old_is (v := vy) (hO 13 (by kernel_rfl)) (mono_at (mono_bytes _) fy'.out ((Ext.drew _).trans hx))
      exact yes_is (j := 31) (d := 72) (b := true) rfl rfl h72 (do_move rfl h13)
    refine Steps.cons_ (step_mk (Is (.string ⟨(T).toArray⟩)) rfl fun a W hx hE hO => ?_) ?_
    · have h72 : a.eval (.tmp 72) = (.bool true) := hE 31 (by kernel_rfl) 72 rfl
      have h73 : (BytesP T) (a.eval (.tmp 73)) W := hE 32 (by kernel_rfl) 73 rfl
      refine yes_is (j := 31) (d := 72) (b := true) rfl rfl h72 ?_
      exact do_string rfl Try.underlying22 Try.underlying5 Try.underlying9 h73 rfl
    refine Steps.cons_ (step_mk (BytesP xs) rfl fun a W hx hE hO => ?_) ?_
    · have h72 : a.eval (.tmp 72) = (.bool true) := hE 31 (by kernel_rfl) 72 rfl
      have h1 : (BytesP xs) (a.eval (.tmp 1)) W := old_is (v := vb) (hO 1 (by kernel_rfl)) (mono_at (mono_bytes _) fb'.out ((Ext.drew _).trans hx))
      exact yes_is (j := 31) (d := 72) (b := true) rfl rfl h72 (do_move rfl h1)
    refine Steps.cons_ (step_mk (Is (.int .i64 K)) rfl fun a W hx hE hO => ?_) ?_
    · have h72 : a.eval (.tmp 72) = (.bool true) := hE 31 (by kernel_rfl) 72 rfl
      have h11 : a.eval (.tmp 11) = .int .i64 K := hO 11 (by kernel_rfl)
      exact yes_is (j := 31) (d := 72) (b := true) rfl rfl h72 (do_move rfl h11)
    refine Steps.cons_ (step_mk (BytesP T) rfl fun a W hx hE hO => ?_) ?_
    · have h72 : a.eval (.tmp 72) = (.bool true) := hE 31 (by kernel_rfl) 72 rfl
      have h75 : (BytesP xs) (a.eval (.tmp 75)) W := hE 34 (by kernel_rfl) 75 rfl
      have h76 : a.eval (.tmp 76) = (.int .i64 K) := hE 35 (by kernel_rfl) 76 rfl
      refine yes_is (j := 31) (d := 72) (b := true) rfl rfl h72 ?_
      obtain ⟨A, c, hA, hc, _, hn, hr⟩ := h75; obtain ⟨i0, hi0, _⟩ := info_parts info_u8; exact do_slice_to rfl Try.underlying22 hi0 hA h76 (Nat.le_trans hKl hc) (by rw [← HT.out]; exact (BS.take_ ⟨A, c, rfl, hc, by assumption, hn, hr⟩ hKl))
    refine Steps.cons_ (step_mk (Is (.string ⟨(T).toArray⟩)) rfl fun a W hx hE hO => ?_) ?_
    · have h72 : a.eval (.tmp 72) = (.bool true) := hE 31 (by kernel_rfl) 72 rfl
      have h77 : (BytesP T) (a.eval (.tmp 77)) W := hE 36 (by kernel_rfl) 77 rfl
      refine yes_is (j := 31) (d := 72) (b := true) rfl rfl h72 ?_
      exact do_string rfl Try.underlying22 Try.underlying5 Try.underlying9 h77 rfl
    refine Steps.cons_ (step_mk (Is (.bool true)) rfl fun a W hx hE hO => ?_) ?_
    · have h72 : a.eval (.tmp 72) = (.bool true) := hE 31 (by kernel_rfl) 72 rfl
      have h74 : a.eval (.tmp 74) = (.string ⟨(T).toArray⟩) := hE 33 (by kernel_rfl) 74 rfl
      have h78 : a.eval (.tmp 78) = (.string ⟨(T).toArray⟩) := hE 37 (by kernel_rfl) 78 rfl
      exact yes_is (j := 31) (d := 72) (b := true) rfl rfl h72 (do_bin (v := (.bool true)) rfl h74 h78 (by simp [go_sem]) rfl)
    refine Steps.cons_ (step_mk (Is (.bool true)) rfl fun a W hx hE hO => ?_) ?_
    · have h72 : a.eval (.tmp 72) = (.bool true) := hE 31 (by kernel_rfl) 72 rfl
      have h79 : a.eval (.tmp 79) = (.bool true) := hE 38 (by kernel_rfl) 79 rfl
      exact yes_none rfl (do_pick rfl h72 h79)
    refine Steps.cons_ (step_mk (Is (.bool true)) rfl fun a W hx hE hO => ?_) ?_
    · have h80 : a.eval (.tmp 80) = (.bool true) := hE 39 (by kernel_rfl) 80 rfl
      exact yes_none rfl (do_move rfl h80)
    refine Steps.cons_ (step_mk (Is (.bool true)) rfl fun a W hx hE hO => ?_) ?_
    · have h81 : a.eval (.tmp 81) = (.bool true) := hE 40 (by kernel_rfl) 81 rfl
      refine yes_is (j := 40) (d := 81) (b := true) rfl rfl h81 (do_call rfl Try.func16 (by kernel_rfl) (by kernel_rfl) (args := #[]) (by simp) ?_)
      exact (awake_any W).mono fun e w' ⟨he, hx⟩ => ⟨_, he, hx, rfl⟩
    refine Steps.cons_ (step_mk (Is (.bool true)) rfl fun a W hx hE hO => ?_) ?_
    · have h81 : a.eval (.tmp 81) = (.bool true) := hE 40 (by kernel_rfl) 81 rfl
      have h82 : a.eval (.tmp 82) = (.bool true) := hE 41 (by kernel_rfl) 82 rfl
      exact yes_none rfl (do_pick rfl h81 h82)
    refine Steps.cons_ (step_mk (Is (.bool true)) rfl fun a W hx hE hO => ?_) ?_
    · have h83 : a.eval (.tmp 83) = (.bool true) := hE 42 (by kernel_rfl) 83 rfl
      exact yes_none rfl (do_assign rfl h83)
    exact Steps.nil_
  · intro a W hx hd hE hO
    have h4 : a.eval (.tmp 4) = (.bool true) := hE 43 (of_decide_eq_true (by kernel_rfl)) 4 rfl
    go_wp2
    exact bodyPost_ret (results_tmp rfl _ _ _) hd ⟨congrArg Ending.returned h4, H15.out.trans hx⟩

end Go.Proofs.Ytgipbkfpfidpmaa
