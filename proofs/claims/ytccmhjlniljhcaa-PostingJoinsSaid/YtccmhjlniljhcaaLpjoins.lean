/-
  The law PostingJoins: for whatever two rows and number it returns true.
  Conditions: none.
-/
import Derived.Test.YtccmhjlniljhcaaQw
import Derived.Test.YtccmhjlniljhcaaRc
import Derived.Test.YtccmhjlniljhcaaRf
namespace Go.Proofs.Ytccmhjlniljhcaa
open Go.RowKit

/-- what both Joins hand back -/
def JAll (a b : List Post) (y : Int) (w' : World) (e : Ending) : Prop := ((jOk a b y && psOk (jn a b y)) = true ∧ ∃ z, e = .returned (.tuple #[z, .int .i64 0]) ∧ SL w' (Bw w') z (jn a b y)) ∨ ((jOk a b y && psOk (jn a b y)) = false ∧ e = .returned (.tuple #[.slice none 0 0, .int .i64 80]))
theorem jOk_spec {a b : List Post} {y : Int} (h : jOk a b y = true) : psOk a = true ∧ psOk b = true ∧ 0 ≤ y ∧ y ≤ 65536 := by
  simpa [jOk, and_assoc] using h
theorem JAll.of_is {a b : List Post} {y : Int} {w' : World} {e : Ending} (h : jOk a b y = true) (k : JoinIs (jn a b y) w' e) : JAll a b y w' e := by
  rcases k with ⟨h1, h2⟩ | ⟨h1, h2⟩
  · exact .inl ⟨by rw [h, h1]; rfl, h2⟩
  · exact .inr ⟨by rw [h, h1]; rfl, h2⟩
theorem join_any (w : World) (u v : Value) (a b : List Post) (y : Int) (hu : SL w (Bw w) u a) (hv : SL w (Bw w) v b) (hla : wt a ≤ 700000) (hlb : wt b ≤ 700000) :
    Calls Try.prog 17 #[u, v, .int .i64 y] w fun e w' => JAll a b y w' e ∧ Ext w w' := by
  cases h : jOk a b y with
  | true =>
    obtain ⟨h1, h2, h3, h4⟩ := jOk_spec h
    exact (join_ok w u v a b y hu hv h1 h2 ⟨h3, h4⟩ hla hlb).mono fun e w' ⟨k, hx⟩ => ⟨JAll.of_is h k, hx⟩
  | false => exact (join_bad w u v a b y hu hv h).mono fun e w' ⟨k, hx⟩ => ⟨.inr ⟨by rw [h]; rfl, k⟩, hx⟩
theorem rjoin_any (w : World) (u v : Value) (a b : List Post) (y : Int) (hu : SL w (Bw w) u a) (hv : SL w (Bw w) v b) (hla : wt a ≤ 700000) (hlb : wt b ≤ 700000) :
    Calls Try.prog 18 #[u, v, .int .i64 y] w fun e w' => JAll a b y w' e ∧ Ext w w' := by
  cases h : jOk a b y with
  | true =>
    obtain ⟨h1, h2, h3, h4⟩ := jOk_spec h
    exact (rjoin_ok w u v a b y hu hv h1 h2 ⟨h3, h4⟩ hla hlb).mono fun e w' ⟨k, hx⟩ => ⟨JAll.of_is h k, hx⟩
  | false => exact (rjoin_bad w u v a b y hu hv h).mono fun e w' ⟨k, hx⟩ => ⟨.inr ⟨by rw [h]; rfl, k⟩, hx⟩

theorem jn_right (L M : List Post) (y : Int) {k : Nat} (h : k < M.length) : (jn L M y)[L.length + k]? = some ((M[k]).1 + y, (M[k]).2) := by
  unfold jn
  rw [List.getElem?_append_right (by omega)]
  simp [h]

set_option maxHeartbeats 4000000 in
set_option maxRecDepth 100000 in
theorem pjoins_any (w : World) (u v : Value) (l m : List Post) (y : Int) (hu : SL w (Bw w) u l) (hv : SL w (Bw w) v m) :
    Calls Try.prog 5 #[u, v, .int .i64 y] w fun e w' => e = .returned (.bool true) ∧ Ext w w' := by
  have Hu := Lib.hid hu
  have Hv := Lib.hid hv
  clear hu hv
  go_enter Try.func5, Try.ntmps5
  go_wp2_with fail
  refine (few_any w u l Hu.out).mono ?_
  rintro e w1 ⟨u1, rfl, hu1, hx⟩
  have hwt := wt_few l
  have hL : (few l).length ≤ 100 := by unfold few; rw [List.length_map, List.length_take]; omega
  generalize few l = L at hu1 hwt hL
  obtain ⟨Au, cu, rfl, _, _⟩ := hu1.form
  have Hu1 := Lib.hid hu1
  have Hv1 := Lib.hid (SL.up Hv.out hx)
  have Hx1 := Lib.hid hx
  clear hu1 hx
  go_wp2_with fail
  refine (few_any w1 v m Hv1.out).mono ?_
  rintro e w2 ⟨v2, rfl, hv2, hx⟩
  have hwm := wt_few m
  have hM : (few m).length ≤ 100 := by unfold few; rw [List.length_map, List.length_take]; omega
  generalize few m = M at hv2 hwm hM
  obtain ⟨Av, cv, rfl, _, _⟩ := hv2.form
  have Hv2 := Lib.hid hv2
  have Hu2 := Lib.hid (SL.up Hu1.out hx)
  have Hx2 := Lib.hid (Ext.trans Hx1.out hx)
  clear hv2 hx
  go_wp2_with fail
  refine (join_any w2 _ _ L M y Hu2.out Hv2.out (by omega) (by omega)).mono ?_
  rintro e w3 ⟨h3, hx⟩
  have Hv3 := Lib.hid (SL.up Hv2.out hx)
  have Hu3 := Lib.hid (SL.up Hu2.out hx)
  have Hx3 := Lib.hid (Ext.trans Hx2.out hx)
  clear hx
  rcases h3 with ⟨hj, z3, rfl, hz3⟩ | ⟨hj, rfl⟩
  · have Hz3 := Lib.hid hz3
    have Hj := Lib.hid hj
    clear hz3 hj
    go_wp2_with fail
    refine (rjoin_any w3 _ _ L M y Hu3.out Hv3.out (by omega) (by omega)).mono ?_
    rintro e w4 ⟨h4, hx⟩
    have hj4 : ∃ z, e = .returned (.tuple #[z, .int .i64 0]) ∧ SL w4 (Bw w4) z (jn L M y) := by
      rcases h4 with ⟨_, h⟩ | ⟨h, _⟩
      · exact h
      · rw [Hj.out] at h; cases h
    obtain ⟨z4, rfl, hz4⟩ := hj4
    have Hz4 := Lib.hid hz4
    have Hz3 := Lib.hid (SL.up Hz3.out hx)
    have Hv4 := Lib.hid (SL.up Hv3.out hx)
    have Hu4 := Lib.hid (SL.up Hu3.out hx)
    have Hx4 := Lib.hid (Ext.trans Hx3.out hx)
    clear hz4 hx h4
    go_wp2_with fail
    refine (rsame_any w4 _ _ (jn L M y) (jn L M y) Hz3.out Hz4.out).mono ?_
    rintro e w5 ⟨rfl, hx⟩
    rw [decide_eq_true rfl]
    have Hz5 := Lib.hid (SL.up Hz3.out hx)
    have Hv5 := Lib.hid (SL.up Hv4.out hx)
    have Hu5 := Lib.hid (SL.up Hu4.out hx)
    have Hx5 := Lib.hid (Ext.trans Hx4.out hx)
    have hjj : jOk L M y = true ∧ psOk (jn L M y) = true := by simpa using Hj.out
    have hri := ok_rise hjj.2
    obtain ⟨_, hMok, hy0, hy1⟩ := jOk_spec hjj.1
    have hJL : ∀ k (h : k < L.length), fnd (L[k]).1 (jn L M y) = some (L[k]).2 := by
      intro k h
      have hk : k < (jn L M y).length := by unfold jn; rw [List.length_append]; omega
      have e : (jn L M y)[k] = L[k] := List.getElem_append_left h
      have := fnd_at (doc := (L[k]).1) k hk hri (by rw [e])
      rw [e] at this
      exact this
    have hJM : ∀ k (h : k < M.length), fnd ((M[k]).1 + y) (jn L M y) = some (M[k]).2 := by
      intro k h
      have hk : L.length + k < (jn L M y).length := by unfold jn; rw [List.length_append, List.length_map]; omega
      have e : (jn L M y)[L.length + k] = ((M[k]).1 + y, (M[k]).2) := (List.getElem?_eq_some_iff.1 (jn_right L M y h)).2
      have := fnd_at (doc := (M[k]).1 + y) (L.length + k) hk hri (by rw [e])
      rw [e] at this
      exact this
    have hMb : ∀ k (h : k < M.length), 0 ≤ (M[k]).1 ∧ (M[k]).1 < 65536 := by
      intro k h
      have h1 := (psOk_spec hMok).1
      have h2 := (plast_bounds h1 k).2.2.2 h
      have h3 := (plast_bounds h1 k).1
      omega
    have HJL := Lib.hid hJL
    have HJM := Lib.hid hJM
    have HMb := Lib.hid hMb
    generalize jn L M y = J at Hz5 HJL HJM
    clear hx hjj hri hMok hJL hJM hMb Hz3 Hz4
    go_wp2_with fail
    go_loopw [11] (fun i wr => ∃ k : Nat, i = .int .i64 k ∧ k ≤ L.length ∧ SL wr (Bw wr) z3 J ∧ SL wr (Bw wr) (.slice Au L.length cu) L ∧ SL wr (Bw wr) (.slice Av M.length cv) M ∧ Ext w wr) (fun i _ => L.length - (intOf i).toNat)
    case atStart => exact ⟨0, rfl, Nat.zero_le _, Hz5.out, Hu5.out, Hv5.out, Hx5.out⟩
    case round =>
      rename World => wr
      obtain ⟨k, rfl, hk, hz, hu, hv, hx⟩ := hrel
      have Hz := Lib.hid hz
      have Hu := Lib.hid hu
      have Hv := Lib.hid hv
      have Hx := Lib.hid hx
      clear hx hz hv
      by_cases hlk : k < L.length
      · have hkl : (k : Int) < L.length := by omega
        obtain ⟨ad, up, rfl, _, hc0, hc1, hup, h6⟩ := hu.post_at hlk
        have hf := HJL.out k hlk
        generalize (L[k]).1 = D at hc0 hf
        generalize (L[k]).2 = PS at hc1 hf hup
        obtain ⟨Ap, cp, rfl, _, _⟩ := hup.form
        have Hf := Lib.hid hf
        have Hup := Lib.hid hup
        have Hc1 := Lib.hid hc1
        clear hu hf hup h6 hc1
        go_wp2_with fail
        refine (rfind_any wr z3 J D Hz.out).mono ?_
        rintro e w8 ⟨p8, rfl, hp8, hx⟩
        rw [Hf.out] at hp8
        rw [Hf.out]
        have hc1 := Ext.keeps hx Hc1.out
        have Hp8 := Lib.hid hp8
        have Hz8 := Lib.hid (SL.up Hz.out hx)
        have Hu8 := Lib.hid (SL.up Hu.out hx)
        have Hv8 := Lib.hid (SL.up Hv.out hx)
        have Hup8 := Lib.hid (SL.up Hup.out hx)
        have Hx8 := Lib.hid (Ext.trans Hx.out hx)
        clear hp8 hx hc0
        go_wp2_with fail
        refine (samei_any w8 p8 _ PS PS Hp8.out Hup8.out).mono ?_
        rintro e w9 ⟨rfl, hx⟩
        rw [decide_eq_true rfl]
        have Hz9 := Lib.hid (SL.up Hz8.out hx)
        have Hu9 := Lib.hid (SL.up Hu8.out hx)
        have Hv9 := Lib.hid (SL.up Hv8.out hx)
        have Hx9 := Lib.hid (Ext.trans Hx8.out hx)
        clear hx
        go_wp2_with fail
        go_roundw
        case rel => exact ⟨k + 1, rfl, by omega, Hz9.out, Hu9.out, Hv9.out, Hx9.out⟩
        case measure => simp only [intOf]; omega
      · have hkl : ¬(k : Int) < L.length := by omega
        clear hu
        go_wp2_with fail
        go_loopw [14] (fun i wr => ∃ k : Nat, i = .int .i64 k ∧ k ≤ M.length ∧ SL wr (Bw wr) z3 J ∧ SL wr (Bw wr) (.slice Av M.length cv) M ∧ Ext w wr) (fun i _ => M.length - (intOf i).toNat)
        case atStart => exact ⟨0, rfl, Nat.zero_le _, Hz.out, Hv.out, Hx.out⟩
        case round =>
          rename World => wq
          obtain ⟨k, rfl, hk, hz, hv, hx⟩ := hrel
          have Hz := Lib.hid hz
          have Hv := Lib.hid hv
          have Hx := Lib.hid hx
          clear hx hz
          by_cases hlk : k < M.length
          · have hkl : (k : Int) < M.length := by omega
            obtain ⟨ad, up, rfl, _, hc0, hc1, hup, h6⟩ := hv.post_at hlk
            have hf := HJM.out k hlk
            have hb := HMb.out k hlk
            generalize (M[k]).1 = D at hc0 hf hb
            generalize (M[k]).2 = PS at hc1 hf hup
            obtain ⟨Ap, cp, rfl, _, _⟩ := hup.form
            have Hf := Lib.hid hf
            have Hup := Lib.hid hup
            have Hc1 := Lib.hid hc1
            clear hv hf hup h6 hc1
            go_wp2_with fail
            refine (rfind_any wq z3 J (D + y) Hz.out).mono ?_
            rintro e w8 ⟨p8, rfl, hp8, hx⟩
            rw [Hf.out] at hp8
            rw [Hf.out]
            have hc1 := Ext.keeps hx Hc1.out
            have Hp8 := Lib.hid hp8
            have Hz8 := Lib.hid (SL.up Hz.out hx)
            have Hv8 := Lib.hid (SL.up Hv.out hx)
            have Hup8 := Lib.hid (SL.up Hup.out hx)
            have Hx8 := Lib.hid (Ext.trans Hx.out hx)
            clear hp8 hx hc0
            go_wp2_with fail
            refine (samei_any w8 p8 _ PS PS Hp8.out Hup8.out).mono ?_
            rintro e w9 ⟨rfl, hx⟩
            rw [decide_eq_true rfl]
            have Hz9 := Lib.hid (SL.up Hz8.out hx)
            have Hv9 := Lib.hid (SL.up Hv8.out hx)
            have Hx9 := Lib.hid (Ext.trans Hx8.out hx)
            clear hx
            go_wp2_with fail
            go_roundw
            case rel => exact ⟨k + 1, rfl, by omega, Hz9.out, Hv9.out, Hx9.out⟩
            case measure => simp only [intOf]; omega
          · have hkl : ¬(k : Int) < M.length := by omega
            clear hv
            go_wp2_with fail
            refine (awake_any wq).mono ?_
            rintro e w10 ⟨rfl, hx⟩
            have Hx10 := Lib.hid (Ext.trans Hx.out hx)
            clear hx
            go_wp2
            go_ret
            exact ⟨rfl, Hx10.out⟩
  · have Hj := Lib.hid hj
    clear hj
    go_wp2_with fail
    refine (rjoin_any w3 _ _ L M y Hu3.out Hv3.out (by omega) (by omega)).mono ?_
    rintro e w4 ⟨h4, hx⟩
    have hj4 : e = .returned (.tuple #[.slice none 0 0, .int .i64 80]) := by
      rcases h4 with ⟨h, _⟩ | ⟨_, h⟩
      · rw [Hj.out] at h; cases h
      · exact h
    obtain rfl := hj4
    have Hx4 := Lib.hid (Ext.trans Hx3.out hx)
    clear hx h4
    go_wp2_with fail
    refine (rsame_any w4 _ _ [] [] (SL.nil_ _ _) (SL.nil_ _ _)).mono ?_
    rintro e w5 ⟨rfl, hx⟩
    rw [decide_eq_true rfl]
    have Hx5 := Lib.hid (Ext.trans Hx4.out hx)
    clear hx
    go_wp2_with fail
    refine (awake_any w5).mono ?_
    rintro e w6 ⟨rfl, hx⟩
    have Hx6 := Lib.hid (Ext.trans Hx5.out hx)
    clear hx
    go_wp2
    go_ret
    exact ⟨rfl, Hx6.out⟩

theorem pjoins_row (w : World) (u v : Value) (l m : List Post) (y : Int) (hu : SL w (Bw w) u l) (hv : SL w (Bw w) v m) :
    Calls Try.prog 5 #[u, v, .int .i64 y] w fun e w' => e = .returned (.bool true) ∧ Ext w w' := pjoins_any w u v l m y hu hv

end Go.Proofs.Ytccmhjlniljhcaa
