/-
  Contracts of varint.PutText, varint.GetText, their references, and of the law's 'join'.
  Conditions: rows of bytes of at most 1,000,000.
-/
import Derived.Test.YtbnjhpknagkiaaaVfa
import Derived.Lib.MinMax
namespace Go.Proofs.Ytbnjhpknagkiaaa
open Go.RowKit

/-- a text's letters -/
def sl (s : ByteArray) : List UInt8 := s.data.toList
theorem sl_len (s : ByteArray) : (sl s).length = s.size := by unfold sl; rw [Array.length_toList]; rfl
theorem sl_str (s : ByteArray) : (⟨(sl s).toArray⟩ : ByteArray) = s := by
  apply ByteArray.ext
  simp [sl]
theorem sl_mk (l : List UInt8) : sl ⟨l.toArray⟩ = l := by simp [sl]

section
variable (w : World) {ops : Array Oper} {rest : List Oper} {o : Oper} {a : Act} {Q : Exit → Act → World → Prop}
/-- a text's letters behind bytes -/
theorem wpList_append_text (hgd : o.guard = none) (s x : Operand)
    (ho : o.op = .call { callee := .builtin .append, args := #[s, x], argTypes := #[25, 9] })
    (base : Nat) (v : Value) (xs : List UInt8) (hs : a.eval s = v) (hown : Own w base v xs) (t : ByteArray) (hx : a.eval x = .string t)
    (hlen : xs.length + t.size ≤ 100000000) (hbase : base ≤ w.heap.size)
    (h : ∀ v' w', Own w' base v' (xs ++ sl t) → w.grownBy w' v.ownBlock → wpList Try.prog ops Q rest (a.put o.dst v') w') : wpList Try.prog ops Q (o :: rest) a w := by
  obtain ⟨i0, hi0, hz0, hz1, hz2⟩ := info_parts info_u8
  refine Lib.wpList_append_own_string w hgd s x _ _ ho base _ i0 Try.underlying25 Try.underlying9 hi0 hz0 hz1 hz2 v _ _ hs hown t hx (by simp only [maxLen]; omega) (by omega) hbase fun v' w' h2 h3 _ => h v' w' ?_ h3
  unfold Own
  rw [bv_append, List.length_append, sl_len]
  exact h2
end

set_option maxHeartbeats 400000 in
set_option maxRecDepth 100000 in
theorem puttext_any (w : World) (B : Nat) (v : Value) (bs : List UInt8) (s : ByteArray) (hv : BS w B v bs) (hB : B ≤ w.heap.size) (hl : bs.length ≤ 1000000) (hs : s.size ≤ 1000000) :
    Calls Try.prog 65 #[v, .string s] w fun e w' => ∃ v', e = .returned v' ∧ Own w' w.heap.size v' (bs ++ enc s.size ++ sl s) ∧ Ext w w' := by
  have hU : U64 s.size := U64.mk (by omega)
  have he := enc_len10 hU
  go_enter Try.func65, Try.ntmps65
  go_wp2_with fail
  refine (put_any w B v bs s.size hv hB hl hU).mono ?_
  rintro e w1 ⟨v1, rfl, hown1, hx1⟩
  go_wp2_with (at_builtin; refine wpList_append_text _ rfl (.tmp 9) (.tmp 10) rfl w.heap.size v1 (bs ++ enc s.size) rfl hown1 s rfl (by simp only [List.length_append]; omega) hx1.size ?_; intro v2 w2 hown2 hg2)
  go_ret
  exact ⟨_, rfl, hown2, hx1.grown hg2 hx1.size (own_ge hown1)⟩

set_option maxHeartbeats 400000 in
set_option maxRecDepth 100000 in
theorem rtext_any (w : World) (s : ByteArray) (hs : s.size ≤ 1000000) :
    Calls Try.prog 60 #[.string s] w fun e w' => ∃ v', e = .returned v' ∧ Own w' w.heap.size v' (enc s.size ++ sl s) ∧ Ext w w' := by
  have hU : U64 s.size := U64.mk (by omega)
  have he := enc_len10 hU
  go_enter Try.func60, Try.ntmps60
  go_wp2_with fail
  refine (bytes_any s.size s.size w (Nat.le_refl _) hU).mono ?_
  rintro e w1 ⟨v1, rfl, hown1, hx1⟩
  go_wp2_with (at_builtin; refine wpList_append_text _ rfl (.tmp 6) (.tmp 7) rfl w.heap.size v1 (enc s.size) rfl hown1 s rfl (by omega) hx1.size ?_; intro v2 w2 hown2 hg2)
  go_ret
  exact ⟨_, rfl, hown2, hx1.grown hg2 hx1.size (own_ge hown1)⟩

/-- what GetText hands back: why there is no text, the text, what stands behind -/
def vtE (bs : List UInt8) (most : Int) : Nat := if vgE bs ≠ 0 then vgE bs else if max 0 most < (vgN bs : Int) then 2 else if (vgRest bs).length < vgN bs then 6 else 0
def vtS (bs : List UInt8) (most : Int) : List UInt8 := if vtE bs most = 0 then (vgRest bs).take (vgN bs) else []
def vtRest (bs : List UInt8) (most : Int) : List UInt8 := if vtE bs most = 0 then (vgRest bs).drop (vgN bs) else []
theorem vt_err {bs : List UInt8} {most : Int} (h : vtE bs most ≠ 0) : vtS bs most = [] ∧ vtRest bs most = [] := by
  unfold vtS vtRest
  rw [if_neg h, if_neg h]
  exact ⟨rfl, rfl⟩
theorem vgRest_len (bs : List UInt8) : (vgRest bs).length ≤ bs.length := by
  unfold vgRest
  split
  · rw [List.length_drop]; omega
  · simp
theorem ret_text {bs : List UInt8} {most : Int} {s : ByteArray} {r : Value} {e : Int} (hs : s = ⟨(vtS bs most).toArray⟩) (he : e = (vtE bs most : Int)) :
    Ending.returned (.tuple #[.string s, r, .int .i64 e]) = .returned (.tuple #[.string ⟨(vtS bs most).toArray⟩, r, .int .i64 (vtE bs most)]) := by rw [hs, he]
theorem ret_text_err {bs : List UInt8} {most : Int} {r : Value} {k : Nat} (h : vtE bs most = k) (hk : k ≠ 0) {e : Int} (he : e = (k : Int)) :
    Ending.returned (.tuple #[.string { data := #[] }, r, .int .i64 e]) = .returned (.tuple #[.string ⟨(vtS bs most).toArray⟩, r, .int .i64 (vtE bs most)]) := by
  subst he
  exact ret_text (by rw [(vt_err (by omega)).1]) (by rw [h])
theorem bs_text_err {bs : List UInt8} {most : Int} {k : Nat} (h : vtE bs most = k) (hk : k ≠ 0) {w : World} {B : Nat} : BS w B (.slice none 0 0) (vtRest bs most) := by
  rw [(vt_err (by omega)).2]
  exact BS.nil_ _ _

set_option maxHeartbeats 1600000 in
set_option maxRecDepth 100000 in
theorem gettext_any (w : World) (B : Nat) (v : Value) (bs : List UInt8) (most : Int) (hv : BS w B v bs) (hB : B ≤ w.heap.size) (hl : bs.length ≤ 1000000) (hm : I64 most) :
    Calls Try.prog 46 #[v, .int .i64 most] w fun e w' =>
      ∃ r, e = .returned (.tuple #[.string ⟨(vtS bs most).toArray⟩, r, .int .i64 (vtE bs most)]) ∧ BS w' B r (vtRest bs most) ∧ Ext w w' := by
  obtain ⟨M, hM⟩ : ∃ M : Nat, (M : Int) = max 0 most := ⟨(max 0 most).toNat, by omega⟩
  have hmw : IntKind.u64.wrap (max 0 most) = (M : Int) := by rw [← hM, IntKind.wrap_u64]; have := hm.hi; omega
  have HM := Lib.hid hM
  clear hM
  have hrl := vgRest_len bs
  by_cases h0 : vgE bs = 0
  · have t0 : (((vgE bs : Nat) : Int) != 0) = false := by simp [h0]
    have H0 := Lib.hid h0
    clear h0
    by_cases h1 : M < vgN bs
    · have hE : vtE bs most = 2 := by
        have := HM.out
        unfold vtE
        rw [if_neg (by simp [H0.out]), if_pos (by omega)]
      have HE := Lib.hid hE
      clear hE
      go_enter Try.func46, Try.ntmps46
      go_wp2_with fail
      refine (get_any w B v bs hv hB hl).mono ?_
      rintro e w1 ⟨r, rfl, hr, hx⟩
      go_wp2
      go_ret3
      exact ⟨_, ret_text_err HE.out (by decide) rfl, bs_text_err HE.out (by decide), hx⟩
    · by_cases h2 : (vgRest bs).length < vgN bs
      · have hE : vtE bs most = 6 := by
          have := HM.out
          unfold vtE
          rw [if_neg (by simp [H0.out]), if_neg (by omega), if_pos h2]
        have HE := Lib.hid hE
        clear hE
        go_enter Try.func46, Try.ntmps46
        go_wp2_with fail
        refine (get_any w B v bs hv hB hl).mono ?_
        rintro e w1 ⟨r, rfl, hr, hx⟩
        obtain ⟨A, c, rfl, hrest⟩ := hr
        clear hrest
        go_wp2
        go_ret3
        exact ⟨_, ret_text_err HE.out (by decide) rfl, bs_text_err HE.out (by decide), hx⟩
      · have hE : vtE bs most = 0 := by
          have := HM.out
          unfold vtE
          rw [if_neg (by simp [H0.out]), if_neg (by omega), if_neg h2]
        have HE := Lib.hid hE
        clear hE
        go_enter Try.func46, Try.ntmps46
        go_wp2_with fail
        refine (get_any w B v bs hv hB hl).mono ?_
        rintro e w1 ⟨r, rfl, hr, hx⟩
        obtain ⟨A, c, rfl, hrest⟩ := hr
        have Hbs := Lib.hid (show BS w1 B (.slice A (vgRest bs).length c) (vgRest bs) from ⟨A, c, rfl, hrest⟩)
        have hc := hrest.1
        have hcm := hrest.2.1
        clear hrest
        have hB1 : B ≤ w1.heap.size := Nat.le_trans hB hx.size
        have hs := fun k => run_string_of_bytes (P := Try.prog) (w1.drewN k) 25 9 5 Try.underlying25 Try.underlying5 Try.underlying9 B _ _ ((Hbs.out.take_ (k := vgN bs) (by omega)).ext hB1 (Ext.drewN w1 k))
        have Hcut := Lib.hid (fun k => (Hbs.out.cut_ (k := vgN bs) (by omega)).ext hB1 (Ext.drewN w1 k))
        go_wp2
        go_quiet (fail)
        all_goals go_wp2
        all_goals go_ret3
        all_goals have hc' := Hcut.out nq
        all_goals refine ⟨_, ret_text (by unfold vtS; rw [if_pos HE.out]) (by rw [HE.out]; rfl), ?_, hx.trans (Ext.drewN _ _)⟩
        all_goals unfold vtRest
        all_goals rw [if_pos HE.out]
        all_goals by_cases hck : c = vgN bs
        all_goals first | (exfalso; omega) | (rw [if_neg hck] at hc'; exact hc') | (rw [if_pos hck] at hc'; exact hc') | (subst hck; rw [if_pos rfl, Nat.sub_self] at hc'; exact hc')
  · have t0 : (((vgE bs : Nat) : Int) != 0) = true := by simpa using h0
    have hE : vtE bs most = vgE bs := by unfold vtE; rw [if_pos h0]
    have HE := Lib.hid hE
    have H0 := Lib.hid h0
    clear h0 hE
    go_enter Try.func46, Try.ntmps46
    go_wp2_with fail
    refine (get_any w B v bs hv hB hl).mono ?_
    rintro e w1 ⟨r, rfl, hr, hx⟩
    go_wp2
    go_ret3
    exact ⟨_, ret_text_err HE.out H0.out rfl, bs_text_err HE.out H0.out, hx⟩

set_option maxHeartbeats 1600000 in
set_option maxRecDepth 100000 in
theorem rgettext_any (w : World) (B : Nat) (v : Value) (bs : List UInt8) (most : Int) (hv : BS w B v bs) (hB : B ≤ w.heap.size) (hl : bs.length ≤ 1000000) (hm : I64 most) :
    Calls Try.prog 62 #[v, .int .i64 most] w fun e w' =>
      ∃ r, e = .returned (.tuple #[.string ⟨(vtS bs most).toArray⟩, r, .int .i64 (vtE bs most)]) ∧ BS w' B r (vtRest bs most) ∧ Ext w w' := by
  obtain ⟨M, hM⟩ : ∃ M : Nat, (M : Int) = max 0 most := ⟨(max 0 most).toNat, by omega⟩
  have hmw : IntKind.u64.wrap (max 0 most) = (M : Int) := by rw [← hM, IntKind.wrap_u64]; have := hm.hi; omega
  have HM := Lib.hid hM
  clear hM
  have hrl := vgRest_len bs
  by_cases h0 : vgE bs = 0
  · have t0 : (((vgE bs : Nat) : Int) != 0) = false := by simp [h0]
    have H0 := Lib.hid h0
    clear h0
    by_cases h1 : M < vgN bs
    · have hE : vtE bs most = 2 := by
        have := HM.out
        unfold vtE
        rw [if_neg (by simp [H0.out]), if_pos (by omega)]
      have HE := Lib.hid hE
      clear hE
      go_enter Try.func62, Try.ntmps62
      go_wp2_with fail
      refine (rget_any w B v bs hv hB hl).mono ?_
      rintro e w1 ⟨r, rfl, hr, hx⟩
      go_wp2
      go_ret3
      exact ⟨_, ret_text_err HE.out (by decide) rfl, bs_text_err HE.out (by decide), hx⟩
    · by_cases h2 : (vgRest bs).length < vgN bs
      · have hE : vtE bs most = 6 := by
          have := HM.out
          unfold vtE
          rw [if_neg (by simp [H0.out]), if_neg (by omega), if_pos h2]
        have HE := Lib.hid hE
        clear hE
        go_enter Try.func62, Try.ntmps62
        go_wp2_with fail
        refine (rget_any w B v bs hv hB hl).mono ?_
        rintro e w1 ⟨r, rfl, hr, hx⟩
        obtain ⟨A, c, rfl, hrest⟩ := hr
        clear hrest
        go_wp2
        go_ret3
        exact ⟨_, ret_text_err HE.out (by decide) rfl, bs_text_err HE.out (by decide), hx⟩
      · have hE : vtE bs most = 0 := by
          have := HM.out
          unfold vtE
          rw [if_neg (by simp [H0.out]), if_neg (by omega), if_neg h2]
        have HE := Lib.hid hE
        clear hE
        go_enter Try.func62, Try.ntmps62
        go_wp2_with fail
        refine (rget_any w B v bs hv hB hl).mono ?_
        rintro e w1 ⟨r, rfl, hr, hx⟩
        obtain ⟨A, c, rfl, hrest⟩ := hr
        have Hbs := Lib.hid (show BS w1 B (.slice A (vgRest bs).length c) (vgRest bs) from ⟨A, c, rfl, hrest⟩)
        have hc := hrest.1
        have hcm := hrest.2.1
        clear hrest
        have hB1 : B ≤ w1.heap.size := Nat.le_trans hB hx.size
        have hs := fun k => run_string_of_bytes (P := Try.prog) (w1.drewN k) 25 9 5 Try.underlying25 Try.underlying5 Try.underlying9 B _ _ ((Hbs.out.take_ (k := vgN bs) (by omega)).ext hB1 (Ext.drewN w1 k))
        have Hcut := Lib.hid (fun k => (Hbs.out.cut_ (k := vgN bs) (by omega)).ext hB1 (Ext.drewN w1 k))
        go_wp2
        go_quiet (fail)
        all_goals go_wp2
        all_goals go_ret3
        all_goals have hc' := Hcut.out nq
        all_goals refine ⟨_, ret_text (by unfold vtS; rw [if_pos HE.out]) (by rw [HE.out]; rfl), ?_, hx.trans (Ext.drewN _ _)⟩
        all_goals unfold vtRest
        all_goals rw [if_pos HE.out]
        all_goals by_cases hck : c = vgN bs
        all_goals first | (exfalso; omega) | (rw [if_neg hck] at hc'; exact hc') | (rw [if_pos hck] at hc'; exact hc') | (subst hck; rw [if_pos rfl, Nat.sub_self] at hc'; exact hc')
  · have t0 : (((vgE bs : Nat) : Int) != 0) = true := by simpa using h0
    have hE : vtE bs most = vgE bs := by unfold vtE; rw [if_pos h0]
    have HE := Lib.hid hE
    have H0 := Lib.hid h0
    clear h0 hE
    go_enter Try.func62, Try.ntmps62
    go_wp2_with fail
    refine (rget_any w B v bs hv hB hl).mono ?_
    rintro e w1 ⟨r, rfl, hr, hx⟩
    go_wp2
    go_ret3
    exact ⟨_, ret_text_err HE.out H0.out rfl, bs_text_err HE.out H0.out, hx⟩

end Go.Proofs.Ytbnjhpknagkiaaa
