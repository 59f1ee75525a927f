/-
  Contract of the reference's Decode.
  Conditions: at most 4000 bytes.
-/
import Derived.Test.YtmgbhmmmegknjaaDv
import Derived.Test.YtmgbhmmmegknjaaDn
import Derived.Test.YtmgbhmmmegknjaaDu
import Derived.Test.YtmgbhmmmegknjaaBl
namespace Go.Proofs.Ytmgbhmmmegknjaa
open Go.RowKit Go.Op

theorem start_none {bs : List UInt8} (h : num 262144 bs = none) : ∀ m, esOk m = true → denc m ≠ bs := by
  have := Mt.start bs
  have e : rdN 262144 (bs, false) = (0, (bs, true)) := by
    unfold rdN
    rw [if_neg (by simp)]
    simp only
    rw [h]
  rw [e] at this
  exact this.bad rfl
theorem start_some {bs r : List UInt8} {n : Nat} (h : num 262144 bs = some (n, r)) : Mt bs n 0 [] [] (r, false) := by
  have := Mt.start bs
  have e : rdN 262144 (bs, false) = (n, (r, false)) := by
    unfold rdN
    rw [if_neg (by simp)]
    simp only
    rw [h]
  rw [e] at this
  exact this
theorem stepR_yes (L i : Nat) (last bs : List UInt8) (h : i % 16 = 0) : stepR L i last bs = match num L bs with
    | none => none
    | some (_, r) => entR [] r := if_pos h
theorem stepR_no (L i : Nat) (last bs : List UInt8) (h : ¬i % 16 = 0) : stepR L i last bs = entR last bs := if_neg h
theorem entR_len {a b r : List UInt8} {x : Ent} (h : entR a b = some (x, r)) : r.length + 1 ≤ b.length ∧ x.1.b.length ≤ a.length + 65 := by
  unfold entR at h
  cases h1 : num a.length b with
  | none => rw [h1] at h; cases h
  | some q1 =>
    obtain ⟨k, b1⟩ := q1
    rw [h1] at h
    simp only at h
    cases h2 : txt 65 b1 with
    | none => rw [h2] at h; cases h
    | some q2 =>
      obtain ⟨s, b2⟩ := q2
      rw [h2] at h
      simp only at h
      cases h3 : num 67108864 b2 with
      | none => rw [h3] at h; cases h
      | some q3 =>
        obtain ⟨x3, b3⟩ := q3
        rw [h3] at h
        simp only at h
        cases h4 : num 67108864 b3 with
        | none => rw [h4] at h; cases h
        | some q4 =>
          obtain ⟨x4, b4⟩ := q4
          rw [h4] at h
          simp only at h
          cases h5 : num 67108864 b4 with
          | none => rw [h5] at h; cases h
          | some q5 =>
            obtain ⟨x5, b5⟩ := q5
            rw [h5] at h
            simp only [Option.some.injEq, Prod.mk.injEq] at h
            obtain ⟨rfl, rfl⟩ := h
            have := num_len h1
            have := txt_len h2
            have := num_len h3
            have := num_len h4
            have := num_len h5
            simp only [List.length_append, List.length_take]
            omega

set_option maxHeartbeats 8000000 in
set_option maxRecDepth 100000 in
theorem rdecode_any (w : World) (v : Value) (bs : List UInt8) (hv : BS w w.heap.size v bs) (hl : bs.length ≤ 4000) :
    Calls Try.prog 12 #[v] w fun e w' => ∃ u L E, e = .returned (.tuple #[u, .int .i64 (E : Nat)]) ∧ SL w' (Bw w') u L ∧ DIs bs L E ∧ Ext w w' := by
  obtain ⟨A, c, rfl⟩ := hv.form
  have Hv := Lib.hid hv
  clear hv
  go_enter Try.func12, Try.ntmps12
  go_wp2_with fail
  refine (rnum_any w.heap.size w _ bs 262144 Hv.out (Nat.le_refl _) (by omega) (by decide)).mono ?_
  rintro e w1 ⟨h1, hx1⟩
  have Hx1 := Lib.hid hx1
  clear hx1
  cases hn1 : num 262144 bs with
  | none =>
    rw [hn1] at h1
    obtain rfl := h1
    have Hno := Lib.hid (start_none hn1)
    clear hn1
    go_wp2_with fail
    go_loopw [5, 6, 7, 8, 9] (fun a b l x i wr => a = .slice none 0 0 ∧ b = .bool false ∧ i = .int .i64 0 ∧ Ext w wr) (fun _ _ _ _ _ _ => 0)
    case atStart => exact ⟨rfl, rfl, rfl, Hx1.out⟩
    case round =>
      obtain ⟨rfl, rfl, rfl, hx⟩ := hrel
      have Hx := Lib.hid hx
      clear hx
      go_wp2
      go_ret2
      exact ⟨_, [], 110, rfl, SL.nil_ _ _, .inr ⟨rfl, rfl, Hno.out⟩, Hx.out⟩
  | some q1 =>
    obtain ⟨n, r0⟩ := q1
    rw [hn1] at h1
    obtain ⟨u0, rfl, h1⟩ := h1
    have hl1 := num_len hn1
    have Hm1 := Lib.hid (start_some hn1)
    have H1 := Lib.hid h1
    have hn6 : (n : Int) ≤ 262144 := by omega
    clear hn1 h1
    go_wp2_with fail
    go_loopw [5, 6, 7, 8, 9] (fun vr vo vl la i wr => ∃ (k : Nat) (L : List Ent) (last r : List UInt8) (ok : Bool), i = .int .i64 k ∧ k ≤ n ∧ OwnL wr w.heap.size 42 (fun _ => False) vl L ∧ L.length = k ∧ la = .string ⟨last.toArray⟩ ∧ k ≤ bs.length + 1 ∧ vo = .bool ok ∧
      (ok = true → BS wr w.heap.size vr r ∧ r.length + k ≤ bs.length ∧ Mt bs n k L last (r, false) ∧ last.length ≤ 65 * k) ∧ (ok = false → ∀ m, esOk m = true → denc m ≠ bs) ∧ Ext w wr) (fun _ _ _ _ i _ => n - (intOf i).toNat)
    case atStart => exact ⟨0, [], [], r0, true, rfl, Nat.zero_le _, OwnL.nil_ _ _ _ _, rfl, rfl, by omega, rfl, fun _ => ⟨H1.out, by omega, Hm1.out, Nat.zero_le _⟩, fun h => (by cases h), Hx1.out⟩
    case round =>
      rename World => wq
      obtain ⟨k, L, last, r, ok, rfl, hk, hol, hLk, rfl, hkb, rfl, hyes, hno, hx⟩ := hrel
      have Hol := Lib.hid hol
      have HLk := Lib.hid hLk
      have Hno := Lib.hid hno
      have Hyes := Lib.hid hyes
      have Hx := Lib.hid hx
      clear hol hLk hno hyes hx
      obtain ⟨Al, cl, rfl, hcl, hml⟩ := Hol.out.form
      by_cases hlt : k < n
      · have hlt' : (k : Int) < n := by omega
        cases ok with
        | true =>
          obtain ⟨hr, hrl, hmt, hla⟩ := Hyes.out rfl
          have Hr := Lib.hid hr
          have hnx := hmt.nextR hlt 1073741824 (by omega) (by decide) (by omega)
          have Hnx := Lib.hid hnx
          have hsy := stepR_yes 1073741824 k last r
          have hsn := stepR_no 1073741824 k last r
          generalize stepR 1073741824 k last r = S at Hnx hsy hsn
          have Hsy := Lib.hid hsy
          have Hsn := Lib.hid hsn
          have hszq := Hx.out.size
          clear hr hmt hnx hsy hsn Hyes Hno
          go_upto_if 29 with (fail)
          go_cut [5, 6, 8] (fun s5 s6 s8 wx => ∃ (o : Bool) (H r1 : List UInt8), s8 = .string ⟨H.toArray⟩ ∧ H.length ≤ last.length ∧ s6 = .bool o ∧ (o = true → BS wx w.heap.size s5 r1 ∧ r1.length ≤ r.length ∧ S = entR H r1) ∧ (o = false → S = none) ∧ Ext wq wx)
          case first =>
            by_cases h16 : k % 16 = 0
            · have t16 : ((k : Int) % 16 == 0) = true := by rw [beq_iff_eq]; omega
              have hS := Hsy.out h16
              have HS := Lib.hid hS
              clear hS
              go_wp2_with fail
              refine (rnum_any w.heap.size wq _ r 1073741824 Hr.out hszq (by omega) (by decide)).mono ?_
              rintro e w2 ⟨h2, hx2⟩
              have Hx2 := Lib.hid hx2
              clear hx2
              have hS := HS.out
              cases hn2 : num 1073741824 r with
              | none =>
                rw [hn2] at h2 hS
                obtain rfl := h2
                have HS2 := Lib.hid hS
                clear hS hn2
                go_wp2_with fail
                go_meet
                exact ⟨false, [], [], rfl, Nat.zero_le _, rfl, fun h => (by cases h), fun _ => HS2.out, Hx2.out⟩
              | some q2 =>
                obtain ⟨n2, r2⟩ := q2
                rw [hn2] at h2 hS
                obtain ⟨u2, rfl, h2⟩ := h2
                have hl2 := num_len hn2
                have HS2 := Lib.hid hS
                have H2 := Lib.hid h2
                clear hS hn2 h2
                go_wp2_with fail
                go_meet
                exact ⟨true, [], r2, rfl, Nat.zero_le _, rfl, fun _ => ⟨H2.out, by omega, HS2.out⟩, fun h => (by cases h), Hx2.out⟩
            · have t16 : ((k : Int) % 16 == 0) = false := by rw [beq_eq_false_iff_ne]; omega
              have HS2 := Lib.hid (Hsn.out h16)
              go_wp2_with fail
              go_meet
              exact ⟨true, last, r, rfl, Nat.le_refl _, rfl, fun _ => ⟨Hr.out, Nat.le_refl _, HS2.out⟩, fun h => (by cases h), Below.refl _ _⟩
          case rest =>
            obtain ⟨o, H, r1, rfl, hHl, rfl, hy, hn0, hxc⟩ := hcut
            have Hy := Lib.hid hy
            have Hn0 := Lib.hid hn0
            have Hxc := Lib.hid hxc
            have hszc := hxc.size
            clear hy hn0 hxc
            go_upto_if 36 with (fail)
            go_cut [5, 6] (fun s5 s6 wx => ∃ (o2 : Bool) (x : Ent) (r2 : List UInt8), s6 = .bool o2 ∧ Fine x ∧ EBox wx wc.heap.size x ∧ (o2 = true → BS wx w.heap.size s5 r2 ∧ S = some (x, r2) ∧ r2.length + 1 ≤ r.length ∧ x.1.b.length ≤ last.length + 65) ∧ (o2 = false → S = none) ∧ Ext wc wx)
            case first =>
              cases o with
              | true =>
                obtain ⟨hb, hrl1, hS⟩ := Hy.out rfl
                have Hb := Lib.hid (hb.ext (by have := Hx.out.size; omega) (Ext.of_alloc wc (.cells #[.string ⟨#[]⟩, .int .i64 0, .int .i64 0, .int .i64 0] 42)))
                have HS := Lib.hid hS
                clear hb hS Hn0 Hy
                go_wp2_with fail
                refine (rentry_any w.heap.size _ _ r1 H Hb.out (by have := Hx.out.size; simp; omega) (by omega) (by omega)).mono ?_
                rintro e w5 ⟨h5, hx5⟩
                have hX5 : EBox w5 wc.heap.size (⟨[]⟩, 0, 0, 0) := (hx5.block wc.heap.size (by simp)).trans (heap_alloc_new wc _)
                have Hx5 := Lib.hid (Ext.trans (Ext.of_alloc wc _) hx5)
                have HX5 := Lib.hid hX5
                obtain ⟨d0, d1, d2, d3, g0, g1, g2, g3⟩ := hX5.cell
                have hS := HS.out
                clear hx5 hX5
                cases hn5 : entR H r1 with
                | none =>
                  rw [hn5] at h5 hS
                  obtain ⟨⟨⟨t⟩, x, y, z⟩, rfl, hfine⟩ := h5
                  have HS5 := Lib.hid hS
                  have Hfine := Lib.hid hfine
                  simp only [entV]
                  clear hS hn5 hfine
                  go_wp2_with fail
                  go_meet
                  exact ⟨false, (⟨t⟩, x, y, z), [], rfl, Hfine.out, HX5.out.set4, fun h => (by cases h), fun _ => HS5.out, ((Ext.kept Hx5.out (fun _ => False)).cut (kept4 _ _ _ _ _ _) (Nat.le_refl _)).ext fun _ _ h => h⟩
                | some q5 =>
                  obtain ⟨⟨⟨t⟩, x, y, z⟩, r5⟩ := q5
                  rw [hn5] at h5 hS
                  obtain ⟨u5', rfl, hb5, hfine⟩ := h5
                  have hl5 := entR_len hn5
                  dsimp only at hl5
                  have HS5 := Lib.hid hS
                  have Hfine := Lib.hid hfine
                  have Hb5 := Lib.hid hb5
                  simp only [entV]
                  clear hS hn5 hfine hb5
                  go_wp2_with fail
                  go_meet
                  refine ⟨true, (⟨t⟩, x, y, z), r5, rfl, Hfine.out, HX5.out.set4, fun _ => ⟨?_, HS5.out, by omega, by simp only; omega⟩, fun h => (by cases h), ((Ext.kept Hx5.out (fun _ => False)).cut (kept4 _ _ _ _ _ _) (Nat.le_refl _)).ext fun _ _ h => h⟩
                  exact Hb5.out.kept (by have := Hx.out.size; have := Hx5.out.size; omega) (kept4 _ wc.heap.size _ _ _ _) (fun j hj h => by have := Hx.out.size; omega)
              | false =>
                have HS := Lib.hid (Hn0.out rfl)
                clear Hn0 Hy
                go_wp2_with fail
                go_meet
                exact ⟨false, zeroE, [], rfl, ⟨by simp [zeroE], by simp [zeroE], by simp [zeroE], by simp [zeroE]⟩, heap_alloc_new wc _, fun h => (by cases h), fun _ => HS.out, Ext.of_alloc _ _⟩
            case rest =>
              rename World => wd
              obtain ⟨o2, ⟨⟨t⟩, x, y, z⟩, r2, rfl, hfine, hbx, hy2, hn2, hxd⟩ := hcut
              have hXlt := hbx.lt
              obtain ⟨d0, d1, d2, d3, _⟩ := hbx.cell
              dsimp only at d0 d1 d2 d3
              obtain ⟨ft, fx, fy, fz⟩ := hfine
              dsimp only at ft fx fy fz
              have Hbx := Lib.hid hbx
              have Hy2 := Lib.hid hy2
              have Hn2 := Lib.hid hn2
              have hxq := Ext.trans Hxc.out hxd
              have Hxq := Lib.hid hxq
              have hlto : ∀ j, (Value.slice Al L.length cl).ownBlock = some j → j < wq.heap.size := fun j hj => by
                obtain ⟨xs, h1, _⟩ := Hol.out
                exact (World.ownsRow.lt h1 j hj).2
              have Hlto := Lib.hid hlto
              have Hol5 := Lib.hid (Hol.out.ext (Ext.trans hxq (Ext.of_alloc wd (.cells #[.string ⟨t.toArray⟩, .int .i64 x, .int .i64 y, .int .i64 z] 42))))
              have Hsv := Lib.hid (SV.one_ wd #[.string ⟨t.toArray⟩, .int .i64 x, .int .i64 y, .int .i64 z] 42 4 rfl)
              have hrep : ∀ W : World, Reps (α := Ent) W (fun j => False ∧ j < W.heap.size ∧ some j ≠ (Value.slice Al L.length cl).ownBlock) [.string ⟨t.toArray⟩, .int .i64 x, .int .i64 y, .int .i64 z] [(⟨t⟩, x, y, z)] := fun W => Reps.single (rep_ent (by unfold maxLen; omega) (I6.mk (by omega)) (I6.mk (by omega)) (I6.mk (by omega)))
              have Hrep := Lib.hid hrep
              have hLl : L.length + 1 ≤ 1000000000 := by have := HLk.out; omega
              have hszd := hxq.size
              have hbw : w.heap.size ≤ wd.heap.size + 1 := by omega
              clear hbx hy2 hn2 hxq hxd hlto hrep Hy Hn0
              go_wp2_with (at_builtin; go_loud (refine wpList_append_l _ rfl (.tmp 44) (.tmp 46) 22 rfl w.heap.size 42 (fun _ => False) (.agg #[.string ⟨#[]⟩, .int .i64 0, .int .i64 0, .int .i64 0]) 40 Try.underlying22 info_ent rfl (by decide) (.slice Al L.length cl) L rfl Hol5.out (wd.heap.size + 1) (.slice (some ⟨wd.heap.size, 0, none⟩) 1 1) [(⟨t⟩, x, y, z)] [.string ⟨t.toArray⟩, .int .i64 x, .int .i64 y, .int .i64 z] rfl Hsv.out (Hrep.out _) hLl (by omega) (by simp; omega) ?_; intro v6 w6 hown6 hg6 hat6; have hx6 : Ext w w6 := Below.grown (Ext.al (Ext.trans Hx.out Hxq.out) _) hg6 (by simp; omega) (fun j hj => Hol.out.ge j hj); have hk6 : Kept (fun j => w.heap.size ≤ j) wd w6 := (Ext.kept (Ext.of_alloc wd _) _).trans (grown_kept hg6 fun r hr _ => Hol.out.ge r hr); have hb6 : EBox w6 wc.heap.size (⟨t⟩, x, y, z) := ((hg6.block wc.heap.size (by simp; omega) (fun e => by have := Hlto.out _ e.symm; omega)).trans ((Ext.of_alloc wd _).block wc.heap.size hXlt)).trans Hbx.out; obtain ⟨d0, _⟩ := hb6.cell; dsimp only at d0; have Hown6 := Lib.hid hown6; have Hx6 := Lib.hid hx6; have Hk6 := Lib.hid hk6; clear hown6 hg6 hat6 hx6 hk6 hb6))
              go_roundw
              case rel =>
                refine ⟨k + 1, L ++ [(⟨t⟩, x, y, z)], t, r2, o2, rfl, by omega, Hown6.out, by rw [List.length_append, HLk.out]; rfl, rfl, by omega, rfl, fun h => ?_, fun h => ?_, Hx6.out⟩
                · obtain ⟨h1, h2, h3, h4⟩ := Hy2.out h
                  exact ⟨h1.kept (by omega) Hk6.out (fun j hj h => by omega), by omega, Hnx.out.2 _ _ h2, by simp only at h4; omega⟩
                · exact Hnx.out.1 (Hn2.out h)
              case measure => simp only [intOf]; omega
        | false =>
          have hnot := Lib.hid (Hno.out rfl)
          go_wp2
          go_ret2
          exact ⟨_, [], 110, rfl, SL.nil_ _ _, .inr ⟨rfl, rfl, hnot.out⟩, Hx.out⟩
      · have hlt' : ¬(k : Int) < n := by omega
        obtain rfl : k = n := by omega
        cases ok with
        | false =>
          have hnot := Lib.hid (Hno.out rfl)
          go_wp2
          go_ret2
          exact ⟨_, [], 110, rfl, SL.nil_ _ _, .inr ⟨rfl, rfl, hnot.out⟩, Hx.out⟩
        | true =>
          obtain ⟨hr, hrl, hmt, hla⟩ := Hyes.out rfl
          have Hmt := Lib.hid hmt
          have Hsl := Lib.hid Hol.out.sl
          have hL5 : L.length ≤ 5000 := by have := HLk.out; omega
          clear hr hmt Hyes Hno
          cases hok : esOk L with
          | false =>
            have Hnot := Lib.hid (Hmt.out.done (.inl hok))
            have Hok := Lib.hid hok
            clear hok
            go_wp2_with fail
            refine (rencode_bad wq _ L Hsl.out Hok.out).mono ?_
            rintro e w2 ⟨rfl, hx2⟩
            have Hx2 := Lib.hid (Ext.trans Hx.out hx2)
            clear hx2
            go_wp2
            go_ret2
            exact ⟨_, [], 110, rfl, SL.nil_ _ _, .inr ⟨rfl, rfl, Hnot.out⟩, Hx2.out⟩
          | true =>
            have Hok := Lib.hid hok
            clear hok
            go_wp2_with fail
            refine (rencode_ok wq _ L Hsl.out Hok.out hL5).mono ?_
            rintro e w2 ⟨u, rfl, ho, hx2⟩
            have Hx2 := Lib.hid (Ext.trans Hx.out hx2)
            have Hs2 := Lib.hid (Hsl.out.up hx2)
            have c1 : (convert 23 9 u).run Try.prog w2 = .ok (.string ⟨(denc L).toArray⟩) w2 := str_of_bs (Own.bs ho) _ rfl
            have c2 : (convert 23 9 (.slice A bs.length c)).run Try.prog w2 = .ok (.string ⟨bs.toArray⟩) w2 := str_of_bs (Hv.out.below Hx2.out) _ rfl
            clear hx2 ho
            by_cases hd : denc L = bs
            · have hne := ba_nn hd
              have Hd := Lib.hid hd
              clear hd
              go_wp2
              go_ret2
              exact ⟨_, L, 0, rfl, Hs2.out, .inl ⟨rfl, Hok.out, Hd.out⟩, Hx2.out⟩
            · have hne := ba_ne hd
              have Hnot := Lib.hid (Hmt.out.done (.inr hd))
              clear hd
              go_wp2
              go_ret2
              exact ⟨_, [], 110, rfl, SL.nil_ _ _, .inr ⟨rfl, rfl, Hnot.out⟩, Hx2.out⟩

end Go.Proofs.Ytmgbhmmmegknjaa
