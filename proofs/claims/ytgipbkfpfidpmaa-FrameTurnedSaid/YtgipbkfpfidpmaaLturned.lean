/-
  FrameTurned: the law's contract: it answers true and leaves all old memory alone.
  Conditions: none.
-/
import Derived.Test.YtgipbkfpfidpmaaFc
import Derived.Test.YtgipbkfpfidpmaaFq
import Derived.Laws.OwnMore
import Derived.Deep.RegionHeld
namespace Go.Proofs.Ytgipbkfpfidpmaa
open Go.RowKit

theorem bv_set (X : List UInt8) (i : Nat) (b : UInt8) : bv (X.set i b) = (bv X).set i (.int .u8 (b.toNat : Int)) := by
  simp [bv, List.map_set]
theorem BS.ge {w : World} {B : Nat} {v : Value} {bs : List UInt8} {A : Option Addr} {c : Nat} (h : BS w B v bs) (hv : v = .slice A bs.length c) : bs.length ≤ c := by
  obtain ⟨A', c', hv', e1, _⟩ := h
  rw [hv] at hv'
  simp only [Value.slice.injEq] at hv'
  omega

set_option maxHeartbeats 4000000 in
set_option maxRecDepth 100000 in
theorem turned_any (w : World) (va vr : Value) (as0 rs0 : List UInt8) (K : Nat) (by_ : UInt8) (ha : BS w w.heap.size va as0) (hr : BS w w.heap.size vr rs0) (hK : K < 65536) :
    Calls Try.prog 4 #[va, .int .u16 K, .int .u8 by_.toNat, vr] w fun e w' => e = .returned (.bool true) ∧ Ext w w' := by
  have hby := by_.toNat_lt
  go_enter Try.func4, Try.ntmps4
  go_wp2_with fail
  refine (cut_any w _ va as0 ha).mono ?_
  rintro e w' ⟨a, rfl, ha, rfl⟩
  have la : (as0.take 400).length ≤ 400 := by rw [List.length_take]; omega
  generalize as0.take 400 = ps at ha la
  obtain ⟨Aa, ca, rfl⟩ := ha.form
  go_wp2_with fail
  refine (fput_any w _ _ [] ps (BS.nil_ _ _) ha (by simp) (by omega)).mono ?_
  rintro e w1 ⟨x, rfl, hox, hx1⟩
  rw [List.nil_append] at hox
  obtain ⟨Ax, cx, rfl⟩ := (Own.bs hox).form
  have hu := enc_len10 (U64.mk (show ps.length < _ by omega))
  have hL : fr ps = enc ps.length ++ (be4 (cnext 0 (enc ps.length ++ ps)) ++ ps) := rfl
  have f2 := rfsize_any w1 ps.length (by omega)
  rw [if_neg (by omega), Int.toNat_natCast] at f2
  obtain ⟨L, hLL⟩ : ∃ L, L = be4 (cnext 0 (enc ps.length ++ ps)) ++ ps := ⟨_, rfl⟩
  rw [← hLL] at hL
  have hLl : L.length = 4 + ps.length := by rw [hLL]; simp [be4_len]
  have hF : (fr ps).length = (enc ps.length).length + (4 + ps.length) := by rw [hL, List.length_append, hLl]
  have HL := Lib.hid hL
  have HLL := Lib.hid hLL
  have HF := Lib.hid hF
  have Hox := Lib.hid hox
  have F2 := Lib.hid f2
  have Hx1 := Lib.hid hx1
  obtain ⟨H, hH⟩ : ∃ H, H = enc ps.length := ⟨_, rfl⟩
  rw [← hH] at hu HL HF F2
  have HH := Lib.hid hH
  clear hL hLL hox f2 hx1 hF hH
  obtain ⟨F, hFF⟩ : ∃ F, F = fr ps := ⟨_, rfl⟩
  rw [← hFF] at HL HF Hox ⊢
  have HFF := Lib.hid hFF
  clear hFF
  have hox' := Hox.out
  have hF := HF.out
  rw [hF] at hox' ⊢
  have Hox := Lib.hid hox'
  clear hox'
  go_wp2_with fail
  refine F2.out.mono ?_
  rintro e w2 ⟨rfl, hx2⟩
  have h2 := Hx1.out.trans hx2
  have Hox2 := Lib.hid (Own.ext Hox.out hx2)
  have H2 := Lib.hid h2
  have hln : ((H.length : Int) + (4 + (ps.length : Int)) != (H.length : Int) + 4 + (ps.length : Int)) = false := by
    rw [bne_eq_false_iff_eq]
    omega
  have hH4 : (H.length : Int) + 4 + (ps.length : Int) - (ps.length : Int) - 4 = (H.length : Int) := by omega
  clear hx2 h2
  by_cases h0 : by_ = 0
  · have hz : by_.toNat = 0 := by rw [h0]; rfl
    go_wp2_with fail
    refine (awake_any _).mono ?_
    rintro e w3 ⟨rfl, hx3⟩
    go_wp2
    go_ret
    exact ⟨rfl, H2.out.trans hx3⟩
  · have hz : ((by_.toNat : Int) == 0) = false := by
      rw [beq_eq_false_iff_ne]
      intro e
      exact h0 (UInt8.toNat_inj.1 (by simpa using (show by_.toNat = 0 by omega)))
    have hF0 : 0 < F.length := by omega
    have hm : K % (4 + ps.length) < 4 + ps.length := Nat.mod_lt _ (by omega)
    have hmk : (K : Int) % (4 + (ps.length : Int)) = ((K % (4 + ps.length) : Nat) : Int) := by rw [Int.natCast_emod, Int.natCast_add]; rfl
    have hsub : (H.length : Int) + (4 + (ps.length : Int)) - (H.length : Int) = 4 + (ps.length : Int) := by omega
    generalize K % (4 + ps.length) = m at hm hmk
    have hmL : m < L.length := by omega
    have hFm : F[H.length + m]? = some L[m] := by
      rw [HL.out, List.getElem?_append_right (by omega), show H.length + m - H.length = m from by omega, List.getElem?_eq_getElem hmL]
    have hFs : F.set (H.length + m) (L[m] ^^^ by_) = H ++ L.set m (L[m] ^^^ by_) := by
      rw [HL.out, List.set_append_right _ _ (by omega), show H.length + m - H.length = m from by omega]
    have htu := fun rest => turned_fr (ps := ps) (by omega) (m := m) h0 L HLL.out hmL rest
    rw [← HH.out] at htu
    have hxx := u8x_w L[m].toNat_lt by_.toNat_lt
    have hY := L[m].toNat_lt
    have HFm := Lib.hid hFm
    have HFs := Lib.hid hFs
    have Htu := Lib.hid htu
    have hlS : (L.set m (L[m] ^^^ by_)).length = 4 + ps.length := by rw [List.length_set, hLl]
    generalize L.set m (L[m] ^^^ by_) = L' at HFs Htu hlS
    generalize hYY : L[m] = Y at HFm HFs hxx hY
    have hNF := HF.out
    clear hFm hFs htu hYY
    go_wp2_with (at_builtin; refine wpList_append_bytes _ rfl (.tmp 46) (.tmp 47) rfl w2.heap.size (.slice (some ⟨w2.heap.size, 0, none⟩) 0 0) [] rfl (own_empty _ _) w2.heap.size (.slice Ax (H.length + (4 + ps.length)) cx) F rfl ((Own.bs Hox2.out).ext (Nat.le_refl _) (Ext.of_alloc _ _)) (by simp; omega) (by simp) ?_; intro v3 w3 hown3 hg3 hat3; have hx3 : Ext w2 w3 := ((Below.refl _ _).alloc (Nat.le_refl _) _).grown hg3 (by simp) (by simp [Value.ownBlock]); rw [List.nil_append] at hown3; obtain ⟨g, cap, rfl, hgb, hgs⟩ := World.ownsRow.form hown3 hF0; clear hat3 hg3; have hrow := hown3; unfold Own at hrow; have hcX := World.ownsRow.cellAt hrow (H.length + m) (by omega); simp only [bv, List.getElem?_map, HFm.out, Option.map_some] at hcX; have hfr := World.ownsRow.frozenAt hrow (H.length + m); have hst := World.ownsRow.stored hrow (H.length + m) (.int .u8 ((Y ^^^ by_).toNat : Int)); have Hst := Lib.hid hst; have Hx3 := Lib.hid hx3; clear hst hrow hown3 hx3)
    rw [UInt8.toNat_xor] at Hst
    have hoS : Own (w3.setCell ⟨g, H.length + m, none⟩ (.int .u8 ((Y.toNat ^^^ by_.toNat : Nat) : Int))) w2.heap.size (.slice (some ⟨g, 0, none⟩) (H.length + (4 + ps.length)) cap) (H ++ L') := by
      have h := Hst.out.1
      rw [← UInt8.toNat_xor, ← bv_set, HFs.out, hNF] at h
      unfold Own
      rw [List.length_append, hlS, ← UInt8.toNat_xor]
      exact h
    have hxS : Ext w2 (w3.setCell ⟨g, H.length + m, none⟩ (.int .u8 ((Y.toNat ^^^ by_.toNat : Nat) : Int))) := Hx3.out.grown (row := some g) Hst.out.2 Hx3.out.size (fun k hk => by cases hk; exact hgb)
    clear Hst hcX hfr hxx
    generalize w3.setCell ⟨g, H.length + m, none⟩ (.int .u8 ((Y.toNat ^^^ by_.toNat : Nat) : Int)) = w4 at hoS hxS
    have hx4 := H2.out.trans hxS
    refine (cut_any w4 w4.heap.size vr rs0 ((hr.ext (Nat.le_refl _) hx4).more hx4.size)).mono ?_
    rintro e w' ⟨r, rfl, hr2, rfl⟩
    have lr : (rs0.take 400).length ≤ 400 := by rw [List.length_take]; omega
    have hfe := Htu.out (rs0.take 400)
    generalize rs0.take 400 = rs at hr2 lr hfe
    have HoS := Lib.hid hoS
    have HxS := Lib.hid hxS
    have Hr2 := Lib.hid hr2
    have Hx4 := Lib.hid hx4
    have Hfe := Lib.hid hfe
    clear hoS hxS hr2 hx4 hfe
    have hl2 : (H ++ L').length ≤ 1000 := by rw [List.length_append]; omega
    rw [← List.append_assoc] at Hfe
    generalize H ++ L' = G at HoS Hfe hl2
    go_wp2_with (at_builtin; refine wpList_append_bytes _ rfl (.tmp 68) (.tmp 70) rfl w2.heap.size (.slice (some ⟨g, 0, none⟩) (H.length + (4 + ps.length)) cap) G rfl HoS.out w4.heap.size r rs rfl Hr2.out (by omega) HxS.out.size ?_; intro v5 w5 hown5 hg5 _; have hx5 : Ext w2 w5 := HxS.out.grown hg5 HxS.out.size (own_ge HoS.out))
    refine (fget_any w5 v5 (G ++ rs) (Own.bs hown5) (by rw [List.length_append]; omega)).mono ?_
    rintro e w6 ⟨p, q, rfl, _, _, hx6⟩
    rw [Hfe.out]
    have Hx6 := Lib.hid ((H2.out.trans hx5).trans hx6)
    clear hown5 hg5 hx5 hx6
    go_wp2_with fail
    refine (awake_any _).mono ?_
    rintro e w7 ⟨rfl, hx7⟩
    go_wp2
    go_ret
    exact ⟨rfl, Hx6.out.trans hx7⟩

end Go.Proofs.Ytgipbkfpfidpmaa
