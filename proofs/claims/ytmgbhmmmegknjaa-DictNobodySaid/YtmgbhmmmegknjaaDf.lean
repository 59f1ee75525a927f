/-
  Laws of a text's pieces; append of bytes at a step of a drawn region; the reference's num, block.
  Conditions: those of each statement.
-/
import Derived.Test.YtmgbhmmmegknjaaDd
import Derived.Test.YtmgbhmmmegknjaaGr
import Derived.Deep.RegionHeld3
import Derived.Deep.DrawnRows
namespace Go.Proofs.Ytmgbhmmmegknjaa
open Go.RowKit Go.Op

theorem run_from (w : World) (l : List UInt8) (i : Nat) (h : i ≤ l.length) :
    (Instr.slice 9 (.string ⟨l.toArray⟩) (some (.int .i64 (i : Nat))) none none).run Try.prog w = .ok (.string ⟨(l.drop i).toArray⟩) w := by
  have hu := Try.underlying9
  have hs : (ByteArray.mk l.toArray).size = l.length := by show l.toArray.size = _; simp
  have e : (ByteArray.mk l.toArray).extract i l.length = ⟨(l.drop i).toArray⟩ := by
    rw [ByteArray.extract_mk, List.take_of_length_le (by rw [List.length_drop]; omega)]
  simp [Instr.slice, Instr.sliceBounds, Instr.sliceBound, asIntOf, run_underlying hu, hs, h, e]
theorem run_upto (w : World) (l : List UInt8) (i : Nat) (h : i ≤ l.length) :
    (Instr.slice 9 (.string ⟨l.toArray⟩) none (some (.int .i64 (i : Nat))) none).run Try.prog w = .ok (.string ⟨(l.take i).toArray⟩) w := by
  have hu := Try.underlying9
  have hs : (ByteArray.mk l.toArray).size = l.length := by show l.toArray.size = _; simp
  have e : (ByteArray.mk l.toArray).extract 0 i = ⟨(l.take i).toArray⟩ := by
    rw [ByteArray.extract_mk]
    simp
  simp [Instr.slice, Instr.sliceBounds, Instr.sliceBound, asIntOf, run_underlying hu, hs, h, e]

section
variable (w : World) {ops : Array Oper} {o : Oper} {a : Act}
theorem step_append_bytes {K : Act → World → Prop} {Q : Exit → Act → World → Prop} {E : Prop} (hgd : o.guard = none) (s x : Operand)
    (ho : o.op = .call { callee := .builtin .append, args := #[s, x], argTypes := #[23, 23] })
    (base : Nat) (v : Value) (xs : List UInt8) (hs : a.eval s = v) (hown : Own w base v xs)
    (B : Nat) (u : Value) (ys : List UInt8) (hx : a.eval x = u) (hr : BS w B u ys)
    (hlen : xs.length + ys.length ≤ 100000000) (hbase : base ≤ w.heap.size)
    (h : ∀ v' w', Own w' base v' (xs ++ ys) → w.grownBy w' v.ownBlock → (v'.ownBlock = v.ownBlock ∨ v'.ownBlock = some w.heap.size) → K (a.put o.dst v') w') :
    if Region.wanted o (yielded ops a.tmps) = true then Oper.wp Try.prog o a w K Q else E := by
  have hw : Region.wanted o (yielded ops a.tmps) = true := by simp [Region.wanted, hgd]
  rw [if_pos hw]
  obtain ⟨i0, hi0, hz0, hz1, hz2⟩ := info_parts info_u8
  obtain ⟨A, c, rfl, _, _, _, hr⟩ := hr
  obtain ⟨v', w', hrun, h2, h3, h4⟩ := run_append_rd (P := Try.prog) w base 23 o.type _ i0 _ 1 1 Try.underlying23 hi0 hz0 hz1 hz2 rfl (by omega) v _ _ hown B A _ c _ hr (bv_one ys) (by simp only [maxLen]; omega) (by omega) hbase
  unfold Oper.wp execOp
  simp only [ho, resolve, invoke, builtin, Sem.run_bind, Sem.run_pure, Result.andThen_ok, List.map_toArray, List.map_cons, List.map_nil, hs, hx, hrun]
  refine h v' w' ?_ h3 h4
  unfold Own
  rw [bv_append, List.length_append]
  exact h2
end

theorem num_any (w : World) (x : Int) (h0 : 0 ≤ x) (h1 : x ≤ 67108864) :
    Calls Try.prog 27 #[.int .i64 x] w fun e w' => ∃ v, e = .returned v ∧ Own w' w.heap.size v (enc x.toNat) ∧ Ext w w' := by
  obtain ⟨n, rfl⟩ : ∃ n : Nat, x = n := ⟨x.toNat, by omega⟩
  have hu : U64 n := U64.mk (by omega)
  rw [Int.toNat_natCast]
  go_enter Try.func27, Try.ntmps27
  go_wp2_with fail
  refine (bytes_any n n w (Nat.le_refl _) hu).mono ?_
  rintro e w1 ⟨v1, rfl, ho1, hx1⟩
  have Ho1 := Lib.hid ho1
  have Hx1 := Lib.hid hx1
  clear ho1 hx1
  go_wp2
  go_ret
  exact ⟨_, rfl, Ho1.out, Hx1.out⟩

end Go.Proofs.Ytmgbhmmmegknjaa
