/-
  Slices of ints.
  Conditions: those of each statement.
-/
import Derived.Test.YtccmhjlniljhcaaSv
namespace Go.Proofs.Ytccmhjlniljhcaa
open Go.RowKit

/-! ### ints -/
def iv (zs : List Int) : List Value := zs.map (Value.int .i64)
theorem iv_length (zs : List Int) : (iv zs).length = zs.length := by simp [iv]
theorem iv_append (a b : List Int) : iv (a ++ b) = iv a ++ iv b := by simp [iv]
theorem iv_one (zs : List Int) : ∀ u ∈ iv zs, u.oneCell' = true := by
  intro u hu
  simp only [iv, List.mem_map] at hu
  obtain ⟨b, _, rfl⟩ := hu
  rfl
theorem iv_get (zs : List Int) (i : Nat) (h : i < zs.length) : (iv zs)[i]? = some (.int .i64 zs[i]) := by simp [iv, h]
theorem iv_take (zs : List Int) (k : Nat) : iv (zs.take k) = (iv zs).take k := by simp [iv, List.map_take]
theorem iv_drop (zs : List Int) (k : Nat) : iv (zs.drop k) = (iv zs).drop k := by simp [iv, List.map_drop]
/-- v is a slice of ints that reads as zs -/
def IS (w : World) (B : Nat) (v : Value) (zs : List Int) : Prop := SV w B 1 v zs.length (iv zs)
/-- .. of the call's own -/
def IOwn (w : World) (base : Nat) (v : Value) (zs : List Int) : Prop := w.ownsRow base 3 1 v zs.length (iv zs)
theorem IS.nil_ (w : World) (B : Nat) : IS w B (.slice none 0 0) [] := SV.nil_ w B 1
theorem IOwn.nil_ (w : World) (base : Nat) : IOwn w base (.slice none 0 0) [] := World.ownsRow_nil _ _ _ _
theorem IOwn.is {w : World} {base : Nat} {v : Value} {zs : List Int} (h : IOwn w base v zs) : IS w w.heap.size v zs := SV.of_own h
theorem IOwn.ext {w w' : World} {base : Nat} {v : Value} {zs : List Int} (h : IOwn w base v zs) (hb : Ext w w') : IOwn w' base v zs := ownsRow_ext h hb
theorem IS.ext {w w' : World} {B : Nat} {v : Value} {zs : List Int} (h : IS w B v zs) (hB : B ≤ w.heap.size) (hb : Ext w w') : IS w' B v zs := SV.ext h hB hb
theorem IS.below {w w' : World} {B : Nat} {v : Value} {zs : List Int} (h : IS w B v zs) (hb : Below B w w') : IS w' B v zs := SV.below h hb
theorem IS.more {w : World} {B B' : Nat} {v : Value} {zs : List Int} (h : IS w B v zs) (hB : B ≤ B') : IS w B' v zs := SV.more h hB
theorem IS.take_ {w : World} {B c : Nat} {A : Option Addr} {zs : List Int} (h : IS w B (.slice A zs.length c) zs) {k : Nat} (hk : k ≤ zs.length) : IS w B (.slice A k c) (zs.take k) := by
  have := SV.take_ h hk
  unfold IS
  rw [iv_take, List.length_take, Nat.min_eq_left hk]
  simpa using this
/-- the one int of 'append(l, x)' -/
theorem IS.one (w : World) (x : Int) : IS (w.alloc (.cells #[.int .i64 x] 3)) (w.heap.size + 1) (.slice (some ⟨w.heap.size, 0, none⟩) 1 1) [x] :=
  SV.new_ w #[.int .i64 x] _ 1 1 rfl
theorem info_int : (Try.prog.info? 3).map (fun i => (i.zero, i.size, i.bytes)) = some (some (.int .i64 0), 1, 8) := by kernel_rfl
section
variable (w : World) {ops : Array Oper} {rest : List Oper} {o : Oper} {a : Act} {Q : Exit → Act → World → Prop}
theorem wpList_append_ints (hgd : o.guard = none) (s x : Operand)
    (ho : o.op = .call { callee := .builtin .append, args := #[s, x], argTypes := #[39, 39] })
    (base : Nat) (v : Value) (xs : List Int) (hs : a.eval s = v) (hown : IOwn w base v xs)
    (B : Nat) (u : Value) (ys : List Int) (hx : a.eval x = u) (hr : IS w B u ys)
    (hlen : xs.length + ys.length ≤ 100000000) (hbase : base ≤ w.heap.size)
    (h : ∀ v' w', IOwn w' base v' (xs ++ ys) → w.grownBy w' v.ownBlock → (v'.ownBlock = v.ownBlock ∨ v'.ownBlock = some w.heap.size) → wpList Try.prog ops Q rest (a.put o.dst v') w') : wpList Try.prog ops Q (o :: rest) a w := by
  refine wpList_append_sv w hgd s x _ ho base _ _ 1 8 Try.underlying39 info_int rfl (by omega) v _ _ hs hown B u _ _ hx hr (iv_one ys) (by omega) (by omega) hbase fun v' w' h2 h3 h4 => h v' w' ?_ h3 h4
  unfold IOwn
  rw [iv_append, List.length_append]
  exact h2
end

end Go.Proofs.Ytccmhjlniljhcaa
