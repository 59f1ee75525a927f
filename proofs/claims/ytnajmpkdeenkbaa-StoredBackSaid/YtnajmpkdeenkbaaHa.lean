/-
  Plain law: no beginning of a stored row's bytes is a row's.
  Conditions: at most 2^40 bytes.
-/
import Derived.Test.YtnajmpkdeenkbaaEs
namespace Go.Proofs.Ytnajmpkdeenkbaa
open Go.Op

theorem senc_prefix {l m : List Doc} (hl : Row l) (hm : Row m) (hs : (senc l).length ≤ 1099511627776) {x : List UInt8} (h : senc m ++ x = senc l) : x = [] := by
  obtain ⟨l1, l2⟩ := hl.from_
  obtain ⟨m1, m2⟩ := hm.from_
  have b1 := dby_le_senc l
  have b2 := dby_le_senc m
  have b3 := congrArg List.length h
  rw [List.length_append] at b3
  unfold senc at h
  simp only [List.append_assoc] at h
  obtain ⟨_, e1, e2⟩ := vg_cons (n := m.length) (by omega) (encs (hns m (nbk m.length)) ++ (dby 0 m ++ x))
  obtain ⟨_, f1, f2⟩ := vg_cons (n := l.length) (by omega) (encs (hns l (nbk l.length)) ++ dby 0 l)
  rw [h] at e1 e2
  have hn := e1.symm.trans f1
  have hr := e2.symm.trans f2
  obtain ⟨_, hd⟩ := encs_inj (by rw [hns_len, hns_len, hn]) (fun n hn => by have := hns_small m1 (by omega) _ n hn; omega) (fun n hn => by have := hns_small l1 (by omega) _ n hn; omega) hr
  obtain ⟨m', e, hx⟩ := dby_pre (m1.docsR (by decide)) (l1.docsR (by decide)) (by omega) hd
  have h0 : m'.length = 0 := by
    have := congrArg List.length e
    rw [List.length_append] at this
    omega
  rw [hx, List.eq_nil_of_length_eq_zero h0]
  rfl
theorem senc_begin {l : List Doc} (hl : Row l) (hs : (senc l).length ≤ 1099511627776) {k : Nat} (hk : k < (senc l).length) : NoRow ((senc l).take k) := by
  intro m hm h
  have h2 := senc_prefix hl hm hs (x := (senc l).drop k) (by rw [h, List.take_append_drop])
  have := congrArg List.length h2
  rw [List.length_drop, List.length_nil] at this
  omega
theorem dec_begin {l m : List Doc} {k E : Nat} (hl : Row l) (hb : (senc l).length ≤ 1099511627776) (hk : k < (senc l).length) (h : DecIs ((senc l).take k) m E) : E = 120 := by
  rcases h with ⟨h1, h2, _⟩ | ⟨_, _, h⟩
  · exact absurd h2 (senc_begin hl hb hk m h1)
  · exact h
theorem senc_pos (l : List Doc) : 0 < (senc l).length := Nat.lt_of_le_of_lt (Nat.zero_le _) (senc_len l)
end Go.Proofs.Ytnajmpkdeenkbaa
