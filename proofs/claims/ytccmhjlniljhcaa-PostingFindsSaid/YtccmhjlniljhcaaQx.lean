/-
  Plain law: no beginning of a row's bytes is a row's.
  Conditions: at most 20,000 bytes.
-/
import Derived.Test.YtccmhjlniljhcaaQn
namespace Go.Proofs.Ytccmhjlniljhcaa

/-- a row's bytes, with whatever behind -/
theorem parse_tail {l : List Post} (hok : psOk l = true) (hw : wt l ≤ 1000000) (r : List UInt8) : parse 1000000 65536 1000000 65536 1000000 1048576 (fun _ => true) (fun _ _ => true) (penc l ++ r) = some l := by
  obtain ⟨hdoc, hpos⟩ := psOk_spec hok
  have hwl := wt_len l
  have hbl := (blks_len l.length (-1) l hdoc (fun p hp => (hpos p hp).2) (by decide) hw).2
  unfold parse penc
  rw [List.append_assoc, List.append_assoc, num_enc (by omega) (by omega)]
  simp only
  rw [if_pos trivial]
  have hh := hds_blks 65536 1000000 (by decide) l.length (-1) l ((blks l.length (-1) l).2 ++ r) hdoc (fun p hp => (hpos p hp).2) (by decide) hw (fun m hm => by omega)
  rw [show (l.length + 31) / 32 - ((l.length - 32 * l.length + 31) / 32) = (l.length + 31) / 32 from by omega] at hh
  rw [hh]
  simp only
  rw [blks_body l.length (-1) l (by omega)]
  have hp := posts_psby 65536 1000000 1048576 (fun _ _ => true) (by decide) (by decide) (by decide) (fun _ _ => rfl) l (-1) r hdoc (fun p hp => ⟨(hpos p hp).2, by have := wt_mem hp; omega⟩) (by decide) (by decide)
  rw [hp]
  rfl
theorem penc_prefix {l m : List Post} (hl : psOk l = true) (hm : psOk m = true) (hwl : wt l ≤ 1000000) (hwm : wt m ≤ 1000000) {r : List UInt8} (h : penc l = penc m ++ r) : r = [] := by
  have h1 := parse_tail hl hwl []
  have h2 := parse_tail hm hwm r
  rw [List.append_nil, h] at h1
  rw [h1] at h2
  injection h2 with h2
  subst h2
  have := congrArg List.length h
  rw [List.length_append] at this
  exact List.eq_nil_of_length_eq_zero (by omega)
/-- a beginning is none's -/
theorem dec_begin {l m : List Post} {k E : Nat} (hl : psOk l = true) (hb : (penc l).length ≤ 20000) (hk : k < (penc l).length) (h : DecIs ((penc l).take k) m E) : E = 80 := by
  rcases h with ⟨_, h1, h2⟩ | ⟨h, _⟩
  · exfalso
    have h3 : penc l = penc m ++ (penc l).drop k := by rw [h2, List.take_append_drop]
    have e1 := (penc_len l).1
    have e2 := (penc_len m).1
    have e3 := congrArg List.length h2
    rw [List.length_take] at e3
    have := penc_prefix hl h1 (by omega) (by omega) h3
    have := congrArg List.length this
    rw [List.length_drop, List.length_nil] at this
    omega
  · exact h
theorem penc_few {l : List Post} (hok : psOk l = true) (hw : wt l ≤ 15400) (hl : l.length ≤ 100) : (penc l).length ≤ 20000 ∧ 0 < (penc l).length := by
  obtain ⟨hdoc, hpos⟩ := psOk_spec hok
  have h := blks_len l.length (-1) l hdoc (fun p hp => (hpos p hp).2) (by decide) (by omega)
  have h1 := enc_len10 (n := l.length) (U64.mk (by omega))
  have h2 := enc_pos l.length
  unfold penc
  rw [List.length_append, List.length_append]
  omega

end Go.Proofs.Ytccmhjlniljhcaa
