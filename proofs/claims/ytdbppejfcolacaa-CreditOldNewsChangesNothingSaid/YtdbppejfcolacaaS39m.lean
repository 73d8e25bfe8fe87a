/-
  Chapter 39: what putting a row or a coin in its place keeps. No program in sight. No condition.
-/
import Derived.Test.YtdbppejfcolacaaS39r
import Derived.Test.YtdbppejfcolacaaS39cf
namespace Go.Proofs.S39
open Go Go.Ev Go.Proofs
set_option linter.unusedSimpArgs false
set_option linter.unusedVariables false
theorem at_set {l : List Q4} {k : Nat} {x : Q4} (hk : k < l.length) (j : Nat) : at' (l.set k x) j = if j = k then x else at' l j := by
  unfold at'
  rw [List.getD_eq_getElem?_getD, List.getD_eq_getElem?_getD, List.getElem?_set]
  by_cases h : k = j
  · subst h; simp [hk]
  · rw [if_neg h, if_neg (fun e => h e.symm)]
theorem putL_set {l : List Q4} {k : Nat} {x : Q4} (hk : k < l.length) (hc : (at' l k).cmp x = 0) : putL l k x = l.set k x := by
  rw [putL, if_pos ⟨hk, hc⟩, List.set_eq_take_append_cons_drop, if_pos hk]
/-- Nothing is new but what came back, which is no less. -/
structure Upd (l : List Q4) (k : Nat) (x : Q4) : Prop where
  lt : k < l.length
  w : x.w = (at' l k).w
  g : x.g = (at' l k).g
  d : x.d = (at' l k).d
  lo : (at' l k).b ≤ x.b
  hi : x.b ≤ x.d
section
variable {l : List Q4} {k : Nat} {x : Q4} (h : Upd l k x)
include h
theorem upd_w (j : Nat) : (at' (l.set k x) j).w = (at' l j).w := by rw [at_set h.lt]; split <;> simp_all [h.w]
theorem upd_g (j : Nat) : (at' (l.set k x) j).g = (at' l j).g := by rw [at_set h.lt]; split <;> simp_all [h.g]
theorem upd_d (j : Nat) : (at' (l.set k x) j).d = (at' l j).d := by rw [at_set h.lt]; split <;> simp_all [h.d]
theorem upd_b (j : Nat) : (at' l j).b ≤ (at' (l.set k x) j).b := by
  rw [at_set h.lt]; split
  · rename_i e; subst e; exact h.lo
  · exact Int.le_refl _
theorem upd_cmp (j : Nat) (y : Q4) : (at' (l.set k x) j).cmp y = (at' l j).cmp y := by simp only [Q4.cmp, upd_w h, upd_g h]
theorem upd_sum : ∀ i, sumF (l.set k x) i ≤ sumF l i
  | 0 => Int.le_refl _
  | i + 1 => by
    have h1 := upd_sum i
    have h2 := upd_b h i
    rw [sumF, sumF, upd_w h, upd_w h, upd_d h]
    split <;> omega
theorem upd_out (w : Int) : ∀ i, outF (l.set k x) w i ≤ outF l w i
  | 0 => Int.le_refl _
  | i + 1 => by
    have h1 := upd_out w i
    have h2 := upd_b h i
    rw [outF, outF, upd_w h, upd_d h]
    split <;> omega
theorem upd_lb {y : Q4} {k' : Nat} (hk : Lb l y k') : Lb (l.set k x) y k' :=
  ⟨by rw [List.length_set]; exact hk.le, fun t ht => by rw [upd_cmp h]; exact hk.lo t ht, fun t h1 h2 => by rw [upd_cmp h]; exact hk.hi t h1 (by rwa [List.length_set] at h2)⟩
theorem upd_vb {c len : Int} (hv : VB c len l) : VB c len (l.set k x) :=
  ⟨hv.c, hv.n, by rw [List.length_set]; exact hv.r, fun i hi => by
    rw [List.length_set] at hi
    have h0 := hv.ok i hi
    refine ⟨by rw [upd_w h]; exact h0.w, by rw [upd_g h]; exact h0.g, by rw [upd_d h]; exact h0.d, ?_, fun hp => ?_, Int.le_trans (upd_sum h _) h0.s⟩
    · rw [upd_d h, at_set h.lt]
      split
      · rename_i e; subst e
        have := h0.b; have := h.lo; have := h.hi; have := h.d; omega
      · exact h0.b
    · have := h0.o hp
      rw [upd_cmp h]
      simp only [Q4.cmp, upd_w h, upd_g h] at this ⊢
      exact this⟩
end
/-- What came back makes an update. -/
theorem back_upd {c len : Int} {l : List Q4} (hv : VB c len l) {k : Nat} {w g t : Int} (hkn : Kn l k w g) (ht : t ≤ (at' l k).d) : Upd l k (back l k w g t) := by
  have hb := (hv.ok k hkn.1).b
  have hc := cmp_eq.1 hkn.2
  refine ⟨hkn.1, hc.1.symm, hc.2.symm, by rw [back, rowOr_kn hkn], ?_, ?_⟩
  · rw [back, rowOr_kn hkn]; simp only [mx]; split <;> omega
  · rw [back, rowOr_kn hkn]; simp only [mx]; split <;> omega
theorem ret_set {l : List Q4} {k : Nat} {w g t : Int} (hkn : Kn l k w g) : retL l k w g t = l.set k (back l k w g t) := by
  rw [retL, if_pos hkn, putL_set hkn.1]
  have := cmp_eq.1 hkn.2
  exact cmp_eq.2 ⟨this.1, this.2⟩
theorem ret_nkn {l : List Q4} {k : Nat} {w g t : Int} (hkn : ¬ Kn l k w g) : retL l k w g t = l := by rw [retL, if_neg hkn]
/-- Old news. -/
theorem ret_old {c len : Int} {l : List Q4} (hv : VB c len l) {k : Nat} {w g hi : Int} (hk : Lb l (key w g) k) (ha : RArg l k w g hi) :
    VB c len (retL l k w g hi) ∧ Lb (retL l k w g hi) (key w g) k ∧ outF (retL l k w g hi) w (retL l k w g hi).length ≤ outF l w l.length ∧
    ∀ t, 0 ≤ t → t ≤ hi → RArg (retL l k w g hi) k w g t ∧ retL (retL l k w g hi) k w g t = retL l k w g hi := by
  by_cases hkn : Kn l k w g
  · have hd := ha.ht
    rw [rowOr_kn hkn] at hd
    have hu := back_upd hv hkn hd.2
    rw [ret_set hkn]
    have hkn2 : Kn (l.set k (back l k w g hi)) k w g := ⟨by rw [List.length_set]; exact hkn.1, by rw [upd_cmp hu]; exact hkn.2⟩
    have hat : at' (l.set k (back l k w g hi)) k = back l k w g hi := by rw [at_set hkn.1, if_pos rfl]
    have hbd : (back l k w g hi).d = (at' l k).d := by rw [back, rowOr_kn hkn]
    refine ⟨upd_vb hu hv, upd_lb hu hk, by rw [List.length_set]; exact upd_out hu w _, fun t h0 h1 => ?_⟩
    refine ⟨⟨ha.hw, ha.hg, by rw [rowOr_kn hkn2, hat, hbd]; omega⟩, ?_⟩
    rw [ret_set hkn2]
    have e : back (l.set k (back l k w g hi)) k w g t = back l k w g hi := by
      rw [back, rowOr_kn hkn2, hat]
      simp only [back, mx, rowOr_kn hkn]
      congr 1
      split <;> split <;> omega
    rw [e, List.set_set]
  · have hd := ha.ht
    rw [rowOr_nkn hkn] at hd
    simp only at hd
    rw [ret_nkn hkn]
    exact ⟨hv, hk, Int.le_refl _, fun t h0 h1 => ⟨⟨ha.hw, ha.hg, by rw [rowOr_nkn hkn]; simp only; omega⟩, ret_nkn hkn⟩⟩
end Go.Proofs.S39
