/-
  Chapter 16: who is the victim. No condition; no program.
-/
import Derived.Test.YtjkgmpckddolfaaW16n
import Derived.Test.YtjkgmpckddolfaaW16m
set_option linter.unusedVariables false
set_option linter.unusedSimpArgs false
set_option linter.unusedSectionVars false
namespace Go.Proofs.S16
open Go Go.Ev Go.Proofs
set_option linter.unusedSimpArgs false
set_option linter.unusedVariables false
set_option linter.unusedSectionVars false
variable {l : List A3} {c m v : Int} {k : Nat}
theorem bst_cases (l : List A3) (g : List Int) (k : Nat) : ∀ i, (bst l g k i = (0, 0) ∧ ∀ j, j < i → j ≠ k → (aat l j).u ≤ nat g j) ∨ ∃ j, j < i ∧ j ≠ k ∧ bst l g k i = ((aat l j).t, (aat l j).u - nat g j) ∧ nat g j < (aat l j).u
  | 0 => .inl ⟨rfl, fun j hj => absurd hj (Nat.not_lt_zero j)⟩
  | i + 1 => by
    by_cases h : i ≠ k ∧ (bst l g k i).2 < (aat l i).u - nat g i
    · refine .inr ⟨i, by omega, h.1, by rw [bst, if_pos h], ?_⟩
      have := bst_nn l g k i
      have := h.2; omega
    · have e : bst l g k (i + 1) = bst l g k i := by rw [bst, if_neg h]
      rw [e]
      rcases bst_cases l g k i with ⟨h1, h2⟩ | ⟨j, h1, h2, h3, h4⟩
      · refine .inl ⟨h1, fun j hj hjk => ?_⟩
        by_cases hji : j = i
        · subst hji
          have h5 : ¬ (bst l g k j).2 < (aat l j).u - nat g j := fun h' => h ⟨hjk, h'⟩
          rw [h1] at h5
          simp only at h5; omega
        · exact h2 j (by omega) hjk
      · exact .inr ⟨j, by omega, h2, h3, h4⟩
theorem sumG_X {l : List S2} {g : List Int} {N : Nat} (h : ∀ i, i < N → nat g i = (sat l i).x) : ∀ {i : Nat}, i ≤ N → sumG g i = sumX l i
  | 0, _ => rfl
  | i + 1, hi => by rw [sumG, sumX, sumG_X h (show i ≤ N by omega), h i (by omega)]
theorem sumX_wnt (hx : mn 1099511627776 ((aat l k).u + v) = (aat l k).u + v) : ∀ {i : Nat}, i ≤ l.length → sumX (wnt l k v) i = sumU l i + if k < i then v else 0
  | 0, _ => by simp [sumX, sumU]
  | i + 1, hi => by
    have ih := sumX_wnt hx (show i ≤ l.length by omega)
    rw [sumX, sumU, ih, sat_wnt (show i < l.length by omega)]
    simp only
    by_cases e : i = k
    · subst e; rw [if_pos rfl, hx, if_neg (by omega), if_pos (by omega)]; omega
    · rw [if_neg e]
      by_cases h : k < i
      · rw [if_pos h, if_pos (by omega)]; omega
      · rw [if_neg h, if_neg (by omega)]; omega
theorem sumW_wnt {i : Nat} (hi : i < l.length) : sumW (wnt l k v) (i + 1) = sumW (wnt l k v) i + (aat l i).w := by
  rw [sumW, sat_wnt hi]
theorem w_le_W {l : List S2} (hv : VS l) : ∀ {i j : Nat}, i ≤ l.length → j < i → (sat l j).w ≤ sumW l i
  | i + 1, j, hi, hj => by
    have h1 := (hv.ok i (by omega)).w
    have h2 := sumW_bd hv (show i ≤ l.length by omega)
    rw [sumW]
    by_cases e : j = i
    · subst e; omega
    · have := w_le_W hv (show i ≤ l.length by omega) (show j < i by omega); omega
section
variable (hv : VA l) (hk : k < l.length) (hc : 0 ≤ c ∧ c ≤ 1099511627776) (hvv : 0 ≤ v ∧ v ≤ 1099511627776) (h : Lv (wnt l k v) c m)
include hv hk hc hvv h
theorem part_bd {i : Nat} (hi : i < l.length) : 0 ≤ (aat l i).w * (c / sumW (wnt l k v) l.length) ∧ (aat l i).w * (c / sumW (wnt l k v) l.length) ≤ 1152921504607895552 := by
  have hw := wnt_valid hv (k := k) hvv
  have h1 := part_le hw hc h (by rw [wnt_length]; omega)
  have h2 := mul_bd (hw.ok i (by rw [wnt_length]; exact hi)) (m := c / sumW (wnt l k v) l.length) (by rw [wnt_length] at h1; have := h.hi; omega)
  rw [sat_wnt hi] at h2
  exact h2
theorem over_part (hg : nat (gets (wnt l k v) m c l.length) k < (aat l k).u + v) : (aat l k).w * (c / sumW (wnt l k v) l.length) < (aat l k).u + v := by
  have hw := wnt_valid hv (k := k) hvv
  rcases Int.lt_or_le ((aat l k).w * (c / sumW (wnt l k v) l.length)) ((aat l k).u + v) with h1 | h1
  · exact h1
  · exfalso
    have h2 := part_le hw hc h (by rw [wnt_length]; omega)
    have h3 := w_le_W hw (Nat.le_refl _) (show k < (wnt l k v).length by rw [wnt_length]; exact hk)
    have h4 := gets_part hw hc h (i := k) (by rw [wnt_length]; exact hk)
    rw [wnt_length] at h2 h3 h4
    rw [sat_wnt hk] at h3 h4
    simp only [if_true] at h3 h4
    have h5 := Int.mul_le_mul_of_nonneg_right h3 h2.1
    have h6 : mn 1099511627776 ((aat l k).u + v) = (aat l k).u + v := by unfold mn; split <;> omega
    rw [h6] at h4
    have := h4 hg; omega
theorem found (ht : c < sumU l l.length + v) (hg : ¬ nat (gets (wnt l k v) m c l.length) k < (aat l k).u + v) :
    ∃ j, j < l.length ∧ j ≠ k ∧ (bst l (gets (wnt l k v) m c l.length) k l.length).1 = (aat l j).t ∧ nat (gets (wnt l k v) m c l.length) j < (aat l j).u ∧ (aat l j).w * (c / sumW (wnt l k v) l.length) < (aat l j).u := by
  have hw := wnt_valid hv (k := k) hvv
  have ok := fun i (hi : i < l.length) => gets_ok hw h (i := i) (by rw [wnt_length]; exact hi)
  have hp := fun i (hi : i < l.length) => gets_part hw hc h (i := i) (by rw [wnt_length]; exact hi)
  have hs := gets_sum hw h
  rw [wnt_length] at ok hp hs
  rcases bst_cases l (gets (wnt l k v) m c l.length) k l.length with ⟨h1, h2⟩ | ⟨j, h1, h2, h3, h4⟩
  · exfalso
    generalize gets (wnt l k v) m c l.length = g at *
    have o := ok k hk
    have o1 := o.hi
    rw [sat_wnt hk] at o1
    simp only [if_true] at o1
    have h5 := mn_le 1099511627776 ((aat l k).u + v)
    have h6 : mn 1099511627776 ((aat l k).u + v) = (aat l k).u + v := by omega
    have e : ∀ i, i < l.length → nat g i = (sat (wnt l k v) i).x := fun i hi => by
      have a1 := (ok i hi).hi
      rw [sat_wnt hi] at a1 ⊢
      simp only at a1 ⊢
      by_cases e : i = k
      · subst e; rw [if_pos rfl] at a1 ⊢; omega
      · rw [if_neg e] at a1 ⊢; have := h2 i hi e; omega
    have e1 := sumG_X e (Nat.le_refl l.length)
    have e2 := sumX_wnt h6 (Nat.le_refl l.length)
    rw [if_pos hk] at e2
    have e3 := mn_le c (sumX (wnt l k v) l.length)
    omega
  · refine ⟨j, h1, h2, by rw [h3], h4, ?_⟩
    have a := hp j h1
    rw [sat_wnt h1] at a
    simp only [if_neg h2] at a
    have := a h4; omega
end
end Go.Proofs.S16
