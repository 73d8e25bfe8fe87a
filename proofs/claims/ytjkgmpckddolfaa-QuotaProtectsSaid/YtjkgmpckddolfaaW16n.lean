/-
  Chapter 16: what is true of a division. No condition; no program.
-/
import Derived.Test.YtjkgmpckddolfaaW16e
set_option linter.unusedVariables false
set_option linter.unusedSimpArgs false
set_option linter.unusedSectionVars false
namespace Go.Proofs.S16
open Go Go.Ev Go.Proofs
set_option linter.unusedSimpArgs false
set_option linter.unusedVariables false
variable {l : List S2} {c m : Int}
/-- What a share gets more at the next level. -/
theorem at1_next {s : S2} (h : SOk s) {m : Int} (hm : 0 ≤ m ∧ m ≤ 1099511627776) : at1 s (m + 1) = at1 s m + mn s.w (s.x - at1 s m) := by
  have h1 := h.w; have h2 := h.x
  have e : s.w * (m + 1) = s.w * m + s.w := by rw [Int.mul_add, Int.mul_one]
  unfold at1 mn
  rw [e]
  repeat' split
  all_goals omega
theorem at1_MB {s : S2} (h : SOk s) : at1 s 1099511627776 = s.x := by
  have h1 := h.w; have h2 := h.x
  have : 1 * 1099511627776 ≤ s.w * 1099511627776 := Int.mul_le_mul_of_nonneg_right h1.1 (by decide)
  unfold at1 mn; split <;> omega
theorem all_MB (hv : VS l) : ∀ {i : Nat}, i ≤ l.length → allF l 1099511627776 i = sumX l i
  | 0, _ => rfl
  | i + 1, h => by rw [allF, sumX, all_MB hv (show i ≤ l.length by omega), at1_MB (hv.ok i (by omega))]
theorem all_le_X (hv : VS l) {q : Int} (hq : 0 ≤ q ∧ q ≤ 1099511627777) : ∀ {i : Nat}, i ≤ l.length → allF l q i ≤ sumX l i
  | 0, _ => Int.le_refl _
  | i + 1, h => by
    have h1 := all_le_X hv hq (show i ≤ l.length by omega)
    have h2 := at1_bd (hv.ok i (by omega)) hq
    rw [allF, sumX]; omega
theorem lv_le (hv : VS l) {q : Int} (h : Lv l c m) (hq : q ≤ 1099511627776) (hle : allF l q l.length ≤ c) : q ≤ m := by
  rcases Int.lt_or_le m q with h1 | h1
  · have h2 := all_mono hv (show m + 1 ≤ q by omega) (Nat.le_refl _)
    rcases h.gt with h3 | h3 <;> omega
  · exact h1
/-- What is left after i shares. -/
theorem lef_eq (hv : VS l) (h : Lv l c m) : ∀ {i : Nat}, i ≤ l.length → lef l m c i = (let d := c - allF l m l.length - (allF l (m + 1) i - allF l m i); if 0 < d then d else 0)
  | 0, _ => by
    have := h.le
    show c - allF l m l.length = if 0 < c - allF l m l.length - (0 - 0) then c - allF l m l.length - (0 - 0) else 0
    rw [Int.sub_zero, Int.sub_zero]; split <;> omega
  | i + 1, hi => by
    have h0 := h.lo; have h00 := h.hi
    have ih := lef_eq hv h (show i ≤ l.length by omega)
    have h1 := at1_next (hv.ok i (by omega)) ⟨h0, h00⟩
    have h2 := at1_bd (hv.ok i (by omega)) (show 0 ≤ m ∧ m ≤ 1099511627777 by omega)
    have h3 := (hv.ok i (by omega)).w
    have h4 := (hv.ok i (by omega)).x
    simp only at ih ⊢
    rw [lef, ih, allF, allF, h1]
    unfold mor mn
    generalize at1 (sat l i) m = A at *
    generalize allF l m l.length = B at *
    generalize allF l (m + 1) i = C at *
    generalize allF l m i = D at *
    repeat' split
    all_goals omega
theorem sumG_eq (hv : VS l) : ∀ {i : Nat}, i ≤ l.length → sumG (gets l m c l.length) i = allF l m i + (c - allF l m l.length) - lef l m c i
  | 0, _ => by simp only [sumG, allF, lef]; omega
  | i + 1, hi => by
    have ih := sumG_eq hv (show i ≤ l.length by omega)
    rw [sumG, ih, gets_at l m c (show i < l.length by omega), get1, allF, lef]; omega
theorem get1_bd (hv : VS l) (h : Lv l c m) {i : Nat} (hi : i < l.length) : at1 (sat l i) m ≤ get1 l m c i ∧ get1 l m c i ≤ at1 (sat l i) (m + 1) ∧ get1 l m c i ≤ (sat l i).x ∧ 0 ≤ get1 l m c i := by
  have h0 := h.lo; have h00 := h.hi
  have h1 := at1_next (hv.ok i hi) ⟨h0, h00⟩
  have h2 := at1_bd (hv.ok i hi) (show 0 ≤ m ∧ m ≤ 1099511627777 by omega)
  have h3 := lef_bd hv h (show i ≤ l.length by omega)
  have h4 := mor_bd (hv.ok i hi) (show 0 ≤ m ∧ m ≤ 1099511627777 by omega) h3.1
  have h5 := mn_le (sat l i).w ((sat l i).x - at1 (sat l i) m)
  rw [get1]
  rcases h5.2.2 with h6 | h6 <;> omega
theorem gets_ok (hv : VS l) (h : Lv l c m) {i : Nat} (hi : i < l.length) : GOk (sat l i) (nat (gets l m c l.length) i) := by
  rw [gets_at l m c hi]
  have := get1_bd hv h hi
  exact ⟨this.2.2.2, this.2.2.1⟩
theorem gets_sum (hv : VS l) (h : Lv l c m) : sumG (gets l m c l.length) l.length = mn c (sumX l l.length) := by
  have h0 := h.lo; have h00 := h.hi
  have e := sumG_eq hv (c := c) (m := m) (Nat.le_refl l.length)
  have e2 := lef_eq hv h (Nat.le_refl l.length)
  simp only at e2
  have h1 := h.le
  have h2 := all_le_X hv (show 0 ≤ m ∧ m ≤ 1099511627777 by omega) (Nat.le_refl l.length)
  rcases h.gt with h3 | h3
  · subst h3
    have h4 := all_MB hv (Nat.le_refl l.length)
    have h5 : allF l (1099511627776 + 1) l.length ≤ sumX l l.length := all_le_X hv (by decide) (Nat.le_refl _)
    have h6 := all_mono hv (show (1099511627776 : Int) ≤ 1099511627776 + 1 by decide) (Nat.le_refl l.length)
    rw [e, e2]; unfold mn
    split <;> split <;> omega
  · have h5 := all_le_X hv (show 0 ≤ m + 1 ∧ m + 1 ≤ 1099511627777 by omega) (Nat.le_refl l.length)
    rw [e, e2]; unfold mn
    split <;> split <;> omega
/-- Below what is wanted, a share has its part at the level; none has more than at the next level. -/
theorem gets_lo (hv : VS l) (h : Lv l c m) {i : Nat} (hi : i < l.length) (hx : nat (gets l m c l.length) i < (sat l i).x) : (sat l i).w * m ≤ nat (gets l m c l.length) i := by
  rw [gets_at l m c hi] at hx ⊢
  have h1 := get1_bd hv h hi
  have h2 := mn_le ((sat l i).w * m) (sat l i).x
  have h3 : at1 (sat l i) m = mn ((sat l i).w * m) (sat l i).x := rfl
  rw [h3] at h1
  rcases h2.2.2 with h4 | h4 <;> omega
theorem gets_hi (hv : VS l) (h : Lv l c m) {i : Nat} (hi : i < l.length) : nat (gets l m c l.length) i ≤ (sat l i).w * (m + 1) := by
  rw [gets_at l m c hi]
  have h1 := get1_bd hv h hi
  have h2 := mn_le ((sat l i).w * (m + 1)) (sat l i).x
  have h3 : at1 (sat l i) (m + 1) = mn ((sat l i).w * (m + 1)) (sat l i).x := rfl
  rw [h3] at h1
  omega
theorem low_le (hv : VS l) (h : Lv l c m) : ∀ {i : Nat}, i ≤ l.length → lowF l (gets l m c l.length) i ≤ m
  | 0, _ => h.lo
  | i + 1, hi => by
    have h1 := low_le hv h (show i ≤ l.length by omega)
    have h2 := gets_hi hv h (show i < l.length by omega)
    have h3 := (hv.ok i (by omega)).w
    rw [lowF, mxm, ceil1]
    have h4 : (nat (gets l m c l.length) i + (sat l i).w - 1) / (sat l i).w < m + 2 := by
      refine Int.ediv_lt_of_lt_mul (by omega) ?_
      have e : (m + 2) * (sat l i).w = (sat l i).w * (m + 1) + (sat l i).w := by
        rw [Int.mul_comm, show m + 2 = (m + 1) + 1 by omega, Int.mul_add (sat l i).w (m + 1) 1, Int.mul_one]
      rw [e]; omega
    split <;> omega
theorem high_ge (hv : VS l) (h : Lv l c m) : ∀ {i : Nat}, i ≤ l.length → m ≤ highF l (gets l m c l.length) i
  | 0, _ => h.hi
  | i + 1, hi => by
    have h1 := high_ge hv h (show i ≤ l.length by omega)
    have h3 := (hv.ok i (by omega)).w
    rw [highF]
    split
    · rename_i hx
      have h2 := gets_lo hv h (show i < l.length by omega) hx
      have h4 : m ≤ nat (gets l m c l.length) i / (sat l i).w := Int.le_ediv_of_mul_le (by omega) (by rw [Int.mul_comm]; exact h2)
      unfold mn; split <;> omega
    · exact h1
theorem gets_exp (hv : VS l) (h : Lv l c m) : exp1 l (gets l m c l.length) c :=
  ⟨gets_length _ _ _ _, fun i hi => gets_ok hv h hi, gets_sum hv h, Int.le_trans (low_le hv h (Nat.le_refl _)) (high_ge hv h (Nat.le_refl _))⟩
/-! ### Growing -/
theorem lef_grows {c c' : Int} (hv : VS l) (h : Lv l c m) (h' : Lv l c' m) (hc : c ≤ c') : ∀ {i : Nat}, i ≤ l.length → lef l m c i ≤ lef l m c' i
  | i, hi => by
    rw [lef_eq hv h hi, lef_eq hv h' hi]
    simp only
    split <;> split <;> omega
theorem gets_grow {c c' m' : Int} (hv : VS l) (h : Lv l c m) (h' : Lv l c' m') (hc : c ≤ c') {i : Nat} (hi : i < l.length) : m ≤ m' ∧ nat (gets l m c l.length) i ≤ nat (gets l m' c' l.length) i := by
  have h1 : m ≤ m' := lv_le hv h' h.hi (by have := h.le; omega)
  refine ⟨h1, ?_⟩
  rw [gets_at l m c hi, gets_at l m' c' hi]
  by_cases e : m = m'
  · subst e
    have h2 := lef_grows hv h h' hc (show i ≤ l.length by omega)
    rw [get1, get1]
    generalize lef l m c i = a at *
    generalize lef l m c' i = b at *
    unfold mor mn
    repeat' split
    all_goals omega
  · have h2 := (get1_bd hv h hi).2.1
    have h3 := (get1_bd hv h' hi).1
    have h4 := at1_mono (hv.ok i hi) (show m + 1 ≤ m' by omega)
    omega
/-! ### Parts by weights -/
def sumW (l : List S2) : Nat → Int
  | 0 => 0
  | i + 1 => sumW l i + (sat l i).w
theorem sumW_bd (hv : VS l) : ∀ {i : Nat}, i ≤ l.length → (i : Int) ≤ sumW l i ∧ sumW l i ≤ (i : Int) * 1048576
  | 0, _ => by simp [sumW]
  | i + 1, hi => by
    have h1 := sumW_bd hv (show i ≤ l.length by omega)
    have h3 := (hv.ok i (by omega)).w
    rw [sumW]; omega
theorem all_le_W (hv : VS l) {t : Int} (ht : 0 ≤ t) : ∀ {i : Nat}, i ≤ l.length → allF l t i ≤ sumW l i * t
  | 0, _ => by simp [allF, sumW]
  | i + 1, hi => by
    have h1 := all_le_W hv ht (show i ≤ l.length by omega)
    have h2 := mn_le ((sat l i).w * t) (sat l i).x
    rw [allF, sumW, Int.add_mul, at1]; omega
theorem part_le (hv : VS l) (hc : 0 ≤ c ∧ c ≤ 1099511627776) (h : Lv l c m) (hl : 0 < l.length) : 0 ≤ c / sumW l l.length ∧ c / sumW l l.length ≤ m ∧ sumW l l.length * (c / sumW l l.length) ≤ c := by
  have h1 := sumW_bd hv (Nat.le_refl l.length)
  have h2 : 0 ≤ c / sumW l l.length := Int.ediv_nonneg hc.1 (by omega)
  have h3 : c / sumW l l.length ≤ c := Int.ediv_le_self _ hc.1
  have h4 : sumW l l.length * (c / sumW l l.length) ≤ c := Int.mul_ediv_self_le (by omega)
  refine ⟨h2, lv_le hv h (by omega) ?_, h4⟩
  exact Int.le_trans (all_le_W hv h2 (Nat.le_refl _)) h4
theorem gets_part (hv : VS l) (hc : 0 ≤ c ∧ c ≤ 1099511627776) (h : Lv l c m) {i : Nat} (hi : i < l.length) (hx : nat (gets l m c l.length) i < (sat l i).x) : (sat l i).w * (c / sumW l l.length) ≤ nat (gets l m c l.length) i := by
  have h1 := part_le hv hc h (show 0 < l.length by omega)
  have h2 := gets_lo hv h hi hx
  have h3 := Int.mul_le_mul_of_nonneg_left h1.2.1 (show 0 ≤ (sat l i).w by have := (hv.ok i hi).w; omega)
  omega
theorem gets_even (hv : VS l) (h : Lv l c m) {i k : Nat} (hi : i < l.length) (hk : k < l.length) (hx : nat (gets l m c l.length) i < (sat l i).x) :
    nat (gets l m c l.length) k * (sat l i).w ≤ (nat (gets l m c l.length) i + (sat l i).w) * (sat l k).w := by
  have h1 := gets_lo hv h hi hx
  have h2 := gets_hi hv h hk
  have w1 := (hv.ok i hi).w; have w2 := (hv.ok k hk).w
  have a1 := Int.mul_le_mul_of_nonneg_right h2 (show 0 ≤ (sat l i).w by omega)
  have a2 := Int.mul_le_mul_of_nonneg_right (show (sat l i).w * (m + 1) ≤ nat (gets l m c l.length) i + (sat l i).w by rw [Int.mul_add, Int.mul_one]; omega) (show 0 ≤ (sat l k).w by omega)
  have e : (sat l k).w * (m + 1) * (sat l i).w = (sat l i).w * (m + 1) * (sat l k).w := by
    rw [Int.mul_assoc, Int.mul_comm]; rw [Int.mul_comm (m + 1)]
  rw [e] at a1
  exact Int.le_trans a1 a2
end Go.Proofs.S16
