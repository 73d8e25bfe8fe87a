/-
  Chapter 16: use. No condition.
-/
import Derived.Test.YtjkgmpckddolfaaW16g
set_option linter.unusedVariables false
set_option linter.unusedSimpArgs false
set_option linter.unusedSectionVars false
namespace Go.Proofs.S16
open Go Go.Ev Go.Proofs
set_option linter.unusedSimpArgs false
set_option linter.unusedVariables false
variable {gl : Gl} {n : Nat}
/-- What is wrong with using more. -/
def uerr (l : List A3) (k : Nat) (v : Int) (b : Bool) : Int := if b then (if 1099511627776 < v ∨ v < -1099511627776 ∨ (aat l k).u + v < 0 ∨ 1099511627776 < (aat l k).u + v then 1 else 0) else 5
def updA (l : List A3) (k : Nat) (v : Int) : List A3 := l.set k ⟨(aat l k).t, (aat l k).w, (aat l k).u + v⟩
theorem updA_ac (l : List A3) (k : Nat) (v : Int) : (ac l).set k (.agg [i64 (aat l k).t, i64 (aat l k).w, i64 ((aat l k).u + v)]) = ac (updA l k v) := by simp [updA, ac, List.map_set]
theorem updA_length (l : List A3) (k : Nat) (v : Int) : (updA l k v).length = l.length := by simp [updA]
theorem use_no (h : 6 ≤ n) {l : List A3} (hv : VA l) {q v : Int} {k : Nat} {b : Bool} (hk : b = true → k < l.length) (he : uerr l k v b ≠ 0)
    (c40 : call gl tab (n - 1) 40 [.lst false sA (ac l), i64 q] [] = some (.tup [i64 k, .bool b], [], [])) :
    call gl tab n 24 [.lst false sA (ac l), i64 q, i64 v] [] = some (.tup [.lst true .sc [], i64 (uerr l k v b)], [], []) := by
  obtain ⟨d, rfl⟩ := Nat.exists_eq_add_of_le' h
  rw [show d + 6 - 1 = d + 5 from rfl] at c40; have c := c40; clear c40
  rw [call_go (fd := fd24) rfl]
  unfold uerr at *
  cases b with
  | false => simp (disch := ((fail_if_success (intro _)); omega)) only [go_sem, simprocAttr, ↓reduceIte, xx, fd24, m24, c, ac_length, Bool.false_eq_true, if_false]
  | true =>
    have hx := ac_at (hk rfl)
    have hkl := hk rfl
    have hu := (hv.ok k hkl).u
    by_cases h1 : 1099511627776 < v
    · simp (disch := ((fail_if_success (intro _)); omega)) only [go_sem, simprocAttr, ↓reduceIte, xx, fd24, m24, c, ac_length, true_or, if_true]
    by_cases h2 : v < -1099511627776
    · simp (disch := ((fail_if_success (intro _)); omega)) only [go_sem, simprocAttr, ↓reduceIte, xx, fd24, m24, c, ac_length, true_or, or_true, if_true]
    by_cases h3 : (aat l k).u + v < 0
    · simp (disch := ((fail_if_success (intro _)); omega)) only [go_sem, simprocAttr, ↓reduceIte, xx, fd24, m24, c, ac_length, hx, true_or, or_true, if_true]
    by_cases h4 : 1099511627776 < (aat l k).u + v
    · simp (disch := ((fail_if_success (intro _)); omega)) only [go_sem, simprocAttr, ↓reduceIte, xx, fd24, m24, c, ac_length, hx, true_or, or_true, if_true]
    simp [h1, h2, h3, h4] at he
theorem use_ok (h : 6 ≤ n) {l : List A3} (hv : VA l) {q v : Int} {k : Nat} (hkl : k < l.length) (he : uerr l k v true = 0)
    (c40 : call gl tab (n - 1) 40 [.lst false sA (ac l), i64 q] [] = some (.tup [i64 k, .bool true], [], [])) :
    call gl tab n 24 [.lst false sA (ac l), i64 q, i64 v] [] = some (.tup [.lst false sA (ac (updA l k v)), i64 0], [], []) := by
  obtain ⟨d, rfl⟩ := Nat.exists_eq_add_of_le' h
  rw [show d + 6 - 1 = d + 5 from rfl] at c40; have c := c40; clear c40
  have hn := hv.n
  have hx := ac_at hkl
  have hu := (hv.ok k hkl).u
  have he2 : ¬ (1099511627776 < v ∨ v < -1099511627776 ∨ (aat l k).u + v < 0 ∨ 1099511627776 < (aat l k).u + v) := fun h => by rw [uerr, if_pos rfl, if_pos h] at he; omega
  have c42 := @clone_at gl (d + 5) (by omega) false l (by omega)
  have e1 := updA_ac l k v
  have e2 := ac_take' (updA l k v)
  rw [updA_length] at e2
  rw [call_go (fd := fd24) rfl]
  simp (disch := ((fail_if_success (intro _)); omega)) only [go_sem, simprocAttr, ↓reduceIte, xx, fd24, m24, c, ac_length, hx, c42, e1, e2, updA_length]
theorem ruse_no (h : 6 ≤ n) {l : List A3} (hv : VA l) {q v : Int} {k : Nat} {b : Bool} (hk : b = true → k < l.length) (he : uerr l k v b ≠ 0)
    (c43 : call gl tab (n - 1) 43 [.lst false sA (ac l), i64 q] [] = some (i64 (if b then k else -1), [], [])) :
    call gl tab n 25 [.lst false sA (ac l), i64 q, i64 v] [] = some (.agg [.lst true .sc [], i64 (uerr l k v b)], [], []) := by
  obtain ⟨d, rfl⟩ := Nat.exists_eq_add_of_le' h
  rw [show d + 6 - 1 = d + 5 from rfl] at c43; have c := c43; clear c43
  rw [call_go (fd := fd25) rfl]
  unfold uerr at *
  cases b with
  | false =>
    simp only [Bool.false_eq_true, if_false] at c
    simp (disch := ((fail_if_success (intro _)); omega)) only [go_sem, simprocAttr, ↓reduceIte, xx, fd25, m25, c, ac_length, Bool.false_eq_true, if_false]
  | true =>
    simp only [if_true] at c
    have hx := ac_at (hk rfl)
    have hkl := hk rfl
    have hu := (hv.ok k hkl).u
    by_cases h1 : 1099511627776 < v
    · simp (disch := ((fail_if_success (intro _)); omega)) only [go_sem, simprocAttr, ↓reduceIte, xx, fd25, m25, c, ac_length, true_or, if_true]
    by_cases h2 : v < -1099511627776
    · simp (disch := ((fail_if_success (intro _)); omega)) only [go_sem, simprocAttr, ↓reduceIte, xx, fd25, m25, c, ac_length, true_or, or_true, if_true]
    by_cases h3 : (aat l k).u + v < 0
    · simp (disch := ((fail_if_success (intro _)); omega)) only [go_sem, simprocAttr, ↓reduceIte, xx, fd25, m25, c, ac_length, hx, true_or, or_true, if_true]
    by_cases h4 : 1099511627776 < (aat l k).u + v
    · simp (disch := ((fail_if_success (intro _)); omega)) only [go_sem, simprocAttr, ↓reduceIte, xx, fd25, m25, c, ac_length, hx, true_or, or_true, if_true]
    simp [h1, h2, h3, h4] at he
theorem ruse_ok (h : 6 ≤ n) {l : List A3} (hv : VA l) {q v : Int} {k : Nat} (hkl : k < l.length) (he : uerr l k v true = 0)
    (c43 : call gl tab (n - 1) 43 [.lst false sA (ac l), i64 q] [] = some (i64 k, [], [])) :
    call gl tab n 25 [.lst false sA (ac l), i64 q, i64 v] [] = some (.agg [.lst false sA (ac (updA l k v)), i64 0], [], []) := by
  obtain ⟨d, rfl⟩ := Nat.exists_eq_add_of_le' h
  rw [show d + 6 - 1 = d + 5 from rfl] at c43; have c := c43; clear c43
  have hn := hv.n
  have hx := ac_at hkl
  have hu := (hv.ok k hkl).u
  have he2 : ¬ (1099511627776 < v ∨ v < -1099511627776 ∨ (aat l k).u + v < 0 ∨ 1099511627776 < (aat l k).u + v) := fun h => by rw [uerr, if_pos rfl, if_pos h] at he; omega
  have e1 := updA_ac l k v
  have e2 := ac_take' (updA l k v)
  have e3 := ac_take' l
  rw [updA_length] at e2
  have hlim : l.length ≤ LIM := by unfold LIM; omega
  rw [call_go (fd := fd25) rfl]
  simp (disch := ((fail_if_success (intro _)); omega)) only [go_sem, simprocAttr, ↓reduceIte, xx, fd25, m25, c, ac_length, hx, e1, e2, e3, updA_length, hlim]
/-! ### What comes out is valid -/
theorem aat_insA {l : List A3} {k : Nat} (hk : k ≤ l.length) (q w : Int) (i : Nat) : aat (insA l k q w) i = if i < k then aat l i else if i = k then ⟨q, w, 0⟩ else aat l (i - 1) := by
  unfold aat insA
  simp only [List.getD_eq_getElem?_getD]
  by_cases h1 : i < k
  · rw [if_pos h1, List.getElem?_append_left (by simp; omega), List.getElem?_take_of_lt h1]
  · rw [if_neg h1, List.getElem?_append_right (by simp; omega)]
    simp only [List.length_take, Nat.min_eq_left hk]
    by_cases h2 : i = k
    · subst h2; simp
    · rw [if_neg h2, show i - k = (i - 1 - k) + 1 by omega, List.getElem?_cons_succ, List.getElem?_drop, show k + (i - 1 - k) = i - 1 by omega]
theorem insA_valid {l : List A3} (hv : VA l) {q w : Int} {k : Nat} (hk : Pl l q k) (hn : ¬ has l q) (hw : (1 ≤ q) ∧ 1 ≤ w ∧ w ≤ 1048576) (hl : l.length < 1000) : VA (insA l k q w) := by
  have hkl := hk.le
  refine ⟨by rw [insA_length hkl]; omega, fun i hi => ?_⟩
  rw [insA_length hkl] at hi
  have hp : ∀ j, j < l.length → 0 < (aat l j).t := fun j hj => ten_pos hv hj
  rcases Nat.lt_trichotomy i k with h3 | h3 | h3
  · have e : aat (insA l k q w) i = aat l i := by rw [aat_insA hkl, if_pos h3]
    have o := hv.ok i (by omega)
    refine ⟨?_, by rw [e]; exact o.w, by rw [e]; exact o.u⟩
    rw [e]
    cases i with
    | zero => exact o.t
    | succ i => rw [prevT, aat_insA hkl, if_pos (by omega)]; exact o.t
  · have e : aat (insA l k q w) i = ⟨q, w, 0⟩ := by rw [aat_insA hkl, if_neg (by omega), if_pos h3]
    refine ⟨?_, by rw [e]; exact hw.2, by rw [e]; simp⟩
    rw [e]
    cases i with
    | zero => simp only [prevT]; omega
    | succ i => rw [prevT, aat_insA hkl, if_pos (by omega)]; exact hk.lo i (by omega)
  · have e : aat (insA l k q w) i = aat l (i - 1) := by rw [aat_insA hkl, if_neg (by omega), if_neg (by omega)]
    have o := hv.ok (i - 1) (by omega)
    refine ⟨?_, by rw [e]; exact o.w, by rw [e]; exact o.u⟩
    rw [e]
    cases i with
    | zero => omega
    | succ i =>
      rw [prevT, aat_insA hkl, if_neg (by omega)]
      by_cases h4 : i = k
      · rw [if_pos h4]
        have := hk.hi i (by omega) (by omega)
        have : (aat l i).t ≠ q := fun h => hn ⟨i, by omega, h⟩
        simp only [Nat.add_sub_cancel]; omega
      · rw [if_neg h4]; simp only [Nat.add_sub_cancel]
        exact ten_lt hv (by omega) (by omega)
theorem aat_updA {l : List A3} {k : Nat} (hk : k < l.length) (v : Int) (i : Nat) : aat (updA l k v) i = if i = k then ⟨(aat l k).t, (aat l k).w, (aat l k).u + v⟩ else aat l i := by
  unfold updA
  by_cases h : i = k
  · subst h; rw [if_pos rfl]; simp [aat, List.getD_eq_getElem?_getD, hk]
  · rw [if_neg h]; unfold aat
    simp only [List.getD_eq_getElem?_getD]; rw [List.getElem?_set_ne (by omega)]
theorem updA_valid {l : List A3} (hv : VA l) {v : Int} {k : Nat} (hkl : k < l.length) (he : uerr l k v true = 0) : VA (updA l k v) := by
  have he2 : ¬ (1099511627776 < v ∨ v < -1099511627776 ∨ (aat l k).u + v < 0 ∨ 1099511627776 < (aat l k).u + v) := fun h => by rw [uerr, if_pos rfl, if_pos h] at he; omega
  have et : ∀ i, (aat (updA l k v) i).t = (aat l i).t := fun i => by rw [aat_updA hkl]; split <;> simp_all
  have ew : ∀ i, (aat (updA l k v) i).w = (aat l i).w := fun i => by rw [aat_updA hkl]; split <;> simp_all
  refine ⟨by rw [updA_length]; exact hv.n, fun i hi => ?_⟩
  rw [updA_length] at hi
  have o := hv.ok i hi
  have op : prevT (updA l k v) i = prevT l i := by cases i <;> simp [prevT, et]
  refine ⟨by rw [et, op]; exact o.t, by rw [ew]; exact o.w, ?_⟩
  rw [aat_updA hkl]
  by_cases h : i = k
  · rw [if_pos h]; simp only; omega
  · rw [if_neg h]; exact o.u
end Go.Proofs.S16
