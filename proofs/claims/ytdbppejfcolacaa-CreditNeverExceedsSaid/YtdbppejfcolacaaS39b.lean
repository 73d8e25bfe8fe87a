/-
  Chapter 39: what the specification's functions of banks compute. No condition.
-/
import Derived.Test.YtdbppejfcolacaaS39a
set_option linter.unusedVariables false
set_option linter.unusedSimpArgs false
set_option linter.unusedSectionVars false
namespace Go.Proofs.S39
open Go Go.Ev Go.Proofs
set_option linter.unusedSimpArgs false
set_option linter.unusedVariables false
variable {gl : Gl} {n : Nat}
theorem rwindow_at (h : 1 ≤ n) (a : Int) : call gl tab n 54 [i64 a] [] = some (.bool (decide (0 ≤ a) && decide (a ≤ 1099511627776)), [], []) := by
  obtain ⟨d, rfl⟩ := Nat.exists_eq_add_of_le' h
  rw [call_go (fd := fd54) rfl]
  simp (disch := ((fail_if_success (intro _)); omega)) only [go_sem, simprocAttr, ↓reduceIte, xx, fd54, m54]
theorem rgate_at (h : 1 ≤ n) (a : Int) : call gl tab n 55 [i64 a] [] = some (.bool (decide (1 ≤ a) && decide (a ≤ 1073741824)), [], []) := by
  obtain ⟨d, rfl⟩ := Nat.exists_eq_add_of_le' h
  rw [call_go (fd := fd55) rfl]
  simp (disch := ((fail_if_success (intro _)); omega)) only [go_sem, simprocAttr, ↓reduceIte, xx, fd55, m55]
theorem cmp_neg {x y : Q4} : x.cmp y < 0 ↔ x.w < y.w ∨ (x.w = y.w ∧ x.g < y.g) := by
  unfold Q4.cmp cmpI
  split <;> split <;> (try split) <;> omega
def S18 (cap len : Int) (f : Bool) (sh : Sh) (l : List Q4) (i : Nat) : St :=
  ⟨[.set 4 (i64 i), .set 3 (i64 (sumF l i)), .set 1 (.ptr 1 [])], [(1, .fix (.st [.sc, .sc, .sc]) (bank cap len f sh l))]⟩
def L18 : MC := match m18 with
  | .seq _ (.seq _ (.seq _ (.seq (.seq _ (.block _ (.loop _ b))) _))) => b
  | _ => .skip
theorem loop18_t (h : 2 ≤ n) {cap len : Int} {f : Bool} {sh : Sh} {l : List Q4} (hs : Shp l sh) (hc : 0 ≤ cap ∧ cap ≤ 1073741824) (hl : l.length ≤ 10000) {i : Nat} (hi : i < l.length) (hj : ∀ j, j < i → RowOk cap l j) (hp : RowOk cap l i) :
    contK [.slot 1, .slot 3, .slot 4, .key 1] (evC gl (call gl tab n) L18 (S18 cap len f sh l i)) = some (S18 cap len f sh l (i + 1)) := by
  have c43 := @rwindow_at gl n (by omega)
  have c44 := @rgate_at gl n (by omega)
  have hb := sum_bd hc.1 i hj
  obtain ⟨⟨h1, h2⟩, ⟨h3, h4⟩, ⟨h5, h6⟩, ⟨h7, h8⟩, h9, h10⟩ := hp
  have hx := rows_at hi
  obtain rfl := hs.eq hi
  by_cases h0 : 0 < i
  · have hx' := rows_at (show i - 1 < l.length by omega)
    have h9 := cmp_neg.1 (h9 h0)
    by_cases hw : (at' l (i - 1)).w < (at' l i).w
    · have hsum : sumF l (i + 1) = 0 + (at' l i).d - (at' l i).b := by rw [sumF, if_pos ⟨h0, hw⟩]; omega
      simp (disch := ((fail_if_success (intro _)); omega)) only [go_sem, simprocAttr, ↓reduceIte, xx, L18, m18, S18, bank, hx, hx', rows_length, c43, c44, hsum, h0, hw]
    · have hsum : sumF l (i + 1) = sumF l i + (at' l i).d - (at' l i).b := by rw [sumF, if_neg fun h => hw h.2]; omega
      obtain ⟨e1, e2⟩ : (at' l (i - 1)).w = (at' l i).w ∧ (at' l (i - 1)).g < (at' l i).g := by omega
      simp (disch := ((fail_if_success (intro _)); omega)) only [go_sem, simprocAttr, ↓reduceIte, xx, L18, m18, S18, bank, hx, hx', rows_length, c43, c44, hsum, h0, hw]
  · have hsum : sumF l (i + 1) = sumF l i + (at' l i).d - (at' l i).b := by rw [sumF, if_neg fun h => h0 h.1]; omega
    simp (disch := ((fail_if_success (intro _)); omega)) only [go_sem, simprocAttr, ↓reduceIte, xx, L18, m18, S18, bank, hx, rows_length, c43, c44, hsum, h0]
theorem loop18_f (h : 2 ≤ n) {cap len : Int} {f : Bool} {sh : Sh} {l : List Q4} (hs : Shp l sh) (hc : 0 ≤ cap ∧ cap ≤ 1073741824) (hl : l.length ≤ 10000) {i : Nat} (hi : i < l.length) (hj : ∀ j, j < i → RowOk cap l j) (hp : ¬ RowOk cap l i) :
    out1 2 (evC gl (call gl tab n) L18 (S18 cap len f sh l i)) = some (.ret, .bool false) := by
  have c43 := @rwindow_at gl n (by omega)
  have c44 := @rgate_at gl n (by omega)
  have hb := sum_bd hc.1 i hj
  have hx := rows_at hi
  obtain rfl := hs.eq hi
  cases hA : (decide (0 ≤ (at' l i).w) && decide ((at' l i).w ≤ 1099511627776))
  · simp (disch := ((fail_if_success (intro _)); omega)) only [go_sem, simprocAttr, ↓reduceIte, xx, L18, m18, S18, bank, hx, rows_length, c43, c44, hA]
  cases hB : (decide (1 ≤ (at' l i).g) && decide ((at' l i).g ≤ 1073741824))
  · simp (disch := ((fail_if_success (intro _)); omega)) only [go_sem, simprocAttr, ↓reduceIte, xx, L18, m18, S18, bank, hx, rows_length, c43, c44, hA, hB]
  by_cases h5 : 0 ≤ (at' l i).d
  case neg => simp (disch := ((fail_if_success (intro _)); omega)) only [go_sem, simprocAttr, ↓reduceIte, xx, L18, m18, S18, bank, hx, rows_length, c43, c44, hA, hB]
  by_cases h6 : (at' l i).d ≤ 1099511627776
  case neg => simp (disch := ((fail_if_success (intro _)); omega)) only [go_sem, simprocAttr, ↓reduceIte, xx, L18, m18, S18, bank, hx, rows_length, c43, c44, hA, hB]
  by_cases h7 : 0 ≤ (at' l i).b
  case neg => simp (disch := ((fail_if_success (intro _)); omega)) only [go_sem, simprocAttr, ↓reduceIte, xx, L18, m18, S18, bank, hx, rows_length, c43, c44, hA, hB]
  by_cases h8 : (at' l i).b ≤ (at' l i).d
  case neg => simp (disch := ((fail_if_success (intro _)); omega)) only [go_sem, simprocAttr, ↓reduceIte, xx, L18, m18, S18, bank, hx, rows_length, c43, c44, hA, hB]
  simp only [Bool.and_eq_true, decide_eq_true_eq] at hA hB
  obtain ⟨h1, h2⟩ := hA
  obtain ⟨h3, h4⟩ := hB
  by_cases h0 : 0 < i
  · have hx' := rows_at (show i - 1 < l.length by omega)
    by_cases hE : 0 ≤ (at' l (i - 1)).cmp (at' l i)
    · have hE' : ¬ ((at' l (i - 1)).w < (at' l i).w ∨ ((at' l (i - 1)).w = (at' l i).w ∧ (at' l (i - 1)).g < (at' l i).g)) := fun h => by have := cmp_neg.2 h; omega
      by_cases hw : (at' l i).w < (at' l (i - 1)).w
      · simp (disch := ((fail_if_success (intro _)); omega)) only [go_sem, simprocAttr, ↓reduceIte, xx, L18, m18, S18, bank, hx, hx', rows_length, c43, c44, h0]
      · obtain ⟨e1, e2⟩ : (at' l i).w = (at' l (i - 1)).w ∧ (at' l i).g ≤ (at' l (i - 1)).g := by omega
        simp (disch := ((fail_if_success (intro _)); omega)) only [go_sem, simprocAttr, ↓reduceIte, xx, L18, m18, S18, bank, hx, hx', rows_length, c43, c44, h0]
    have hE' := cmp_neg.1 (Int.not_le.1 hE)
    by_cases hw : (at' l (i - 1)).w < (at' l i).w
    · have hsum : sumF l (i + 1) = 0 + (at' l i).d - (at' l i).b := by rw [sumF, if_pos ⟨h0, hw⟩]; omega
      have hF : cap < 0 + (at' l i).d - (at' l i).b := by
        rw [← hsum]
        exact Int.not_le.1 fun h => hp ⟨⟨h1, h2⟩, ⟨h3, h4⟩, ⟨h5, h6⟩, ⟨h7, h8⟩, fun _ => by omega, h⟩
      simp (disch := ((fail_if_success (intro _)); omega)) only [go_sem, simprocAttr, ↓reduceIte, xx, L18, m18, S18, bank, hx, hx', rows_length, c43, c44, h0, hw]
    · have hsum : sumF l (i + 1) = sumF l i + (at' l i).d - (at' l i).b := by rw [sumF, if_neg fun h => hw h.2]; omega
      have hF : cap < sumF l i + (at' l i).d - (at' l i).b := by
        rw [← hsum]
        exact Int.not_le.1 fun h => hp ⟨⟨h1, h2⟩, ⟨h3, h4⟩, ⟨h5, h6⟩, ⟨h7, h8⟩, fun _ => by omega, h⟩
      obtain ⟨e1, e2⟩ : (at' l (i - 1)).w = (at' l i).w ∧ (at' l (i - 1)).g < (at' l i).g := by omega
      simp (disch := ((fail_if_success (intro _)); omega)) only [go_sem, simprocAttr, ↓reduceIte, xx, L18, m18, S18, bank, hx, hx', rows_length, c43, c44, h0, hw]
  · have hsum : sumF l (i + 1) = sumF l i + (at' l i).d - (at' l i).b := by rw [sumF, if_neg fun h => h0 h.1]; omega
    have hF : cap < sumF l i + (at' l i).d - (at' l i).b := by
      rw [← hsum]
      exact Int.not_le.1 fun h => hp ⟨⟨h1, h2⟩, ⟨h3, h4⟩, ⟨h5, h6⟩, ⟨h7, h8⟩, fun h => absurd h h0, h⟩
    simp (disch := ((fail_if_success (intro _)); omega)) only [go_sem, simprocAttr, ↓reduceIte, xx, L18, m18, S18, bank, hx, rows_length, c43, c44, h0]
theorem rvalidBank (h : 3 ≤ n) (cap len : Int) (f : Bool) {sh : Sh} {l : List Q4} (hs : Shp l sh) (hl : l.length < 2 ^ 60) : ∃ b : Bool, (b = true ↔ VB cap len l) ∧ call gl tab n 18 [bank cap len f sh l] [] = some (.bool b, [], []) := by
  obtain ⟨d, rfl⟩ := Nat.exists_eq_add_of_le' h
  have lt := @loop18_t gl (d + 2) (by omega) cap len f sh l hs
  have lf := @loop18_f gl (d + 2) (by omega) cap len f sh l hs
  rw [call_go (fd := fd18) rfl]
  by_cases hA1 : 0 ≤ cap
  case neg =>
    refine ⟨false, ⟨(fun h => by cases h), fun h => ?_⟩, ?_⟩
    · have := h.c; omega
    · simp (disch := ((fail_if_success (intro _)); omega)) only [go_sem, simprocAttr, ↓reduceIte, xx, fd18, m18, bank, rows_length]
  by_cases hA2 : cap ≤ 1073741824
  case neg =>
    refine ⟨false, ⟨(fun h => by cases h), fun h => ?_⟩, ?_⟩
    · have := h.c; omega
    · simp (disch := ((fail_if_success (intro _)); omega)) only [go_sem, simprocAttr, ↓reduceIte, xx, fd18, m18, bank, rows_length]
  by_cases hB1 : 1 ≤ len
  case neg =>
    refine ⟨false, ⟨(fun h => by cases h), fun h => ?_⟩, ?_⟩
    · have := h.n; omega
    · simp (disch := ((fail_if_success (intro _)); omega)) only [go_sem, simprocAttr, ↓reduceIte, xx, fd18, m18, bank, rows_length]
  by_cases hB2 : len ≤ 3600000
  case neg =>
    refine ⟨false, ⟨(fun h => by cases h), fun h => ?_⟩, ?_⟩
    · have := h.n; omega
    · simp (disch := ((fail_if_success (intro _)); omega)) only [go_sem, simprocAttr, ↓reduceIte, xx, fd18, m18, bank, rows_length]
  by_cases hC : 10000 < l.length
  · refine ⟨false, ⟨(fun h => by cases h), fun h => ?_⟩, ?_⟩
    · have := h.r; omega
    · simp (disch := ((fail_if_success (intro _)); omega)) only [go_sem, simprocAttr, ↓reduceIte, xx, fd18, m18, bank, rows_length]
  have hL : l.length ≤ 10000 := by omega
  obtain ⟨k, hk, hbef, hat, hit⟩ := iter_fst2 (f := evC gl (call gl tab (d + 2)) L18) (ks := [.slot 1, .slot 3, .slot 4, .key 1]) (S18 cap len f sh l) l.length (RowOk cap l) (by unfold LF; omega)
    (fun i hi hj hp => lt ⟨hA1, hA2⟩ hL hi hj hp) (fun i hi hj hp => out1_isEx (lf ⟨hA1, hA2⟩ hL hi hj hp)) (fun hj => by
      have hb := sum_bd hA1 l.length hj
      simp (disch := ((fail_if_success (intro _)); omega)) only [go_sem, simprocAttr, ↓reduceIte, xx, L18, m18, S18, bank, rows_length])
  simp only [L18, m18] at hit
  by_cases hkl : k < l.length
  · obtain ⟨st, hst, hg⟩ := out1_get (lf ⟨hA1, hA2⟩ hL hkl hbef (hat hkl))
    simp only [L18, m18] at hst
    refine ⟨false, ⟨(fun h => by cases h), fun h => absurd (h.ok k hkl) (hat hkl)⟩, ?_⟩
    simp (disch := ((fail_if_success (intro _)); omega)) only [go_sem, simprocAttr, ↓reduceIte, xx, fd18, m18, bank, rows_length]
    rw [hit _ (by simp (disch := ((fail_if_success (intro _)); omega)) only [go_sem, simprocAttr, ↓reduceIte, xx, S18, bank]; rfl), hst]
    simp (disch := ((fail_if_success (intro _)); omega)) only [go_sem, simprocAttr, ↓reduceIte, xx, hg]
  · obtain rfl : k = l.length := by omega
    refine ⟨true, ⟨fun _ => ⟨⟨hA1, hA2⟩, ⟨hB1, hB2⟩, hL, hbef⟩, fun _ => rfl⟩, ?_⟩
    simp (disch := ((fail_if_success (intro _)); omega)) only [go_sem, simprocAttr, ↓reduceIte, xx, fd18, m18, bank, rows_length]
    rw [hit _ (by simp (disch := ((fail_if_success (intro _)); omega)) only [go_sem, simprocAttr, ↓reduceIte, xx, S18, bank]; rfl)]
    simp (disch := ((fail_if_success (intro _)); omega)) only [go_sem, simprocAttr, ↓reduceIte, xx, S18, bank, rows_length]
end Go.Proofs.S39
