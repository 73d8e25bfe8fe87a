/-
  Chapter 39: what is out, and the specification's rows. No condition.
-/
import Derived.Test.YtdbppejfcolacaaS39b
import Derived.Test.YtdbppejfcolacaaS39c
set_option linter.unusedVariables false
set_option linter.unusedSimpArgs false
set_option linter.unusedSectionVars false
namespace Go.Proofs.S39
open Go Go.Ev Go.Proofs
set_option linter.unusedSimpArgs false
set_option linter.unusedVariables false
variable {gl : Gl} {n : Nat}
/-- What is out of a window, in the first rows. -/
def outF (l : List Q4) (w : Int) : Nat → Int
  | 0 => 0
  | i + 1 => if (at' l i).w = w then outF l w i + ((at' l i).d - (at' l i).b) else outF l w i
theorem out_bd {l : List Q4} {w cap : Int} : ∀ i, (∀ j, j < i → RowOk cap l j) → 0 ≤ outF l w i ∧ outF l w i ≤ (i : Int) * 1099511627776
  | 0, _ => by simp [outF]
  | i + 1, h => by
    have h1 := out_bd (w := w) i fun j hj => h j (by omega)
    have h2 := h i (by omega)
    have h3 := h2.b
    have h4 := h2.d
    rw [outF]
    split <;> omega
theorem out_bd2 {l : List Q4} {w c len : Int} (h : VB c len l) {i : Nat} (hi : i ≤ l.length) : 0 ≤ outF l w i ∧ outF l w i ≤ 10000 * 1099511627776 := by
  have h1 := out_bd (w := w) i fun j hj => h.ok j (by omega)
  have h2 := h.r
  omega
def S22 (f : Bool) (sh : Sh) (l : List Q4) (w : Int) (i : Nat) : St :=
  ⟨[.set 14 (i64 i), .set 13 (i64 l.length), .set 12 (.lst f sh (rows l)), .set 5 (i64 (outF l w i)), .set 1 (i64 w)], []⟩
theorem out_t (h : 6 ≤ n) (c len : Int) (f : Bool) {sh : Sh} {l : List Q4} (hs : Shp l sh) (w : Int) (hv : VB c len l) : call gl tab n 22 [bank c len f sh l, i64 w] [] = some (i64 (outF l w l.length), [], []) := by
  obtain ⟨d, rfl⟩ := Nat.exists_eq_add_of_le' h
  have hr := hv.r
  obtain ⟨b, hb, c17⟩ := @validBank gl (d + 5) (by omega) c len f sh l hs (by omega)
  obtain rfl := hb.2 hv
  simp only [bank] at c17
  rw [call_go (fd := fd22) rfl]
  simp only [fd22, m22, go_sem, simprocAttr, ↓reduceIte, bank, c17, rows_length]
  rw [iter_to (S22 f sh l w) l.length (by unfold LF; omega)]
  · simp (disch := ((fail_if_success (intro _)); omega)) only [go_sem, simprocAttr, ↓reduceIte, xx, S22]
  · simp (disch := ((fail_if_success (intro _)); omega)) only [go_sem, simprocAttr, ↓reduceIte, xx, S22, outF]
  · intro i hi
    have hx := rows_at hi
    have hk := hv.ok i hi
    have h1 := hk.b
    have h2 := hk.d
    have hb := out_bd2 (w := w) hv (Nat.le_of_lt hi)
    obtain rfl := hs.eq hi
    by_cases he : (at' l i).w = w
    · simp (disch := ((fail_if_success (intro _)); omega)) only [go_sem, simprocAttr, ↓reduceIte, xx, S22, hx, rows_length, outF, he]
    · have he2 : ((at' l i).w == w) = false := by simpa using he
      simp (disch := ((fail_if_success (intro _)); omega)) only [go_sem, simprocAttr, ↓reduceIte, xx, S22, hx, rows_length, outF, he, he2]
  · simp (disch := ((fail_if_success (intro _)); omega)) only [go_sem, simprocAttr, ↓reduceIte, xx, S22]
theorem out_f (h : 6 ≤ n) (c len : Int) (f : Bool) {sh : Sh} {l : List Q4} (hs : Shp l sh) (hl : l.length < 2 ^ 60) (w : Int) (hv : ¬ VB c len l) : call gl tab n 22 [bank c len f sh l, i64 w] [] = some (i64 0, [], []) := by
  obtain ⟨d, rfl⟩ := Nat.exists_eq_add_of_le' h
  obtain ⟨b, hb, c17⟩ := @validBank gl (d + 5) (by omega) c len f sh l hs hl
  obtain rfl : b = false := by cases b; rfl; exact absurd (hb.1 rfl) hv
  simp only [bank] at c17
  rw [call_go (fd := fd22) rfl]
  simp (disch := ((fail_if_success (intro _)); omega)) only [go_sem, simprocAttr, ↓reduceIte, xx, fd22, m22, bank, c17]
def S57 (c len : Int) (f : Bool) (sh : Sh) (l : List Q4) (w : Int) (i : Nat) : St :=
  ⟨[.set 6 (i64 i), .set 5 (i64 (outF l w i)), .set 2 (.ptr 2 []), .set 1 (i64 w)], [(2, .fix (.st [.sc, .sc, .sc]) (bank c len f sh l))]⟩
theorem rout_at (h : 1 ≤ n) (c len : Int) (f : Bool) {sh : Sh} {l : List Q4} (hs : Shp l sh) (w : Int) (hv : VB c len l) : call gl tab n 57 [bank c len f sh l, i64 w] [] = some (i64 (outF l w l.length), [], []) := by
  obtain ⟨d, rfl⟩ := Nat.exists_eq_add_of_le' h
  have hr := hv.r
  rw [call_go (fd := fd57) rfl]
  simp only [fd57, m57, go_sem, simprocAttr, ↓reduceIte, bank]
  rw [iter_to (S57 c len f sh l w) l.length (by unfold LF; omega)]
  · simp (disch := ((fail_if_success (intro _)); omega)) only [go_sem, simprocAttr, ↓reduceIte, xx, S57, bank, rows_length]
  · simp (disch := ((fail_if_success (intro _)); omega)) only [go_sem, simprocAttr, ↓reduceIte, xx, S57, bank, outF]
  · intro i hi
    have hx := rows_at hi
    have hk := hv.ok i hi
    have h1 := hk.b
    have h2 := hk.d
    have hb := out_bd2 (w := w) hv (Nat.le_of_lt hi)
    obtain rfl := hs.eq hi
    by_cases he : (at' l i).w = w
    · have e1 : outF l w (i + 1) = outF l w i + (at' l i).d - (at' l i).b := by rw [outF, if_pos he]; omega
      simp (disch := ((fail_if_success (intro _)); omega)) only [go_sem, simprocAttr, ↓reduceIte, xx, S57, bank, hx, rows_length, e1, he]
    · have he2 : ((at' l i).w == w) = false := by simpa using he
      simp (disch := ((fail_if_success (intro _)); omega)) only [go_sem, simprocAttr, ↓reduceIte, xx, S57, bank, hx, rows_length, outF, he, he2]
  · simp (disch := ((fail_if_success (intro _)); omega)) only [go_sem, simprocAttr, ↓reduceIte, xx, S57, bank, rows_length]
theorem rOut_t (h : 4 ≤ n) (c len : Int) (f : Bool) {sh : Sh} {l : List Q4} (hs : Shp l sh) (w : Int) (hv : VB c len l) : call gl tab n 23 [bank c len f sh l, i64 w] [] = some (i64 (outF l w l.length), [], []) := by
  obtain ⟨d, rfl⟩ := Nat.exists_eq_add_of_le' h
  have hr := hv.r
  obtain ⟨b, hb, c18⟩ := @rvalidBank gl (d + 3) (by omega) c len f sh l hs (by omega)
  obtain rfl := hb.2 hv
  have c57 := @rout_at gl (d + 3) (by omega) c len f sh l hs w hv
  simp only [bank] at c18 c57
  rw [call_go (fd := fd23) rfl]
  simp (disch := ((fail_if_success (intro _)); omega)) only [go_sem, simprocAttr, ↓reduceIte, xx, fd23, m23, bank, c18, c57]
theorem rOut_f (h : 4 ≤ n) (c len : Int) (f : Bool) {sh : Sh} {l : List Q4} (hs : Shp l sh) (hl : l.length < 2 ^ 60) (w : Int) (hv : ¬ VB c len l) : call gl tab n 23 [bank c len f sh l, i64 w] [] = some (i64 0, [], []) := by
  obtain ⟨d, rfl⟩ := Nat.exists_eq_add_of_le' h
  obtain ⟨b, hb, c18⟩ := @rvalidBank gl (d + 3) (by omega) c len f sh l hs hl
  obtain rfl : b = false := by cases b; rfl; exact absurd (hb.1 rfl) hv
  simp only [bank] at c18
  rw [call_go (fd := fd23) rfl]
  simp (disch := ((fail_if_success (intro _)); omega)) only [go_sem, simprocAttr, ↓reduceIte, xx, fd23, m23, bank, c18]
/-! ### The specification's rows -/
/-- The row of a place, or one without credits. -/
def rowOr (l : List Q4) (k : Nat) (x : Q4) : Q4 := if k < l.length ∧ (at' l k).cmp x = 0 then at' l k else x
def S56 (c len : Int) (f : Bool) (sh : Sh) (l : List Q4) (w g : Int) (i : Nat) : St :=
  ⟨[.set 8 (i64 i), .set 6 (.ptr 6 []), .set 3 (.ptr 3 []), .set 2 (i64 g), .set 1 (i64 w)], [(6, .fix sR (.agg [i64 0, i64 0, i64 0, i64 0])), (3, .fix (.st [.sc, .sc, .sc]) (bank c len f sh l))]⟩
def L56 : MC := match m56 with
  | .seq _ (.seq (.seq _ (.block _ (.loop _ b))) _) => b
  | _ => .skip
theorem row_at (h : 1 ≤ n) (c len : Int) (f : Bool) {sh : Sh} {l : List Q4} (hs : Shp l sh) (hl : l.length < 2 ^ 60) (ha : Asc l) (w g : Int) {k : Nat} (hk : Lb l ⟨w, g, 0, 0⟩ k) :
    call gl tab n 56 [bank c len f sh l, i64 w, i64 g] [] = some (.tup [(rowOr l k ⟨w, g, 0, 0⟩).av, .bool (decide (k < l.length ∧ (at' l k).cmp ⟨w, g, 0, 0⟩ = 0))], [], []) := by
  obtain ⟨d, rfl⟩ := Nat.exists_eq_add_of_le' h
  have hne : ∀ i, i < l.length → ¬ (i = k ∧ (at' l k).cmp ⟨w, g, 0, 0⟩ = 0) → (at' l i).cmp ⟨w, g, 0, 0⟩ ≠ 0 := fun i hi hn h0 => by
    by_cases h1 : i < k
    · have := hk.lo i h1; omega
    by_cases h2 : i = k
    · exact hn ⟨h2, h2 ▸ h0⟩
    · have h3 := asc_lt ha (show k < i by omega) hi
      have h4 := hk.hi k (Nat.le_refl _) (by omega)
      rw [cmp_eq] at h0
      rw [cmp_lt] at h3
      have h5 : ¬ (at' l k).cmp ⟨w, g, 0, 0⟩ < 0 := by omega
      apply h5
      rw [cmp_lt]
      simp only at h0 ⊢
      omega
  rw [call_go (fd := fd56) rfl]
  simp only [fd56, m56, go_sem, simprocAttr, ↓reduceIte, bank]
  have step : ∀ i, i < l.length → (at' l i).cmp ⟨w, g, 0, 0⟩ ≠ 0 → contK [.slot 1, .slot 2, .slot 3, .slot 6, .slot 8, .key 3, .key 6] (evC gl (call gl tab d) L56 (S56 c len f sh l w g i)) = some (S56 c len f sh l w g (i + 1)) := fun i hi h0 => by
    have hx := rows_at hi
    obtain rfl := hs.eq hi
    rw [Ne, cmp_eq] at h0
    simp only at h0
    by_cases he : (at' l i).w = w
    · have h1 : ((at' l i).g == g) = false := by simpa using fun e => h0 ⟨he, e⟩
      simp (disch := ((fail_if_success (intro _)); omega)) only [go_sem, simprocAttr, ↓reduceIte, xx, L56, m56, S56, bank, hx, rows_length, he, h1]
    · have h1 : ((at' l i).w == w) = false := by simpa using he
      simp (disch := ((fail_if_success (intro _)); omega)) only [go_sem, simprocAttr, ↓reduceIte, xx, L56, m56, S56, bank, hx, rows_length, h1]
  simp only [L56, m56] at step
  by_cases hf : k < l.length ∧ (at' l k).cmp ⟨w, g, 0, 0⟩ = 0
  · have hx := rows_at hf.1
    have hkl := hf.1
    obtain rfl := hs.eq hf.1
    have hwg := cmp_eq.1 hf.2
    simp only at hwg
    rw [iter_to (S56 c len f sR l w g) k (by unfold LF; omega)]
    · simp (disch := ((fail_if_success (intro _)); omega)) only [go_sem, simprocAttr, ↓reduceIte, xx, S56, bank, hx, rows_length, hwg, hf, rowOr, Q4.av]
    · simp (disch := ((fail_if_success (intro _)); omega)) only [go_sem, simprocAttr, ↓reduceIte, xx, S56, bank]
    · intro i hi
      exact step i (by omega) (hne i (by omega) fun h => by omega)
    · simp (disch := ((fail_if_success (intro _)); omega)) only [go_sem, simprocAttr, ↓reduceIte, xx, S56, bank, hx, rows_length, hwg]
  · rw [iter_to (S56 c len f sh l w g) l.length (by unfold LF; omega)]
    · simp (disch := ((fail_if_success (intro _)); omega)) only [go_sem, simprocAttr, ↓reduceIte, xx, S56, bank, rows_length, hf, rowOr, Q4.av]
    · simp (disch := ((fail_if_success (intro _)); omega)) only [go_sem, simprocAttr, ↓reduceIte, xx, S56, bank]
    · intro i hi
      exact step i hi (hne i hi fun h => hf ⟨by omega, h.2⟩)
    · simp (disch := ((fail_if_success (intro _)); omega)) only [go_sem, simprocAttr, ↓reduceIte, xx, S56, bank, rows_length]
end Go.Proofs.S39
