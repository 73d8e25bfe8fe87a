/-
  Chapter 8: comparing sketches; how many cells are used. No condition.
-/
import Derived.Test.YtjpfinklpodhnaaDoorW08a
set_option linter.unusedVariables false
set_option linter.unusedSimpArgs false
set_option linter.unusedSectionVars false
namespace Go.Proofs.S08
open Go Go.Ev Go.Proofs
set_option linter.unusedSimpArgs false
set_option linter.unusedVariables false
variable {gl : Gl} {n : Nat}
def L13 : MC := match m13 with | .seq _ (.seq _ (.seq (.seq _ (.block _ (.loop _ b))) _)) => b | _ => .skip
def S13 (w s a : Int) (f f' : Bool) (l : List Int) (i : Nat) : St :=
  ⟨[.set 5 (i64 i), .set 3 (.ptr 3 []), .set 2 (.ptr 2 [])], [(3, .fix sK (.agg [i64 w, i64 s, i64 a, .lst f' .sc (ns l)])), (2, .fix sK (.agg [i64 w, i64 s, i64 a, .lst f .sc (ns l)]))]⟩
theorem same_at (h : 1 ≤ n) {f f' : Bool} {w s a : Int} {l : List Int} (hl : l.length < 2 ^ 20) :
    call gl tab n 13 [.agg [i64 w, i64 s, i64 a, .lst f .sc (ns l)], .agg [i64 w, i64 s, i64 a, .lst f' .sc (ns l)]] [] = some (.bool true, [], []) := by
  obtain ⟨d, rfl⟩ := Nat.exists_eq_add_of_le' h
  have hs : ∀ i, i < l.length → contK [.slot 2, .slot 3, .slot 5, .key 2, .key 3] (evC gl (call gl tab d) L13 (S13 w s a f f' l i)) = some (S13 w s a f f' l (i + 1)) := fun i hi => by
    have hx := ns_at hi
    simp (disch := ((fail_if_success (intro _)); omega)) only [go_sem, simprocAttr, ↓reduceIte, ↓Nat.reduceEqDiff, xx, L13, m13, S13, ns_length, hx]
  simp only [L13, m13] at hs
  rw [call_go (fd := fd13) rfl]
  simp (disch := ((fail_if_success (intro _)); omega)) only [go_sem, simprocAttr, ↓reduceIte, ↓Nat.reduceEqDiff, xx, fd13, m13, ns_length]
  rw [iter_to (S13 w s a f f' l) l.length (by unfold LF; omega)]
  · simp (disch := ((fail_if_success (intro _)); omega)) only [go_sem, simprocAttr, ↓reduceIte, ↓Nat.reduceEqDiff, xx, S13, ns_length]
  · simp (disch := ((fail_if_success (intro _)); omega)) only [go_sem, simprocAttr, ↓reduceIte, ↓Nat.reduceEqDiff, xx, S13, ns_length]
  · exact hs
  · simp (disch := ((fail_if_success (intro _)); omega)) only [go_sem, simprocAttr, ↓reduceIte, ↓Nat.reduceEqDiff, xx, S13, ns_length]
/-- How many of the first cells are not 0. -/
def fil (l : List Int) : Nat → Int
  | 0 => 0
  | i + 1 => fil l i + if nat l i = 0 then 0 else 1
theorem fil_bd (l : List Int) : ∀ i, 0 ≤ fil l i ∧ fil l i ≤ i
  | 0 => by simp [fil]
  | i + 1 => by have := fil_bd l i; rw [fil]; split <;> omega
def L23 : MC := match m23 with | .seq _ (.seq _ (.seq (.seq _ (.block _ (.loop _ b))) _)) => b | _ => .skip
def S23 (f : Bool) (l : List Int) (i : Nat) : St := ⟨[.set 9 (i64 i), .set 8 (i64 l.length), .set 7 (.lst f .sc (ns l)), .set 3 (i64 (fil l i))], []⟩
theorem fill_at (h : 1 ≤ n) {f : Bool} {w s a : Int} {l : List Int} (hl : l.length < 2 ^ 20) : call gl tab n 23 [.agg [i64 w, i64 s, i64 a, .lst f .sc (ns l)]] [] = some (i64 (fil l l.length), [], []) := by
  obtain ⟨d, rfl⟩ := Nat.exists_eq_add_of_le' h
  have hs : ∀ i, i < l.length → contK [.slot 3, .slot 7, .slot 8, .slot 9] (evC gl (call gl tab d) L23 (S23 f l i)) = some (S23 f l (i + 1)) := fun i hi => by
    have hx := ns_at hi
    have hb := fil_bd l i
    by_cases h0 : nat l i = 0
    · have e : fil l (i + 1) = fil l i := by rw [fil, if_pos h0]; omega
      have h1 : (nat l i != 0) = false := by simp [h0]
      simp (disch := ((fail_if_success (intro _)); omega)) only [go_sem, simprocAttr, ↓reduceIte, ↓Nat.reduceEqDiff, xx, L23, m23, S23, ns_length, hx, h1, e]
    · have e : fil l (i + 1) = fil l i + 1 := by rw [fil, if_neg h0]
      have h1 : (nat l i != 0) = true := by simp [h0]
      simp (disch := ((fail_if_success (intro _)); omega)) only [go_sem, simprocAttr, ↓reduceIte, ↓Nat.reduceEqDiff, xx, L23, m23, S23, ns_length, hx, h1, e]
  simp only [L23, m23] at hs
  rw [call_go (fd := fd23) rfl]
  simp (disch := ((fail_if_success (intro _)); omega)) only [go_sem, simprocAttr, ↓reduceIte, ↓Nat.reduceEqDiff, xx, fd23, m23, ns_length]
  rw [iter_to (S23 f l) l.length (by unfold LF; omega)]
  · simp (disch := ((fail_if_success (intro _)); omega)) only [go_sem, simprocAttr, ↓reduceIte, ↓Nat.reduceEqDiff, xx, S23, ns_length]
  · simp (disch := ((fail_if_success (intro _)); omega)) only [go_sem, simprocAttr, ↓reduceIte, ↓Nat.reduceEqDiff, xx, S23, ns_length, fil]
  · exact hs
  · simp (disch := ((fail_if_success (intro _)); omega)) only [go_sem, simprocAttr, ↓reduceIte, ↓Nat.reduceEqDiff, xx, S23, ns_length]
def L27 : MC := match m27 with | .seq _ (.seq _ (.seq (.seq _ (.block _ (.loop _ b))) _)) => b | _ => .skip
def S27 (w s a : Int) (f : Bool) (l : List Int) (i : Nat) : St := ⟨[.set 4 (i64 i), .set 3 (i64 (fil l i)), .set 1 (.ptr 1 [])], [(1, .fix sK (.agg [i64 w, i64 s, i64 a, .lst f .sc (ns l)]))]⟩
theorem rfill_at (h : 1 ≤ n) {f : Bool} {w s a : Int} {l : List Int} (hl : l.length < 2 ^ 20) (hc : ∀ i, i < l.length → 0 ≤ nat l i ∧ nat l i ≤ 15) : call gl tab n 27 [.agg [i64 w, i64 s, i64 a, .lst f .sc (ns l)]] [] = some (i64 (fil l l.length), [], []) := by
  obtain ⟨d, rfl⟩ := Nat.exists_eq_add_of_le' h
  have hs : ∀ i, i < l.length → contK [.slot 1, .slot 3, .slot 4, .key 1] (evC gl (call gl tab d) L27 (S27 w s a f l i)) = some (S27 w s a f l (i + 1)) := fun i hi => by
    have hx := ns_at hi
    have hb := fil_bd l i
    have h2 := hc i hi
    by_cases h0 : nat l i = 0
    · have e : fil l (i + 1) = fil l i := by rw [fil, if_pos h0]; omega
      have h1 : ¬ 0 < nat l i := by omega
      simp (disch := ((fail_if_success (intro _)); omega)) only [go_sem, simprocAttr, ↓reduceIte, ↓Nat.reduceEqDiff, xx, L27, m27, S27, ns_length, hx, h1, e]
    · have e : fil l (i + 1) = fil l i + 1 := by rw [fil, if_neg h0]
      have h1 : 0 < nat l i := by omega
      simp (disch := ((fail_if_success (intro _)); omega)) only [go_sem, simprocAttr, ↓reduceIte, ↓Nat.reduceEqDiff, xx, L27, m27, S27, ns_length, hx, h1, e]
  simp only [L27, m27] at hs
  rw [call_go (fd := fd27) rfl]
  simp (disch := ((fail_if_success (intro _)); omega)) only [go_sem, simprocAttr, ↓reduceIte, ↓Nat.reduceEqDiff, xx, fd27, m27, ns_length]
  rw [iter_to (S27 w s a f l) l.length (by unfold LF; omega)]
  · simp (disch := ((fail_if_success (intro _)); omega)) only [go_sem, simprocAttr, ↓reduceIte, ↓Nat.reduceEqDiff, xx, S27, ns_length]
  · simp (disch := ((fail_if_success (intro _)); omega)) only [go_sem, simprocAttr, ↓reduceIte, ↓Nat.reduceEqDiff, xx, S27, ns_length, fil]
  · exact hs
  · simp (disch := ((fail_if_success (intro _)); omega)) only [go_sem, simprocAttr, ↓reduceIte, ↓Nat.reduceEqDiff, xx, S27, ns_length]
end Go.Proofs.S08
