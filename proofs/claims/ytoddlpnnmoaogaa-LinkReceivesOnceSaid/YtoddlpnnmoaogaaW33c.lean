/-
  Chapter 33: comparing. No condition.
-/
import Derived.Test.YtoddlpnnmoaogaaW33a
set_option linter.unusedVariables false
set_option linter.unusedSimpArgs false
set_option linter.unusedSectionVars false
namespace Go.Proofs.S33
open Go Go.Ev Go.Proofs
set_option linter.unusedSimpArgs false
set_option linter.unusedVariables false
variable {gl : Gl} {n : Nat}
def L9 : MC := match m9 with | .seq _ (.seq _ (.seq (.seq _ (.block _ (.loop _ b))) _)) => b | _ => .skip
def S9 (f f' : Bool) (k k' : Sh) (l : List Fm) (i : Nat) : St := ⟨[.set 5 (i64 i), .set 1 (.lst f' k' (fm l)), .set 0 (.lst f k (fm l))], []⟩
theorem sameF_at (h : 1 ≤ n) {f f' : Bool} {k k' : Sh} {l : List Fm} (hm : Mk l k) (hm' : Mk l k') (hl : l.length < 2 ^ 60) : call gl tab n 9 [.lst f k (fm l), .lst f' k' (fm l)] [] = some (.bool true, [], []) := by
  obtain ⟨d, rfl⟩ := Nat.exists_eq_add_of_le' h
  have hs : ∀ i, i < l.length → contK [.slot 0, .slot 1, .slot 5] (evC gl (call gl tab d) L9 (S9 f f' k k' l i)) = some (S9 f f' k k' l (i + 1)) := fun i hi => by
    have hx := fm_at hi
    obtain rfl := hm.eq hi
    obtain rfl := hm'.eq hi
    simp (disch := ((fail_if_success (intro _)); omega)) only [go_sem, simprocAttr, ↓reduceIte, xx, L9, m9, S9, fm_length, hx, eqAV, eqAVs, beq_self_eq_true]
  simp only [L9, m9] at hs
  rw [call_go (fd := fd9) rfl]
  simp (disch := ((fail_if_success (intro _)); omega)) only [go_sem, simprocAttr, ↓reduceIte, xx, fd9, m9, fm_length]
  rw [iter_to (S9 f f' k k' l) l.length (by unfold LF; omega)]
  · simp (disch := ((fail_if_success (intro _)); omega)) only [go_sem, simprocAttr, ↓reduceIte, xx, S9, fm_length]
  · simp (disch := ((fail_if_success (intro _)); omega)) only [go_sem, simprocAttr, ↓reduceIte, xx, S9, fm_length]
  · exact hs
  · simp (disch := ((fail_if_success (intro _)); omega)) only [go_sem, simprocAttr, ↓reduceIte, xx, S9, fm_length]
theorem sameIn_at (h : 2 ≤ n) {f f' : Bool} {k k' : Sh} {nx : Int} {l : List Fm} (hm : Mk l k) (hm' : Mk l k') (hl : l.length < 2 ^ 60) :
    call gl tab n 10 [.agg [i64 nx, .lst f k (fm l)], .agg [i64 nx, .lst f' k' (fm l)]] [] = some (.bool true, [], []) := by
  obtain ⟨d, rfl⟩ := Nat.exists_eq_add_of_le' h
  have c9 := @sameF_at gl (d + 1) (by omega) f f' k k' l hm hm' hl
  rw [call_go (fd := fd10) rfl]
  simp (disch := ((fail_if_success (intro _)); omega)) only [go_sem, simprocAttr, ↓reduceIte, xx, fd10, m10, c9]
end Go.Proofs.S33
