/-
  Chapter 33: what is left ahead. No condition.
-/
import Derived.Test.YtoddlpnnmoaogaaW33i
set_option linter.unusedVariables false
set_option linter.unusedSimpArgs false
set_option linter.unusedSectionVars false
namespace Go.Proofs.S33
open Go Go.Ev Go.Proofs
set_option linter.unusedSimpArgs false
set_option linter.unusedVariables false
variable {gl : Gl} {n : Nat}
/-- The number after a frame. -/
def aft (x : Fm) : Int := if x.s = true then x.q else x.q + 1
theorem drop_take (l : List Fm) (a : Nat) (z : AV) : List.take (l.length - a) (fm (l.drop a) ++ List.replicate a z) = fm (l.drop a) := by
  have h4 : l.length - a = (fm (l.drop a)).length := by simp [fm_length]
  rw [h4, List.take_left']; rfl
theorem drop_len (l : List Fm) (a : Nat) : (l.drop a).length = l.length - a := List.length_drop
end Go.Proofs.S33
