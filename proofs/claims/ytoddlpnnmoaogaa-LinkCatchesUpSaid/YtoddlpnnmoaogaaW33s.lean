/-
  Chapter 33: the examples. No condition.
-/
import Derived.Test.YtoddlpnnmoaogaaW33
import Derived.KernelRfl
set_option linter.unusedVariables false
set_option linter.unusedSimpArgs false
set_option linter.unusedSectionVars false
namespace Go.Proofs.S33
open Go Go.Ev Go.Proofs
theorem sanity20 : call glS tab 20 7 [] [] = some (.bool true, [], []) := by kernel_rfl
end Go.Proofs.S33
