/-
  Chapter 16: the examples. No condition.
-/
import Derived.Test.YtjkgmpckddolfaaW16
import Derived.KernelRfl
set_option linter.unusedVariables false
set_option linter.unusedSimpArgs false
set_option linter.unusedSectionVars false
namespace Go.Proofs.S16
open Go Go.Ev Go.Proofs
theorem sanity20 : call glS tab 20 9 [] [] = some (.bool true, [], []) := by kernel_rfl
end Go.Proofs.S16
