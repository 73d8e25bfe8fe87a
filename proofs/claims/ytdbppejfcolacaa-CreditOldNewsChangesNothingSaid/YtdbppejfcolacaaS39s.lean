/-
  Chapter 39: the examples. No condition.
-/
import Derived.Test.YtdbppejfcolacaaS39
import Derived.KernelRfl
namespace Go.Proofs.S39
open Go Go.Ev Go.Proofs
theorem sanity20 : call (fun _ => none) tab 20 8 [] [] = some (.bool true, [], []) := by kernel_rfl
end Go.Proofs.S39
