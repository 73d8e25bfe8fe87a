/-
  Proved here: old news changes nothing ('weirgatelaw39.CreditOldNewsChangesNothing'). Conditions: none beyond the row's own.
-/
import Derived.Test.YtdbppejfcolacaaS39L4
import Derived.Test.YtdbppejfcolacaaS39s
import Derived.Test.YtdbppejfcolacaaEvTop2
import Derived.Test.YtdbppejfcolacaaRows
import Derived.ProofKit
namespace Go.Proofs.Ytdbppejfcolacaa.creditOldNewsChangesNothing
open Go Go.Ev Go.Proofs Go.ChangeShapes Go.WideShapes Go.ChangeAt Go.RowKit
set_option linter.unusedVariables false
set_option maxRecDepth 100000
theorem own : ownKnob Try.prog.godebug = none := by kernel_rfl
theorem laidOk : laidOutB Try.prog = true := by kernel_rfl
theorem lifted (os : Os) (started : os.Started) (H : Type) (enc : TypeId × Value → H) :
    ReturnsInHanded {} Try.checked os 4 .any (Rows.creditOldNewsChangesNothingSpec.pre6 enc Try.prog Try.f4 Rows.creditOldNewsChangesNothingRow.domain false) (Rows.creditOldNewsChangesNothingSpec.post enc Try.prog Try.f4 false true false false) := by
  refine returnsInHanded_of_change (C := Try.checked) own started (by kernel_rfl) Try.func4
    (ChangeSpec.witness6 (enc := enc) (C := Try.checked) false ⟨#[], #[(.agg #[.int .i64 0, .int .i64 0, .slice none 0 0]), (.agg #[.int .i64 0, .slice none 0 0]), .int .i64 0, .int .i64 0, .int .i64 0, .int .i64 0], []⟩ 8 (by kernel_rfl) (by kernel_rfl) (by kernel_rfl) (by kernel_rfl)) ?_
  intro W base args ds gs before hval hW hcnd _
  exact law_contract (gl := fun _ => none) (tab := S39.tab) (nn := 20 + 1) (f := 4) (fn := Try.f4) (kds := [S39.kB, S39.kU, .int .i64, .int .i64, .int .i64, .int .i64]) (tb := 4) (Checked.mixed Try.checked) S39.tab_ok laidOk (by kernel_rfl) (by kernel_rfl) (by kernel_rfl) (by kernel_rfl) rfl
    (fun ds hd => by
      match ds, (show ds.length = 6 from hd) with
      | [_, _, _, _, _, _], _ => rfl)
    (fun ar h => S39.law4 (n := 20) (by omega) S39.sanity20 ar h) (fun _ _ _ h => by cases h) hval hW
theorem holds : Rows.CreditOldNewsChangesNothingSaid :=
  OpenClaim.holds_of_wide 4 Try.f4 rfl rfl rfl rfl rfl rfl rfl ⟨rfl, rfl, rfl, rfl, rfl⟩ rfl rfl rfl rfl rfl (by kernel_rfl) Try.func4 (by kernel_rfl)
    (of_decide_eq_true (by kernel_rfl)) (by unfold Func.isWrapper; first | (rw [if_pos (by decide +kernel)]; kernel_rfl) | (rw [if_neg (by decide +kernel)]; exact ⟨rfl, rfl⟩))
    (fun os started H enc _ => lifted os started H enc)
end Go.Proofs.Ytdbppejfcolacaa.creditOldNewsChangesNothing
