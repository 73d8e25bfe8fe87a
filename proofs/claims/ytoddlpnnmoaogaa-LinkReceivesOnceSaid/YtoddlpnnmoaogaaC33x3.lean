/-
  Proved here: a frame is received once ('weirgatelaw33.LinkReceivesOnce'). Conditions: none beyond the row's own.
-/
import Derived.Test.YtoddlpnnmoaogaaW33L3
import Derived.Test.YtoddlpnnmoaogaaW33s
import Derived.Test.YtoddlpnnmoaogaaEvTop
import Derived.Test.YtoddlpnnmoaogaaRows
import Derived.ProofKit
set_option linter.unusedVariables false
set_option linter.unusedSimpArgs false
set_option linter.unusedSectionVars false
namespace Go.Proofs.Ytoddlpnnmoaogaa.linkReceivesOnce
open Go Go.Ev Go.Proofs Go.ChangeShapes Go.WideShapes Go.ChangeAt Go.RowKit
set_option linter.unusedVariables false
set_option maxRecDepth 100000
theorem own : ownKnob Try.prog.godebug = none := by kernel_rfl
theorem laidOk : laidOutB Try.prog = true := by kernel_rfl
theorem lifted (os : Os) (started : os.Started) (H : Type) (enc : TypeId × Value → H) :
    ReturnsInHanded {} Try.checked os 3 .any (Rows.linkReceivesOnceSpec.pre6 enc Try.prog Try.f3 Rows.linkReceivesOnceRow.domain false) (Rows.linkReceivesOnceSpec.post enc Try.prog Try.f3 false true false false) := by
  refine returnsInHanded_of_change (C := Try.checked) own started (by kernel_rfl) Try.func3
    (ChangeSpec.witness6 (enc := enc) (C := Try.checked) false ⟨#[], #[(.agg #[.int .i64 0, .slice none 0 0]), (.agg #[.bool false, .int .i64 0, .string .empty])], []⟩ 8 (by kernel_rfl) (by kernel_rfl) (by kernel_rfl) (by kernel_rfl)) ?_
  intro W base args ds gs before hval hW hcnd _
  exact law_contract (gl := S33.glS) (tab := S33.tab) (nn := 20 + 1) (f := 3) (fn := Try.f3) (kds := [.st [.int .i64, .sl S33.kF], S33.kF]) (tb := 4) (Checked.mixed Try.checked) S33.tab_ok laidOk (by kernel_rfl) (by kernel_rfl) (by kernel_rfl) (by kernel_rfl) rfl
    (fun ds hd => by
      match ds, (show ds.length = 2 from hd) with
      | [_, _], _ => rfl)
    (fun ar h => S33.law3 (n := 20) (by omega) S33.sanity20 ar h) TabOk.none hval hW
theorem holds : Rows.LinkReceivesOnceSaid :=
  OpenClaim.holds_of_wide 3 Try.f3 rfl rfl rfl rfl rfl rfl rfl ⟨rfl, rfl, rfl, rfl, rfl⟩ rfl rfl rfl rfl rfl (by kernel_rfl) Try.func3 (by kernel_rfl)
    (of_decide_eq_true (by kernel_rfl)) (by unfold Func.isWrapper; first | (rw [if_pos (by decide +kernel)]; kernel_rfl) | (rw [if_neg (by decide +kernel)]; exact ⟨rfl, rfl⟩))
    (fun os started H enc _ => lifted os started H enc)
end Go.Proofs.Ytoddlpnnmoaogaa.linkReceivesOnce
