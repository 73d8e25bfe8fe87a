/-
  Proved here: the receiver catches up ('weirgatelaw33.LinkCatchesUp'). Conditions: none beyond the row's own.
-/
import Derived.Test.YtoddlpnnmoaogaaW33L5
import Derived.Test.YtoddlpnnmoaogaaW33s
import Derived.Test.YtoddlpnnmoaogaaEvTop
import Derived.Test.YtoddlpnnmoaogaaRows
import Derived.ProofKit
set_option linter.unusedVariables false
set_option linter.unusedSimpArgs false
set_option linter.unusedSectionVars false
namespace Go.Proofs.Ytoddlpnnmoaogaa.linkCatchesUp
open Go Go.Ev Go.Proofs Go.ChangeShapes Go.WideShapes Go.ChangeAt Go.RowKit
set_option linter.unusedVariables false
set_option maxRecDepth 100000
theorem own : ownKnob Try.prog.godebug = none := by kernel_rfl
theorem laidOk : laidOutB Try.prog = true := by kernel_rfl
theorem lifted (os : Os) (started : os.Started) (H : Type) (enc : TypeId × Value → H) :
    ReturnsInHanded {} Try.checked os 5 .any (Rows.linkCatchesUpSpec.pre6 enc Try.prog Try.f5 Rows.linkCatchesUpRow.domain false) (Rows.linkCatchesUpSpec.post enc Try.prog Try.f5 false true false false) := by
  refine returnsInHanded_of_change (C := Try.checked) own started (by kernel_rfl) Try.func5
    (ChangeSpec.witness6 (enc := enc) (C := Try.checked) false ⟨#[], #[.slice none 0 0], []⟩ 8 (by kernel_rfl) (by kernel_rfl) (by kernel_rfl) (by kernel_rfl)) ?_
  intro W base args ds gs before hval hW hcnd _
  exact law_contract (gl := S33.glS) (tab := S33.tab) (nn := 20 + 1) (f := 5) (fn := Try.f5) (kds := [.sl S33.kAct]) (tb := 4) (Checked.mixed Try.checked) S33.tab_ok laidOk (by kernel_rfl) (by kernel_rfl) (by kernel_rfl) (by kernel_rfl) rfl
    (fun ds hd => by
      match ds, (show ds.length = 1 from hd) with
      | [_], _ => rfl)
    (fun ar h => S33.law5 (n := 20) (by omega) S33.sanity20 ar h) TabOk.none hval hW
theorem holds : Rows.LinkCatchesUpSaid :=
  OpenClaim.holds_of_wide 5 Try.f5 rfl rfl rfl rfl rfl rfl rfl ⟨rfl, rfl, rfl, rfl, rfl⟩ rfl rfl rfl rfl rfl (by kernel_rfl) Try.func5 (by kernel_rfl)
    (of_decide_eq_true (by kernel_rfl)) (by unfold Func.isWrapper; first | (rw [if_pos (by decide +kernel)]; kernel_rfl) | (rw [if_neg (by decide +kernel)]; exact ⟨rfl, rfl⟩))
    (fun os started H enc _ => lifted os started H enc)
end Go.Proofs.Ytoddlpnnmoaogaa.linkCatchesUp
