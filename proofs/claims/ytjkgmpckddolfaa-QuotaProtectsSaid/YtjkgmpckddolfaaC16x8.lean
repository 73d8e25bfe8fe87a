/-
  Proved here: who is within its part is protected ('weirgatelaw16.QuotaProtects'). Conditions: none beyond the row's own.
-/
import Derived.Test.YtjkgmpckddolfaaW16L8
import Derived.Test.YtjkgmpckddolfaaW16s
import Derived.Test.YtjkgmpckddolfaaEvTop
import Derived.Test.YtjkgmpckddolfaaRows
import Derived.ProofKit
set_option linter.unusedVariables false
set_option linter.unusedSimpArgs false
set_option linter.unusedSectionVars false
namespace Go.Proofs.Ytjkgmpckddolfaa.quotaProtects
open Go Go.Ev Go.Proofs Go.ChangeShapes Go.WideShapes Go.ChangeAt Go.RowKit
set_option linter.unusedVariables false
set_option maxRecDepth 100000
theorem own : ownKnob Try.prog.godebug = none := by kernel_rfl
theorem laidOk : laidOutB Try.prog = true := by kernel_rfl
theorem lifted (os : Os) (started : os.Started) (H : Type) (enc : TypeId × Value → H) :
    ReturnsInHanded {} Try.checked os 8 .any (Rows.quotaProtectsSpec.pre6 enc Try.prog Try.f8 Rows.quotaProtectsRow.domain false) (Rows.quotaProtectsSpec.post enc Try.prog Try.f8 false true false false) := by
  refine returnsInHanded_of_change (C := Try.checked) own started (by kernel_rfl) Try.func8
    (ChangeSpec.witness6 (enc := enc) (C := Try.checked) false ⟨#[], #[.int .i64 0, .slice none 0 0, .int .u8 0, .int .i64 0], []⟩ 8 (by kernel_rfl) (by kernel_rfl) (by kernel_rfl) (by kernel_rfl)) ?_
  intro W base args ds gs before hval hW hcnd _
  exact law_contract (gl := S16.glS) (tab := S16.tab) (nn := 20 + 1) (f := 8) (fn := Try.f8) (kds := [.int .i64, .sl S16.kA, .int .u8, .int .i64]) (tb := 4) (Checked.mixed Try.checked) S16.tab_ok laidOk (by kernel_rfl) (by kernel_rfl) (by kernel_rfl) (by kernel_rfl) rfl
    (fun ds hd => by
      match ds, (show ds.length = 4 from hd) with
      | [_, _, _, _], _ => rfl)
    (fun ar h => S16.law8 (n := 20) (by omega) S16.sanity20 ar h) TabOk.none hval hW
theorem holds : Rows.QuotaProtectsSaid :=
  OpenClaim.holds_of_wide 8 Try.f8 rfl rfl rfl rfl rfl rfl rfl ⟨rfl, rfl, rfl, rfl, rfl⟩ rfl rfl rfl rfl rfl (by kernel_rfl) Try.func8 (by kernel_rfl)
    (of_decide_eq_true (by kernel_rfl)) (by unfold Func.isWrapper; first | (rw [if_pos (by decide +kernel)]; kernel_rfl) | (rw [if_neg (by decide +kernel)]; exact ⟨rfl, rfl⟩))
    (fun os started H enc _ => lifted os started H enc)
end Go.Proofs.Ytjkgmpckddolfaa.quotaProtects
