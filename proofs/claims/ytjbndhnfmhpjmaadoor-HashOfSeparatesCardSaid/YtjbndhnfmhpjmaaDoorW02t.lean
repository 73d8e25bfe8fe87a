/-
  What the claims of this chapter share: the tables, and a world that holds them. No condition.
-/
import Derived.Test.YtjbndhnfmhpjmaaDoorW02A
import Derived.Test.YtjbndhnfmhpjmaaDoorCards
import Derived.Test.YtjbndhnfmhpjmaaDoorTie
import Derived.ProofKit
import Derived.OpenShut
import Derived.Deep.DeepHandedRow
import Derived.Lib.LaidTab
import Derived.MakeChecks
namespace Go.Proofs.YtjbndhnfmhpjmaaDoor
open Go Go.Ev Go.Proofs Go.ChangeShapes Go.WideShapes Go.ChangeAt Go.RowKit
set_option linter.unusedVariables false
set_option linter.unusedSimpArgs false
theorem own : ownKnob Tryd.prog.godebug = none := by kernel_rfl
theorem gNib : Tryd.prog.globalNamed "weirgate/hash.nibbles" = some 1 := by kernel_rfl
theorem gCon : Tryd.prog.globalNamed "weirgate/hash.constants" = some 2 := by kernel_rfl
theorem gRef : Tryd.prog.globalNamed "weirgate/weirgateref02.constants" = some 0 := by kernel_rfl
theorem gNibT : (Tryd.prog.globals[1]?).map (·.type) = some 79 := by kernel_rfl
theorem gConT : (Tryd.prog.globals[2]?).map (·.type) = some 73 := by kernel_rfl
theorem gRefT : (Tryd.prog.globals[0]?).map (·.type) = some 73 := by kernel_rfl
theorem kNib : kdOf Tryd.prog 8 79 = some (.ar 16 (.int .u64)) := by kernel_rfl
theorem kCon : kdOf Tryd.prog 8 73 = some (.ar 64 (.int .u32)) := by kernel_rfl
theorem avNib : AV.agg S02.nibA = avD (H := Unit) (.ar 16 (.int .u64)) Rows.laid_weirgate_hash_nibbles := by kernel_rfl
theorem avCon : AV.agg S02.kA = avD (H := Unit) (.ar 64 (.int .u32)) Rows.laid_weirgate_hash_constants := by kernel_rfl
theorem avRef : AV.agg S02.kA = avD (H := Unit) (.ar 64 (.int .u32)) Rows.laid_weirgate_weirgateref02_constants := by kernel_rfl
theorem laidOk : laidOutB Tryd.prog = true := by kernel_rfl
abbrev laid2 : List (String × DataW Unit) := [("weirgate/hash.nibbles", Rows.laid_weirgate_hash_nibbles), ("weirgate/hash.constants", Rows.laid_weirgate_hash_constants)]
theorem glOk2 {W : World} (h : laidMetH Tryd.prog laid2 W) : GlOk W.heap (allGh W.heap) (S02.gl false) := by
  have h : laidMet Tryd.prog laid2 W := h
  refine glOk_laid h fun g sh a hg => ?_
  match g, hg with
  | 0, hg => cases hg
  | 1, hg =>
    obtain ⟨rfl, rfl⟩ := Prod.mk.inj (Option.some.inj hg)
    exact ⟨_, List.mem_cons_self, 8, 79, _, gNib, gNibT, kNib, rfl, avNib⟩
  | 2, hg =>
    obtain ⟨rfl, rfl⟩ := Prod.mk.inj (Option.some.inj hg)
    exact ⟨_, List.mem_cons_of_mem _ List.mem_cons_self, 8, 73, _, gCon, gConT, kCon, rfl, avCon⟩
  | _ + 3, hg => cases hg
abbrev laid3 : List (String × DataW Unit) := [("weirgate/weirgateref02.constants", Rows.laid_weirgate_weirgateref02_constants), ("weirgate/hash.nibbles", Rows.laid_weirgate_hash_nibbles), ("weirgate/hash.constants", Rows.laid_weirgate_hash_constants)]
theorem glOk3 {W : World} (h : laidMetH Tryd.prog laid3 W) : GlOk W.heap (allGh W.heap) (S02.gl true) := by
  have h : laidMet Tryd.prog laid3 W := h
  refine glOk_laid h fun g sh a hg => ?_
  match g, hg with
  | 0, hg =>
    obtain ⟨rfl, rfl⟩ := Prod.mk.inj (Option.some.inj hg)
    exact ⟨_, List.mem_cons_self, 8, 73, _, gRef, gRefT, kCon, rfl, avRef⟩
  | 1, hg =>
    obtain ⟨rfl, rfl⟩ := Prod.mk.inj (Option.some.inj hg)
    exact ⟨_, List.mem_cons_of_mem _ List.mem_cons_self, 8, 79, _, gNib, gNibT, kNib, rfl, avNib⟩
  | 2, hg =>
    obtain ⟨rfl, rfl⟩ := Prod.mk.inj (Option.some.inj hg)
    exact ⟨_, List.mem_cons_of_mem _ (List.mem_cons_of_mem _ List.mem_cons_self), 8, 73, _, gCon, gConT, kCon, rfl, avCon⟩
  | _ + 3, hg => cases hg
def nibCells : Array Value := (S02.nibs.map fun x => Value.int .u64 (x.toNat : Int)).toArray
def conCells : Array Value := (S02.kList.map fun x => Value.int .u32 (x.toNat : Int)).toArray
/-- Cells with other contents. -/
def put (vs : Array Value) : Obj → Obj
  | .cells _ t frozen => .cells vs t frozen
  | o => o
/-- A world for the witness: the settled one, the tables holding what their initialisers lay. -/
noncomputable def laidWorld (os : Os) : World :=
  { World.holding Tryd.prog os ⟨#[], #[], []⟩ with heap := (((World.holding Tryd.prog os ⟨#[], #[], []⟩).heap.modify 1 (put nibCells)).modify 2 (put conCells)).modify 0 (put conCells) }
end Go.Proofs.YtjbndhnfmhpjmaaDoor
