/-
  Proved here: the planned load fits ('weirgate/weirgatetop.TopPlannedLoadFits'). Conditions: none beyond the row's own.
-/
import Derived.Test.YtaloneiaejhopaaGreatDoorW51G13x3
set_option linter.all false
namespace Go.Proofs.YtaloneiaejhopaaGreatDoor.topPlannedLoadFits
open Go Go.Ev Go.Proofs Go.ChangeShapes Go.WideShapes Go.ChangeAt Go.RowKit
set_option maxRecDepth 100000
def wA : Array Value := #[(.agg (#[.slice none 0 0, .slice none 0 0])), .int .u8 0]
theorem contract (H : Type) (enc : TypeId × Value → H) (W : World) (base : Nat) (args : Array Value) (ds gs : List (DataW H)) (before : List MemPlace)
    (hval : ∀ (j : Nat) t v, Tryz.f3.params[j]? = some t → args[j]? = some v → Value.okWide Tryz.prog W .any base t v)
    (hW : DataW.Whole enc Tryz.prog Tryz.f3.params.toList Rows.topPlannedLoadFitsSpec.vars false W args.toList ds gs before) (hL : laidMetH Tryz.prog Rows.topPlannedLoadFitsRow.laid W) :
    Calls Tryz.prog 3 args W fun e W' => ∃ v, e = .returned v ∧ Rows.topPlannedLoadFitsSpec.post enc Tryz.prog Tryz.f3 false true false false W args v W' :=
  ym (gl := gl1) (tab := S51.tab) (nn := 100 + 1) (f := 3) (fn := Tryz.f3) (kds := [S51.kP, .int .u8]) (tb := 4) (Checked.mixed Tryz.checked) Mf R9 (by kernel_rfl) (by kernel_rfl) (by kernel_rfl) (by kernel_rfl) rfl
    (fun ds hd => by
      match ds, (show ds.length = 2 from hd) with
      | [_, _], _ => rfl)
    (fun ar h => @S51.law3 gl1 100 SA (by omega) ar h) (VL hL) hval hW
theorem laid_met (os : Os) : laidMet Tryz.prog Rows.topPlannedLoadFitsRow.laid ((pA os).forCall (fun _ _ => 0) ⟨#[], wA, []⟩).memory :=
  laidMet_of_run' 8 (by kernel_rfl) (by kernel_rfl)
theorem reads (os : Os) {H : Type} (enc : TypeId × Value → H) : ∃ places, DataW.whole enc Tryz.prog ((pA os).forCall (fun _ _ => 0) ⟨#[], wA, []⟩).memory Tryz.f3.params.toList Rows.topPlannedLoadFitsSpec.vars false wA.toList 8 = some ([.agg [.nil, .nil], .lit (.int .u8 0)], [], places) :=
  ⟨[], by kernel_rfl⟩
theorem lifted (os : Os) (started : os.Started) (H : Type) (enc : TypeId × Value → H) (F : Stop.Interp) :
    ReturnsInHanded {} Tryz.checked os 3 .any ((OpenSpec.ofChange Rows.topPlannedLoadFitsSpec).preRow enc Tryz.prog Tryz.f3 Rows.topPlannedLoadFitsRow.domain false Rows.topPlannedLoadFitsRow.laid) (((OpenSpec.ofChange Rows.topPlannedLoadFitsSpec).at F).post enc Tryz.prog Tryz.f3 false true false false) := by
  obtain ⟨places, hx⟩ := reads os enc
  refine returnsInHanded_of_row (C := Tryz.checked) (s := OpenSpec.ofChange Rows.topPlannedLoadFitsSpec) own started (by kernel_rfl) Tryz.func3
    (witness_row_at (enc := enc) (C := Tryz.checked) false (pA os) wA rfl (by kernel_rfl) (by kernel_rfl) (by kernel_rfl)
      (OpenSpec.preRow_of_cond 8 hx (by kernel_rfl) (fun k hk => by cases hk) (by kernel_rfl) (laid_met os))) ?_
  intro W base args ds gs before hval hW _ _ _ hL _ _
  exact contract H enc W base args ds gs before hval hW hL
theorem said : Rows.TopPlannedLoadFitsSaid :=
  OpenClaim.holds_of_cond 3 Tryz.f3 rfl rfl rfl rfl rfl rfl rfl ⟨rfl, rfl, rfl, rfl, rfl⟩ rfl rfl rfl rfl rfl (by kernel_rfl) Tryz.func3 (by kernel_rfl)
    (of_decide_eq_true (by kernel_rfl)) (by unfold Func.isWrapper; first | (rw [if_pos (by decide +kernel)]; kernel_rfl) | (rw [if_neg (by decide +kernel)]; exact ⟨rfl, rfl⟩))
    (fun os started H enc _ F => by rw [OpenClaim.pre_eq_preRow]; exact lifted os started H enc F)
theorem plain (f : FuncId) (fn : Func) (hf : Tryz.pinned.checked.prog.funcNamed "weirgate/weirgatetop.TopPlannedLoadFits" = some f) (hfn : Tryz.pinned.checked.prog.funcs[f]? = some fn) :
    false = Tryz.pinned.checked.prog.looks [] ∧ ∀ (j : Nat) t, fn.params[j]? = some t → Tryz.pinned.checked.prog.wantsStandIn t = false := by
  obtain rfl : f = 3 := Option.some.inj ((show Tryz.prog.funcNamed "weirgate/weirgatetop.TopPlannedLoadFits" = some 3 by kernel_rfl).symm.trans hf) |>.symm
  obtain rfl : fn = Tryz.f3 := (Option.some.inj (Tryz.func3.symm.trans hfn)).symm
  refine ⟨by kernel_rfl, fun j t ht => ?_⟩
  rw [Tryz.params3] at ht
  have hm := Array.mem_of_getElem? ht
  simp only [List.mem_toArray, List.mem_cons, List.not_mem_nil, or_false] at hm
  rcases hm with rfl | rfl
  · exact (show Tryz.prog.wantsStandIn 25 = false by kernel_rfl)
  · exact (show Tryz.prog.wantsStandIn 5 = false by kernel_rfl)
theorem card : Rows.TopPlannedLoadFitsCardSaid :=
  Claim7.holds_tied_plain_at .later [] _ _ _ _ said (fun _ h => by cases h) (by kernel_rfl) (fun _ h => by cases h) topPlannedLoadFits_row_tie rfl ⟨rfl, rfl⟩ (by kernel_rfl) rfl plain (by kernel_rfl)
end Go.Proofs.YtaloneiaejhopaaGreatDoor.topPlannedLoadFits
