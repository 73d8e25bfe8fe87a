/-
  Proved here: proofs are made as specified ('weirgate/weirgatelaw44.ReplylogProvesAsSpecified'). Conditions: none beyond the row's own.
-/
import Derived.Test.YtcddalfeicoedaaGreatDoorW44G24x6
import Derived.Test.YtcddalfeicoedaaGreatDoorW44y
set_option linter.all false
namespace Go.Proofs.YtcddalfeicoedaaGreatDoor.replylogProvesAsSpecified
open Go Go.Ev Go.Proofs Go.ChangeShapes Go.WideShapes Go.ChangeAt Go.RowKit
set_option maxRecDepth 100000
def wA : Array Value := #[(.agg (#[.int .i64 0, .slice none 0 0, .int .i64 0, .slice none 0 0, .slice none 0 0])), .int .i64 0, (.agg (#[.int .i64 0, .int .i64 0] ++ Array.replicate 16 (.int .u8 0) ++ #[.int .i64 0, .int .i64 0, .int .i64 0] ++ Array.replicate 16 (.int .u8 0))), (.agg (#[.int .i64 0, .int .i64 0] ++ Array.replicate 16 (.int .u8 0) ++ #[.int .i64 0, .int .i64 0, .int .i64 0] ++ Array.replicate 16 (.int .u8 0)))]
theorem contract (H : Type) (enc : TypeId × Value → H) (W : World) (base : Nat) (args : Array Value) (ds gs : List (DataW H)) (before : List MemPlace)
    (hval : ∀ (j : Nat) t v, Tryz.f6.params[j]? = some t → args[j]? = some v → Value.okWide Tryz.prog W .any base t v)
    (hW : DataW.Whole enc Tryz.prog Tryz.f6.params.toList Rows.replylogProvesAsSpecifiedSpec.vars false W args.toList ds gs before) (hL : laidMetH Tryz.prog Rows.replylogProvesAsSpecifiedRow.laid W) :
    Calls Tryz.prog 6 args W fun e W' => ∃ v, e = .returned v ∧ Rows.replylogProvesAsSpecifiedSpec.post enc Tryz.prog Tryz.f6 false true false false W args v W' :=
  zrm (gl := gl3) (tab := S44.tab) (nn := 2010 + 1) (f := 6) (fn := Tryz.f6) (kds := [S44.L.kLd, S44.L.kI, S44.L.kHd, S44.L.kHd]) (tb := 4) (Checked.mixed Tryz.checked) z9b qfc (by kernel_rfl) (by kernel_rfl) (by kernel_rfl) (by kernel_rfl) rfl
    (fun ds hd => by
      match ds, (show ds.length = 4 from hd) with
      | [_, _, _, _], _ => rfl)
    (fun ar h => @S44.L.law6 gl3 2010 qf2 qf1 qf3 (by omega) ar h) (qln hL) hval hW
theorem laid_met (os : Os) : laidMet Tryz.prog Rows.replylogProvesAsSpecifiedRow.laid ((zmh os).forCall (fun _ _ => 0) ⟨#[], wA, []⟩).memory :=
  laidMet_of_run' 8 (by kernel_rfl) (by kernel_rfl)
theorem reads (os : Os) {H : Type} (enc : TypeId × Value → H) : ∃ places, DataW.whole enc Tryz.prog ((zmh os).forCall (fun _ _ => 0) ⟨#[], wA, []⟩).memory Tryz.f6.params.toList Rows.replylogProvesAsSpecifiedSpec.vars false wA.toList 8 = some ([.agg [.lit (.int .i64 0), .nil, .agg [.lit (.int .i64 0), .nil], .nil], .lit (.int .i64 0), .agg [.lit (.int .i64 0), .lit (.int .i64 0), .agg [.lit (.int .u8 0), .lit (.int .u8 0), .lit (.int .u8 0), .lit (.int .u8 0), .lit (.int .u8 0), .lit (.int .u8 0), .lit (.int .u8 0), .lit (.int .u8 0), .lit (.int .u8 0), .lit (.int .u8 0), .lit (.int .u8 0), .lit (.int .u8 0), .lit (.int .u8 0), .lit (.int .u8 0), .lit (.int .u8 0), .lit (.int .u8 0)], .agg [.lit (.int .i64 0), .lit (.int .i64 0)], .lit (.int .i64 0), .agg [.lit (.int .u8 0), .lit (.int .u8 0), .lit (.int .u8 0), .lit (.int .u8 0), .lit (.int .u8 0), .lit (.int .u8 0), .lit (.int .u8 0), .lit (.int .u8 0), .lit (.int .u8 0), .lit (.int .u8 0), .lit (.int .u8 0), .lit (.int .u8 0), .lit (.int .u8 0), .lit (.int .u8 0), .lit (.int .u8 0), .lit (.int .u8 0)]], .agg [.lit (.int .i64 0), .lit (.int .i64 0), .agg [.lit (.int .u8 0), .lit (.int .u8 0), .lit (.int .u8 0), .lit (.int .u8 0), .lit (.int .u8 0), .lit (.int .u8 0), .lit (.int .u8 0), .lit (.int .u8 0), .lit (.int .u8 0), .lit (.int .u8 0), .lit (.int .u8 0), .lit (.int .u8 0), .lit (.int .u8 0), .lit (.int .u8 0), .lit (.int .u8 0), .lit (.int .u8 0)], .agg [.lit (.int .i64 0), .lit (.int .i64 0)], .lit (.int .i64 0), .agg [.lit (.int .u8 0), .lit (.int .u8 0), .lit (.int .u8 0), .lit (.int .u8 0), .lit (.int .u8 0), .lit (.int .u8 0), .lit (.int .u8 0), .lit (.int .u8 0), .lit (.int .u8 0), .lit (.int .u8 0), .lit (.int .u8 0), .lit (.int .u8 0), .lit (.int .u8 0), .lit (.int .u8 0), .lit (.int .u8 0), .lit (.int .u8 0)]]], [], places) :=
  ⟨[], by kernel_rfl⟩
theorem lifted (os : Os) (started : os.Started) (H : Type) (enc : TypeId × Value → H) (F : Stop.Interp) :
    ReturnsInHanded {} Tryz.checked os 6 .any ((OpenSpec.ofChange Rows.replylogProvesAsSpecifiedSpec).preRow enc Tryz.prog Tryz.f6 Rows.replylogProvesAsSpecifiedRow.domain false Rows.replylogProvesAsSpecifiedRow.laid) (((OpenSpec.ofChange Rows.replylogProvesAsSpecifiedSpec).at F).post enc Tryz.prog Tryz.f6 false true false false) := by
  obtain ⟨places, hx⟩ := reads os enc
  refine returnsInHanded_of_row (C := Tryz.checked) (s := OpenSpec.ofChange Rows.replylogProvesAsSpecifiedSpec) own started (by kernel_rfl) Tryz.func6
    (witness_row_at (enc := enc) (C := Tryz.checked) false (zmh os) wA rfl (by kernel_rfl) (by kernel_rfl) (by kernel_rfl)
      (OpenSpec.preRow_of_cond 8 hx (by kernel_rfl) (fun k hk => by cases hk) (by kernel_rfl) (laid_met os))) ?_
  intro W base args ds gs before hval hW _ _ _ hL _ _
  exact contract H enc W base args ds gs before hval hW hL
theorem said : Rows.ReplylogProvesAsSpecifiedSaid :=
  OpenClaim.holds_of_cond 6 Tryz.f6 rfl rfl rfl rfl rfl rfl rfl ⟨rfl, rfl, rfl, rfl, rfl⟩ rfl rfl rfl rfl rfl (by kernel_rfl) Tryz.func6 (by kernel_rfl)
    (of_decide_eq_true (by kernel_rfl)) (by unfold Func.isWrapper; first | (rw [if_pos (by decide +kernel)]; kernel_rfl) | (rw [if_neg (by decide +kernel)]; exact ⟨rfl, rfl⟩))
    (fun os started H enc _ F => by rw [OpenClaim.pre_eq_preRow]; exact lifted os started H enc F)
theorem plain (f : FuncId) (fn : Func) (hf : Tryz.pinned.checked.prog.funcNamed "weirgate/weirgatelaw44.ReplylogProvesAsSpecified" = some f) (hfn : Tryz.pinned.checked.prog.funcs[f]? = some fn) :
    false = Tryz.pinned.checked.prog.looks [] ∧ ∀ (j : Nat) t, fn.params[j]? = some t → Tryz.pinned.checked.prog.wantsStandIn t = false := by
  obtain rfl : f = 6 := Option.some.inj ((show Tryz.prog.funcNamed "weirgate/weirgatelaw44.ReplylogProvesAsSpecified" = some 6 by kernel_rfl).symm.trans hf) |>.symm
  obtain rfl : fn = Tryz.f6 := (Option.some.inj (Tryz.func6.symm.trans hfn)).symm
  refine ⟨by kernel_rfl, fun j t ht => ?_⟩
  rw [Tryz.params6] at ht
  have hm := Array.mem_of_getElem? ht
  simp only [List.mem_toArray, List.mem_cons, List.not_mem_nil, or_false] at hm
  rcases hm with rfl | rfl | rfl | rfl
  · exact (show Tryz.prog.wantsStandIn 28 = false by kernel_rfl)
  · exact (show Tryz.prog.wantsStandIn 3 = false by kernel_rfl)
  · exact (show Tryz.prog.wantsStandIn 64 = false by kernel_rfl)
  · exact (show Tryz.prog.wantsStandIn 64 = false by kernel_rfl)
theorem card : Rows.ReplylogProvesAsSpecifiedCardSaid :=
  Claim7.holds_tied_plain_at .later [] _ _ _ _ said (fun _ h => by cases h) (by kernel_rfl) (fun _ h => by cases h) replylogProvesAsSpecified_row_tie rfl ⟨rfl, rfl⟩ (by kernel_rfl) rfl plain (by kernel_rfl)
end Go.Proofs.YtcddalfeicoedaaGreatDoor.replylogProvesAsSpecified
