/-
  DERIVED. GIVEN WITH THE SEED: THE PROGRAM's TIES (one call each: nine closed facts by the kernel) AND EACH ROW's TIE, after the 31st guide's Derived/Test/Toyas{Tie, Card}.lean. No idea stands in it: it is a product of the set-up. Laid BY PROGRAM, IN A SANDBOX (cutbox-door.mjs). By AI agents, Wed Nov 11 2026. No macro, syntax, notation, axiom, sorry.
-/
import Derived.Test.YtjpfinklpodhnaaDoorRows
import Derived.LaidByTextLater
import Derived.SevenTiedAt
import Derived.LaidSub
import Derived.LaidOnce
namespace Go.Proofs.YtjpfinklpodhnaaDoor
open Go
set_option maxRecDepth 100000
theorem seatTie1 : Tryd.prog.laidByTextLater [("weirgate/weirgateref02.constants", Rows.laid_weirgate_weirgateref02_constants), ("weirgate/hash.constants", Rows.laid_weirgate_hash_constants)] [.data, .data] true :=
  Program.laidByTextLater_by_one 19 8 65 (by kernel_rfl) (by kernel_rfl) (by kernel_rfl) (by kernel_rfl) (by kernel_rfl) (by kernel_rfl) (fun _ _ => by kernel_rfl)
theorem noOwnUnsafe : Tryd.pinned.checked.prog.headLifts.contains "ownunsafe" = false := by kernel_rfl
theorem tie : Tryd.prog.laidByTextLater [("weirgate/weirgateref02.constants", Rows.laid_weirgate_weirgateref02_constants), ("weirgate/hash.constants", Rows.laid_weirgate_hash_constants)] [.data, .data] true :=
  Program.laidByTextLater.sub seatTie1 ["weirgate/weirgateref02.constants", "weirgate/hash.constants"] (by kernel_rfl) (by kernel_rfl)
theorem sketchAddsAsSpecified_row_tie : Rows.sketchAddsAsSpecifiedRow.laidByTextAt .later Tryd.pinned [.data, .data] true :=
  OpenClaim.laidByTextAt_later rfl rfl tie noOwnUnsafe
theorem sketchNeverCountsLess_row_tie : Rows.sketchNeverCountsLessRow.laidByTextAt .later Tryd.pinned [.data, .data] true :=
  OpenClaim.laidByTextAt_later rfl rfl tie noOwnUnsafe
theorem sketchBeginsAsSpecified_row_tie : Rows.sketchBeginsAsSpecifiedRow.laidByTextAt .later Tryd.pinned [.data, .data] true :=
  OpenClaim.laidByTextAt_later rfl rfl tie noOwnUnsafe
theorem tie2 : Tryd.prog.laidByTextLater [("weirgate/hash.constants", Rows.laid_weirgate_hash_constants)] [.data] true :=
  Program.laidByTextLater.sub seatTie1 ["weirgate/hash.constants"] (by kernel_rfl) (by kernel_rfl)
theorem sketchAddsAtMostOne_row_tie : Rows.sketchAddsAtMostOneRow.laidByTextAt .later Tryd.pinned [.data] true :=
  OpenClaim.laidByTextAt_later rfl rfl tie2 noOwnUnsafe
theorem sketchMergesAsSpecified_row_tie : Rows.sketchMergesAsSpecifiedRow.laidByTextAt .later Tryd.pinned [.data] true :=
  OpenClaim.laidByTextAt_later rfl rfl tie2 noOwnUnsafe
theorem sketchMergedCountsBoth_row_tie : Rows.sketchMergedCountsBothRow.laidByTextAt .later Tryd.pinned [.data] true :=
  OpenClaim.laidByTextAt_later rfl rfl tie2 noOwnUnsafe
theorem sketchAddsAsSpecifiedUpto_row_tie : Rows.sketchAddsAsSpecifiedUptoRow.laidByTextAt .later Tryd.pinned [.data, .data] true :=
  OpenClaim.laidByTextAt_later rfl rfl tie noOwnUnsafe
theorem sketchNeverCountsLessUpto_row_tie : Rows.sketchNeverCountsLessUptoRow.laidByTextAt .later Tryd.pinned [.data, .data] true :=
  OpenClaim.laidByTextAt_later rfl rfl tie noOwnUnsafe
theorem sketchAddsAtMostOneUpto_row_tie : Rows.sketchAddsAtMostOneUptoRow.laidByTextAt .later Tryd.pinned [.data] true :=
  OpenClaim.laidByTextAt_later rfl rfl tie2 noOwnUnsafe
theorem sketchMergesAsSpecifiedUpto_row_tie : Rows.sketchMergesAsSpecifiedUptoRow.laidByTextAt .later Tryd.pinned [.data] true :=
  OpenClaim.laidByTextAt_later rfl rfl tie2 noOwnUnsafe
theorem sketchMergedCountsBothUpto_row_tie : Rows.sketchMergedCountsBothUptoRow.laidByTextAt .later Tryd.pinned [.data] true :=
  OpenClaim.laidByTextAt_later rfl rfl tie2 noOwnUnsafe
theorem sketchBeginsAsSpecifiedUpto_row_tie : Rows.sketchBeginsAsSpecifiedUptoRow.laidByTextAt .later Tryd.pinned [.data, .data] true :=
  OpenClaim.laidByTextAt_later rfl rfl tie noOwnUnsafe
end Go.Proofs.YtjpfinklpodhnaaDoor
