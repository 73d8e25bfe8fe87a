/-
  DERIVED. GIVEN WITH THE SEED: THE PROGRAM's TIES (one call each: nine closed facts by the kernel) AND EACH ROW's TIE, after the 31st guide's Derived/Test/Toyas{Tie, Card}.lean. No idea stands in it: it is a product of the set-up. Laid BY PROGRAM, IN A SANDBOX (cutbox-door.mjs). By AI agents, Wed Nov 11 2026. No macro, syntax, notation, axiom, sorry.
-/
import Derived.Test.YtjenmopgcpnklaaDoorRows
import Derived.LaidByTextLater
import Derived.SevenTiedAt
import Derived.LaidSub
import Derived.LaidOnce
namespace Go.Proofs.YtjenmopgcpnklaaDoor
open Go
set_option maxRecDepth 100000
theorem seatTie1 : Tryd.prog.laidByTextLater [("weirgate/weirgateref02.constants", Rows.laid_weirgate_weirgateref02_constants), ("weirgate/hash.constants", Rows.laid_weirgate_hash_constants)] [.data, .data] true :=
  Program.laidByTextLater_by_one 19 8 65 (by kernel_rfl) (by kernel_rfl) (by kernel_rfl) (by kernel_rfl) (by kernel_rfl) (by kernel_rfl) (fun _ _ => by kernel_rfl)
theorem noOwnUnsafe : Tryd.pinned.checked.prog.headLifts.contains "ownunsafe" = false := by kernel_rfl
theorem tie : Tryd.prog.laidByTextLater [("weirgate/weirgateref02.constants", Rows.laid_weirgate_weirgateref02_constants), ("weirgate/hash.constants", Rows.laid_weirgate_hash_constants)] [.data, .data] true :=
  Program.laidByTextLater.sub seatTie1 ["weirgate/weirgateref02.constants", "weirgate/hash.constants"] (by kernel_rfl) (by kernel_rfl)
theorem leaseGrantsAsSpecified_row_tie : Rows.leaseGrantsAsSpecifiedRow.laidByTextAt .later Tryd.pinned [.data, .data] true :=
  OpenClaim.laidByTextAt_later rfl rfl tie noOwnUnsafe
theorem tie2 : Tryd.prog.laidByTextLater [("weirgate/hash.constants", Rows.laid_weirgate_hash_constants)] [.data] true :=
  Program.laidByTextLater.sub seatTie1 ["weirgate/hash.constants"] (by kernel_rfl) (by kernel_rfl)
theorem leaseNeedsHearing_row_tie : Rows.leaseNeedsHearingRow.laidByTextAt .later Tryd.pinned [.data] true :=
  OpenClaim.laidByTextAt_later rfl rfl tie2 noOwnUnsafe
theorem leaseDeadlinesHold_row_tie : Rows.leaseDeadlinesHoldRow.laidByTextAt .later Tryd.pinned [.data] true :=
  OpenClaim.laidByTextAt_later rfl rfl tie2 noOwnUnsafe
theorem leaseWorthIsExact_row_tie : Rows.leaseWorthIsExactRow.laidByTextAt .later Tryd.pinned [.data] true :=
  OpenClaim.laidByTextAt_later rfl rfl tie2 noOwnUnsafe
theorem leaseGrantsAsSpecifiedUpto_row_tie : Rows.leaseGrantsAsSpecifiedUptoRow.laidByTextAt .later Tryd.pinned [.data, .data] true :=
  OpenClaim.laidByTextAt_later rfl rfl tie noOwnUnsafe
theorem leaseNeedsHearingUpto_row_tie : Rows.leaseNeedsHearingUptoRow.laidByTextAt .later Tryd.pinned [.data] true :=
  OpenClaim.laidByTextAt_later rfl rfl tie2 noOwnUnsafe
theorem leaseDeadlinesHoldUpto_row_tie : Rows.leaseDeadlinesHoldUptoRow.laidByTextAt .later Tryd.pinned [.data] true :=
  OpenClaim.laidByTextAt_later rfl rfl tie2 noOwnUnsafe
theorem leaseWorthIsExactUpto_row_tie : Rows.leaseWorthIsExactUptoRow.laidByTextAt .later Tryd.pinned [.data] true :=
  OpenClaim.laidByTextAt_later rfl rfl tie2 noOwnUnsafe
end Go.Proofs.YtjenmopgcpnklaaDoor
