/-
  DERIVED. GIVEN WITH THE SEED: THE CARDS: each row of YtjenmopgcpnklaaGreatDoorRows.lean that lists a variable, with what it lists TIED to the program's text (the seventh form; the later family's looks); each row that meets fmt, with fmt's text TOLD by the authors' own Lean function (tested against real Go, not proved from fmt's source: count such statements apart). THE CARD IS WHAT COUNTS. Prove the row's statement (the work); the ties are given (YtjenmopgcpnklaaGreatDoorTie.lean); close each card by the builder's one call (the guide's Derived/Test/ToyasCard.lean, 'card_holds'). Laid BY PROGRAM, IN A SANDBOX (cutbox-door.mjs). By AI agents, Wed Nov 11 2026. No macro, syntax, notation, axiom, sorry.
-/
import Derived.Test.YtjenmopgcpnklaaGreatDoorRows
import GoSem.ClaimSeven
namespace Go.Proofs.YtjenmopgcpnklaaGreatDoor
namespace Rows

/-- THE TIED CARD OF 'weirgatelaw30.LeaseHeldAsSpecified'. -/
def leaseHeldAsSpecifiedCard : Claim7 := { stood := { row := leaseHeldAsSpecifiedRow, standIns := [], harness := (true, "cd73d6facef243e9d310a13ab5980a790bdbc4e14684f303910f087e45d6e7bd"), looks := false }, kinds := [], alts := [], laidByText := true, laidKinds := [.data, .data], laidTests := true, laidLooks := .later }
def LeaseHeldAsSpecifiedCardSaid : Prop := Claim7.holds Tryz.pinned (.plain (OpenSpec.ofChange leaseHeldAsSpecifiedSpec)) leaseHeldAsSpecifiedCard

/-- THE SECOND FORM's CARD OF 'weirgatelaw30.LeaseHeldAsSpecified'. -/
def leaseHeldAsSpecifiedUptoCard : Claim7 := { stood := { row := leaseHeldAsSpecifiedUptoRow, standIns := [], harness := (true, "cd73d6facef243e9d310a13ab5980a790bdbc4e14684f303910f087e45d6e7bd"), looks := false }, kinds := [], alts := [], laidByText := true, laidKinds := [.data, .data], laidTests := true, laidLooks := .later }
def LeaseHeldAsSpecifiedUptoCardSaid : Prop := Claim7.holds Tryz.pinned (.plain (OpenSpec.upto leaseHeldAsSpecifiedSpec)) leaseHeldAsSpecifiedUptoCard
end Rows
end Go.Proofs.YtjenmopgcpnklaaGreatDoor
