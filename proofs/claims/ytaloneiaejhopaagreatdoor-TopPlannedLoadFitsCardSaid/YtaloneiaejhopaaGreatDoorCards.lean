/-
  DERIVED. GIVEN WITH THE SEED: THE CARDS: each row of YtaloneiaejhopaaGreatDoorRows.lean that lists a variable, with what it lists TIED to the program's text (the seventh form; the later family's looks); each row that meets fmt, with fmt's text TOLD by the authors' own Lean function (tested against real Go, not proved from fmt's source: count such statements apart). THE CARD IS WHAT COUNTS. Prove the row's statement (the work); the ties are given (YtaloneiaejhopaaGreatDoorTie.lean); close each card by the builder's one call (the guide's Derived/Test/ToyasCard.lean, 'card_holds'). Laid BY PROGRAM, IN A SANDBOX (cutbox-door.mjs). By AI agents, Wed Nov 11 2026. No macro, syntax, notation, axiom, sorry.
-/
import Derived.Test.YtaloneiaejhopaaGreatDoorRows
import GoSem.ClaimSeven
namespace Go.Proofs.YtaloneiaejhopaaGreatDoor
namespace Rows

/-- THE TIED CARD OF 'weirgatetop.TopPlannedLoadFits'. -/
def topPlannedLoadFitsCard : Claim7 := { stood := { row := topPlannedLoadFitsRow, standIns := [], harness := (true, "becf0727d903af3ae363a091ac26cd4f9b7b8c49ed293561e7f57a36e2487888"), looks := false }, kinds := [], alts := [], laidByText := true, laidKinds := [.data], laidTests := true, laidLooks := .later }
def TopPlannedLoadFitsCardSaid : Prop := Claim7.holds Tryz.pinned (.plain (OpenSpec.ofChange topPlannedLoadFitsSpec)) topPlannedLoadFitsCard

/-- THE SECOND FORM's CARD OF 'weirgatetop.TopPlannedLoadFits'. -/
def topPlannedLoadFitsUptoCard : Claim7 := { stood := { row := topPlannedLoadFitsUptoRow, standIns := [], harness := (true, "becf0727d903af3ae363a091ac26cd4f9b7b8c49ed293561e7f57a36e2487888"), looks := false }, kinds := [], alts := [], laidByText := true, laidKinds := [.data], laidTests := true, laidLooks := .later }
def TopPlannedLoadFitsUptoCardSaid : Prop := Claim7.holds Tryz.pinned (.plain (OpenSpec.upto topPlannedLoadFitsSpec)) topPlannedLoadFitsUptoCard
end Rows
end Go.Proofs.YtaloneiaejhopaaGreatDoor
