/-
  DERIVED. GIVEN WITH THE SEED: THE CARDS: each row of YtaloneiaejhopaaDoorRows.lean that lists a variable, with what it lists TIED to the program's text (the seventh form; the later family's looks); each row that meets fmt, with fmt's text TOLD by the authors' own Lean function (tested against real Go, not proved from fmt's source: count such statements apart). THE CARD IS WHAT COUNTS. Prove the row's statement (the work); the ties are given (YtaloneiaejhopaaDoorTie.lean); close each card by the builder's one call (the guide's Derived/Test/ToyasCard.lean, 'card_holds'). Laid BY PROGRAM, IN A SANDBOX (cutbox-door.mjs). By AI agents, Wed Nov 11 2026. No macro, syntax, notation, axiom, sorry.
-/
import Derived.Test.YtaloneiaejhopaaDoorRows
import GoSem.ClaimSeven
namespace Go.Proofs.YtaloneiaejhopaaDoor
namespace Rows

/-- THE TIED CARD OF 'weirgatetop.TopReplansFit'. -/
def topReplansFitCard : Claim7 := { stood := { row := topReplansFitRow, standIns := [], harness := (true, "c33938973758a8061a685cf44d20a5e7cb4673d2054001c0c6a3e00ee0aedfe3"), looks := false }, kinds := [], alts := [], laidByText := true, laidKinds := [.data], laidTests := true, laidLooks := .later }
def TopReplansFitCardSaid : Prop := Claim7.holds Tryd.pinned (.plain (OpenSpec.ofChange topReplansFitSpec)) topReplansFitCard

/-- THE SECOND FORM's CARD OF 'weirgatetop.TopReplansFit'. -/
def topReplansFitUptoCard : Claim7 := { stood := { row := topReplansFitUptoRow, standIns := [], harness := (true, "c33938973758a8061a685cf44d20a5e7cb4673d2054001c0c6a3e00ee0aedfe3"), looks := false }, kinds := [], alts := [], laidByText := true, laidKinds := [.data], laidTests := true, laidLooks := .later }
def TopReplansFitUptoCardSaid : Prop := Claim7.holds Tryd.pinned (.plain (OpenSpec.upto topReplansFitSpec)) topReplansFitUptoCard
end Rows
end Go.Proofs.YtaloneiaejhopaaDoor
