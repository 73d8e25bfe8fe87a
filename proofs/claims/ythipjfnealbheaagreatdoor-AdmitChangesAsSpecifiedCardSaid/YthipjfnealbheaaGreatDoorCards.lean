/-
  DERIVED. GIVEN WITH THE SEED: THE CARDS: each row of YthipjfnealbheaaGreatDoorRows.lean that lists a variable, with what it lists TIED to the program's text (the seventh form; the later family's looks); each row that meets fmt, with fmt's text TOLD by the authors' own Lean function (tested against real Go, not proved from fmt's source: count such statements apart). THE CARD IS WHAT COUNTS. Prove the row's statement (the work); the ties are given (YthipjfnealbheaaGreatDoorTie.lean); close each card by the builder's one call (the guide's Derived/Test/ToyasCard.lean, 'card_holds'). Laid BY PROGRAM, IN A SANDBOX (cutbox-door.mjs). By AI agents, Wed Nov 11 2026. No macro, syntax, notation, axiom, sorry.
-/
import Derived.Test.YthipjfnealbheaaGreatDoorRows
import GoSem.ClaimSeven
namespace Go.Proofs.YthipjfnealbheaaGreatDoor
namespace Rows

/-- THE TIED CARD OF 'weirgatelaw17.AdmitDecidesAsSpecified'. -/
def admitDecidesAsSpecifiedCard : Claim7 := { stood := { row := admitDecidesAsSpecifiedRow, standIns := [], harness := (true, "70de3951d9fd7b23e76b3986cb7534d9fb21c315d08aa92c361c8d8f678d32dd"), looks := false }, kinds := [], alts := [], laidByText := true, laidKinds := [.data, .data], laidTests := true, laidLooks := .later }
def AdmitDecidesAsSpecifiedCardSaid : Prop := Claim7.holds Tryz.pinned (.plain (OpenSpec.ofChange admitDecidesAsSpecifiedSpec)) admitDecidesAsSpecifiedCard

/-- THE TIED CARD OF 'weirgatelaw17.AdmitChangesAsSpecified'. -/
def admitChangesAsSpecifiedCard : Claim7 := { stood := { row := admitChangesAsSpecifiedRow, standIns := [], harness := (true, "70de3951d9fd7b23e76b3986cb7534d9fb21c315d08aa92c361c8d8f678d32dd"), looks := false }, kinds := [], alts := [], laidByText := true, laidKinds := [.data, .data], laidTests := true, laidLooks := .later }
def AdmitChangesAsSpecifiedCardSaid : Prop := Claim7.holds Tryz.pinned (.plain (OpenSpec.ofChange admitChangesAsSpecifiedSpec)) admitChangesAsSpecifiedCard

/-- THE SECOND FORM's CARD OF 'weirgatelaw17.AdmitDecidesAsSpecified'. -/
def admitDecidesAsSpecifiedUptoCard : Claim7 := { stood := { row := admitDecidesAsSpecifiedUptoRow, standIns := [], harness := (true, "70de3951d9fd7b23e76b3986cb7534d9fb21c315d08aa92c361c8d8f678d32dd"), looks := false }, kinds := [], alts := [], laidByText := true, laidKinds := [.data, .data], laidTests := true, laidLooks := .later }
def AdmitDecidesAsSpecifiedUptoCardSaid : Prop := Claim7.holds Tryz.pinned (.plain (OpenSpec.upto admitDecidesAsSpecifiedSpec)) admitDecidesAsSpecifiedUptoCard

/-- THE SECOND FORM's CARD OF 'weirgatelaw17.AdmitChangesAsSpecified'. -/
def admitChangesAsSpecifiedUptoCard : Claim7 := { stood := { row := admitChangesAsSpecifiedUptoRow, standIns := [], harness := (true, "70de3951d9fd7b23e76b3986cb7534d9fb21c315d08aa92c361c8d8f678d32dd"), looks := false }, kinds := [], alts := [], laidByText := true, laidKinds := [.data, .data], laidTests := true, laidLooks := .later }
def AdmitChangesAsSpecifiedUptoCardSaid : Prop := Claim7.holds Tryz.pinned (.plain (OpenSpec.upto admitChangesAsSpecifiedSpec)) admitChangesAsSpecifiedUptoCard
end Rows
end Go.Proofs.YthipjfnealbheaaGreatDoor
