/-
  DERIVED. GIVEN WITH THE SEED: THE CARDS: each row of YthipjfnealbheaaDoorRows.lean that lists a variable, with what it lists TIED to the program's text (the seventh form; the later family's looks); each row that meets fmt, with fmt's text TOLD by the authors' own Lean function (tested against real Go, not proved from fmt's source: count such statements apart). THE CARD IS WHAT COUNTS. Prove the row's statement (the work); the ties are given (YthipjfnealbheaaDoorTie.lean); close each card by the builder's one call (the guide's Derived/Test/ToyasCard.lean, 'card_holds'). Laid BY PROGRAM, IN A SANDBOX (cutbox-door.mjs). By AI agents, Wed Nov 11 2026. No macro, syntax, notation, axiom, sorry.
-/
import Derived.Test.YthipjfnealbheaaDoorRows
import GoSem.ClaimSeven
namespace Go.Proofs.YthipjfnealbheaaDoor
namespace Rows

/-- THE TIED CARD OF 'weirgatelaw17.AdmitBeginsAsSpecified'. -/
def admitBeginsAsSpecifiedCard : Claim7 := { stood := { row := admitBeginsAsSpecifiedRow, standIns := [], harness := (true, "7948b69098f6dd11f3da821098dbc64569f41d988c2547cccd3181b605ea9fe1"), looks := false }, kinds := [], alts := [], laidByText := true, laidKinds := [.data], laidTests := true, laidLooks := .later }
def AdmitBeginsAsSpecifiedCardSaid : Prop := Claim7.holds Tryd.pinned (.plain (OpenSpec.ofChange admitBeginsAsSpecifiedSpec)) admitBeginsAsSpecifiedCard

/-- THE TIED CARD OF 'weirgatelaw17.AdmitSparesTheModest'. -/
def admitSparesTheModestCard : Claim7 := { stood := { row := admitSparesTheModestRow, standIns := [], harness := (true, "7948b69098f6dd11f3da821098dbc64569f41d988c2547cccd3181b605ea9fe1"), looks := false }, kinds := [], alts := [], laidByText := true, laidKinds := [.data], laidTests := true, laidLooks := .later }
def AdmitSparesTheModestCardSaid : Prop := Claim7.holds Tryd.pinned (.plain (OpenSpec.ofChange admitSparesTheModestSpec)) admitSparesTheModestCard

/-- THE TIED CARD OF 'weirgatelaw17.AdmitTakesBack'. -/
def admitTakesBackCard : Claim7 := { stood := { row := admitTakesBackRow, standIns := [], harness := (true, "7948b69098f6dd11f3da821098dbc64569f41d988c2547cccd3181b605ea9fe1"), looks := false }, kinds := [], alts := [], laidByText := true, laidKinds := [.data], laidTests := true, laidLooks := .later }
def AdmitTakesBackCardSaid : Prop := Claim7.holds Tryd.pinned (.plain (OpenSpec.ofChange admitTakesBackSpec)) admitTakesBackCard

/-- THE SECOND FORM's CARD OF 'weirgatelaw17.AdmitBeginsAsSpecified'. -/
def admitBeginsAsSpecifiedUptoCard : Claim7 := { stood := { row := admitBeginsAsSpecifiedUptoRow, standIns := [], harness := (true, "7948b69098f6dd11f3da821098dbc64569f41d988c2547cccd3181b605ea9fe1"), looks := false }, kinds := [], alts := [], laidByText := true, laidKinds := [.data], laidTests := true, laidLooks := .later }
def AdmitBeginsAsSpecifiedUptoCardSaid : Prop := Claim7.holds Tryd.pinned (.plain (OpenSpec.upto admitBeginsAsSpecifiedSpec)) admitBeginsAsSpecifiedUptoCard

/-- THE SECOND FORM's CARD OF 'weirgatelaw17.AdmitSparesTheModest'. -/
def admitSparesTheModestUptoCard : Claim7 := { stood := { row := admitSparesTheModestUptoRow, standIns := [], harness := (true, "7948b69098f6dd11f3da821098dbc64569f41d988c2547cccd3181b605ea9fe1"), looks := false }, kinds := [], alts := [], laidByText := true, laidKinds := [.data], laidTests := true, laidLooks := .later }
def AdmitSparesTheModestUptoCardSaid : Prop := Claim7.holds Tryd.pinned (.plain (OpenSpec.upto admitSparesTheModestSpec)) admitSparesTheModestUptoCard

/-- THE SECOND FORM's CARD OF 'weirgatelaw17.AdmitTakesBack'. -/
def admitTakesBackUptoCard : Claim7 := { stood := { row := admitTakesBackUptoRow, standIns := [], harness := (true, "7948b69098f6dd11f3da821098dbc64569f41d988c2547cccd3181b605ea9fe1"), looks := false }, kinds := [], alts := [], laidByText := true, laidKinds := [.data], laidTests := true, laidLooks := .later }
def AdmitTakesBackUptoCardSaid : Prop := Claim7.holds Tryd.pinned (.plain (OpenSpec.upto admitTakesBackSpec)) admitTakesBackUptoCard
end Rows
end Go.Proofs.YthipjfnealbheaaDoor
