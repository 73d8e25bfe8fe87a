/-
  DERIVED. GIVEN WITH THE SEED: THE CARDS: each row of YtjpfinklpodhnaaDoorRows.lean that lists a variable, with what it lists TIED to the program's text (the seventh form; the later family's looks); each row that meets fmt, with fmt's text TOLD by the authors' own Lean function (tested against real Go, not proved from fmt's source: count such statements apart). THE CARD IS WHAT COUNTS. Prove the row's statement (the work); the ties are given (YtjpfinklpodhnaaDoorTie.lean); close each card by the builder's one call (the guide's Derived/Test/ToyasCard.lean, 'card_holds'). Laid BY PROGRAM, IN A SANDBOX (cutbox-door.mjs). By AI agents, Wed Nov 11 2026. No macro, syntax, notation, axiom, sorry.
-/
import Derived.Test.YtjpfinklpodhnaaDoorRows
import GoSem.ClaimSeven
namespace Go.Proofs.YtjpfinklpodhnaaDoor
namespace Rows

/-- THE TIED CARD OF 'weirgatelaw08.SketchAddsAsSpecified'. -/
def sketchAddsAsSpecifiedCard : Claim7 := { stood := { row := sketchAddsAsSpecifiedRow, standIns := [], harness := (true, "ed191be1c7e9089a913e9f02dea9235022da0782c901bc109edc095ad0f6e6ad"), looks := false }, kinds := [], alts := [], laidByText := true, laidKinds := [.data, .data], laidTests := true, laidLooks := .later }
def SketchAddsAsSpecifiedCardSaid : Prop := Claim7.holds Tryd.pinned (.plain (OpenSpec.ofChange sketchAddsAsSpecifiedSpec)) sketchAddsAsSpecifiedCard

/-- THE TIED CARD OF 'weirgatelaw08.SketchNeverCountsLess'. -/
def sketchNeverCountsLessCard : Claim7 := { stood := { row := sketchNeverCountsLessRow, standIns := [], harness := (true, "ed191be1c7e9089a913e9f02dea9235022da0782c901bc109edc095ad0f6e6ad"), looks := false }, kinds := [], alts := [], laidByText := true, laidKinds := [.data, .data], laidTests := true, laidLooks := .later }
def SketchNeverCountsLessCardSaid : Prop := Claim7.holds Tryd.pinned (.plain (OpenSpec.ofChange sketchNeverCountsLessSpec)) sketchNeverCountsLessCard

/-- THE TIED CARD OF 'weirgatelaw08.SketchAddsAtMostOne'. -/
def sketchAddsAtMostOneCard : Claim7 := { stood := { row := sketchAddsAtMostOneRow, standIns := [], harness := (true, "ed191be1c7e9089a913e9f02dea9235022da0782c901bc109edc095ad0f6e6ad"), looks := false }, kinds := [], alts := [], laidByText := true, laidKinds := [.data], laidTests := true, laidLooks := .later }
def SketchAddsAtMostOneCardSaid : Prop := Claim7.holds Tryd.pinned (.plain (OpenSpec.ofChange sketchAddsAtMostOneSpec)) sketchAddsAtMostOneCard

/-- THE TIED CARD OF 'weirgatelaw08.SketchMergesAsSpecified'. -/
def sketchMergesAsSpecifiedCard : Claim7 := { stood := { row := sketchMergesAsSpecifiedRow, standIns := [], harness := (true, "ed191be1c7e9089a913e9f02dea9235022da0782c901bc109edc095ad0f6e6ad"), looks := false }, kinds := [], alts := [], laidByText := true, laidKinds := [.data], laidTests := true, laidLooks := .later }
def SketchMergesAsSpecifiedCardSaid : Prop := Claim7.holds Tryd.pinned (.plain (OpenSpec.ofChange sketchMergesAsSpecifiedSpec)) sketchMergesAsSpecifiedCard

/-- THE TIED CARD OF 'weirgatelaw08.SketchMergedCountsBoth'. -/
def sketchMergedCountsBothCard : Claim7 := { stood := { row := sketchMergedCountsBothRow, standIns := [], harness := (true, "ed191be1c7e9089a913e9f02dea9235022da0782c901bc109edc095ad0f6e6ad"), looks := false }, kinds := [], alts := [], laidByText := true, laidKinds := [.data], laidTests := true, laidLooks := .later }
def SketchMergedCountsBothCardSaid : Prop := Claim7.holds Tryd.pinned (.plain (OpenSpec.ofChange sketchMergedCountsBothSpec)) sketchMergedCountsBothCard

/-- THE TIED CARD OF 'weirgatelaw08.SketchBeginsAsSpecified'. -/
def sketchBeginsAsSpecifiedCard : Claim7 := { stood := { row := sketchBeginsAsSpecifiedRow, standIns := [], harness := (true, "ed191be1c7e9089a913e9f02dea9235022da0782c901bc109edc095ad0f6e6ad"), looks := false }, kinds := [], alts := [], laidByText := true, laidKinds := [.data, .data], laidTests := true, laidLooks := .later }
def SketchBeginsAsSpecifiedCardSaid : Prop := Claim7.holds Tryd.pinned (.plain (OpenSpec.ofChange sketchBeginsAsSpecifiedSpec)) sketchBeginsAsSpecifiedCard

/-- THE SECOND FORM's CARD OF 'weirgatelaw08.SketchAddsAsSpecified'. -/
def sketchAddsAsSpecifiedUptoCard : Claim7 := { stood := { row := sketchAddsAsSpecifiedUptoRow, standIns := [], harness := (true, "ed191be1c7e9089a913e9f02dea9235022da0782c901bc109edc095ad0f6e6ad"), looks := false }, kinds := [], alts := [], laidByText := true, laidKinds := [.data, .data], laidTests := true, laidLooks := .later }
def SketchAddsAsSpecifiedUptoCardSaid : Prop := Claim7.holds Tryd.pinned (.plain (OpenSpec.upto sketchAddsAsSpecifiedSpec)) sketchAddsAsSpecifiedUptoCard

/-- THE SECOND FORM's CARD OF 'weirgatelaw08.SketchNeverCountsLess'. -/
def sketchNeverCountsLessUptoCard : Claim7 := { stood := { row := sketchNeverCountsLessUptoRow, standIns := [], harness := (true, "ed191be1c7e9089a913e9f02dea9235022da0782c901bc109edc095ad0f6e6ad"), looks := false }, kinds := [], alts := [], laidByText := true, laidKinds := [.data, .data], laidTests := true, laidLooks := .later }
def SketchNeverCountsLessUptoCardSaid : Prop := Claim7.holds Tryd.pinned (.plain (OpenSpec.upto sketchNeverCountsLessSpec)) sketchNeverCountsLessUptoCard

/-- THE SECOND FORM's CARD OF 'weirgatelaw08.SketchAddsAtMostOne'. -/
def sketchAddsAtMostOneUptoCard : Claim7 := { stood := { row := sketchAddsAtMostOneUptoRow, standIns := [], harness := (true, "ed191be1c7e9089a913e9f02dea9235022da0782c901bc109edc095ad0f6e6ad"), looks := false }, kinds := [], alts := [], laidByText := true, laidKinds := [.data], laidTests := true, laidLooks := .later }
def SketchAddsAtMostOneUptoCardSaid : Prop := Claim7.holds Tryd.pinned (.plain (OpenSpec.upto sketchAddsAtMostOneSpec)) sketchAddsAtMostOneUptoCard

/-- THE SECOND FORM's CARD OF 'weirgatelaw08.SketchMergesAsSpecified'. -/
def sketchMergesAsSpecifiedUptoCard : Claim7 := { stood := { row := sketchMergesAsSpecifiedUptoRow, standIns := [], harness := (true, "ed191be1c7e9089a913e9f02dea9235022da0782c901bc109edc095ad0f6e6ad"), looks := false }, kinds := [], alts := [], laidByText := true, laidKinds := [.data], laidTests := true, laidLooks := .later }
def SketchMergesAsSpecifiedUptoCardSaid : Prop := Claim7.holds Tryd.pinned (.plain (OpenSpec.upto sketchMergesAsSpecifiedSpec)) sketchMergesAsSpecifiedUptoCard

/-- THE SECOND FORM's CARD OF 'weirgatelaw08.SketchMergedCountsBoth'. -/
def sketchMergedCountsBothUptoCard : Claim7 := { stood := { row := sketchMergedCountsBothUptoRow, standIns := [], harness := (true, "ed191be1c7e9089a913e9f02dea9235022da0782c901bc109edc095ad0f6e6ad"), looks := false }, kinds := [], alts := [], laidByText := true, laidKinds := [.data], laidTests := true, laidLooks := .later }
def SketchMergedCountsBothUptoCardSaid : Prop := Claim7.holds Tryd.pinned (.plain (OpenSpec.upto sketchMergedCountsBothSpec)) sketchMergedCountsBothUptoCard

/-- THE SECOND FORM's CARD OF 'weirgatelaw08.SketchBeginsAsSpecified'. -/
def sketchBeginsAsSpecifiedUptoCard : Claim7 := { stood := { row := sketchBeginsAsSpecifiedUptoRow, standIns := [], harness := (true, "ed191be1c7e9089a913e9f02dea9235022da0782c901bc109edc095ad0f6e6ad"), looks := false }, kinds := [], alts := [], laidByText := true, laidKinds := [.data, .data], laidTests := true, laidLooks := .later }
def SketchBeginsAsSpecifiedUptoCardSaid : Prop := Claim7.holds Tryd.pinned (.plain (OpenSpec.upto sketchBeginsAsSpecifiedSpec)) sketchBeginsAsSpecifiedUptoCard
end Rows
end Go.Proofs.YtjpfinklpodhnaaDoor
