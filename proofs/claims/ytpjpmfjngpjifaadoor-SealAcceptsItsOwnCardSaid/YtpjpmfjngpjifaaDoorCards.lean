/-
  DERIVED. GIVEN WITH THE SEED: THE CARDS: each row of YtpjpmfjngpjifaaDoorRows.lean that lists a variable, with what it lists TIED to the program's text (the seventh form; the later family's looks); each row that meets fmt, with fmt's text TOLD by the authors' own Lean function (tested against real Go, not proved from fmt's source: count such statements apart). THE CARD IS WHAT COUNTS. Prove the row's statement (the work); the ties are given (YtpjpmfjngpjifaaDoorTie.lean); close each card by the builder's one call (the guide's Derived/Test/ToyasCard.lean, 'card_holds'). Laid BY PROGRAM, IN A SANDBOX (cutbox-door.mjs). By AI agents, Wed Nov 11 2026. No macro, syntax, notation, axiom, sorry.
-/
import Derived.Test.YtpjpmfjngpjifaaDoorRows
import GoSem.ClaimSeven
namespace Go.Proofs.YtpjpmfjngpjifaaDoor
namespace Rows

/-- THE TIED CARD OF 'weirgatelaw04.SealKeepsRings'. -/
def sealKeepsRingsCard : Claim7 := { stood := { row := sealKeepsRingsRow, standIns := [], harness := (true, "2e44fd7037b5ac82ff81812b0e528fc5137bb3e49f4fb4e84d5e36968200c6bb"), looks := false }, kinds := [], alts := [], laidByText := true, laidKinds := [.data], laidTests := true, laidLooks := .later }
def SealKeepsRingsCardSaid : Prop := Claim7.holds Tryd.pinned (.plain (OpenSpec.ofChange sealKeepsRingsSpec)) sealKeepsRingsCard

/-- THE TIED CARD OF 'weirgatelaw04.SealRotatesAsSpecified'. -/
def sealRotatesAsSpecifiedCard : Claim7 := { stood := { row := sealRotatesAsSpecifiedRow, standIns := [], harness := (true, "2e44fd7037b5ac82ff81812b0e528fc5137bb3e49f4fb4e84d5e36968200c6bb"), looks := false }, kinds := [], alts := [], laidByText := true, laidKinds := [.data], laidTests := true, laidLooks := .later }
def SealRotatesAsSpecifiedCardSaid : Prop := Claim7.holds Tryd.pinned (.plain (OpenSpec.ofChange sealRotatesAsSpecifiedSpec)) sealRotatesAsSpecifiedCard

/-- THE TIED CARD OF 'weirgatelaw04.SealChecksAsSpecified'. -/
def sealChecksAsSpecifiedCard : Claim7 := { stood := { row := sealChecksAsSpecifiedRow, standIns := [], harness := (true, "2e44fd7037b5ac82ff81812b0e528fc5137bb3e49f4fb4e84d5e36968200c6bb"), looks := false }, kinds := [], alts := [], laidByText := true, laidKinds := [.data, .data], laidTests := true, laidLooks := .later }
def SealChecksAsSpecifiedCardSaid : Prop := Claim7.holds Tryd.pinned (.plain (OpenSpec.ofChange sealChecksAsSpecifiedSpec)) sealChecksAsSpecifiedCard

/-- THE TIED CARD OF 'weirgatelaw04.SealJudgesRecords'. -/
def sealJudgesRecordsCard : Claim7 := { stood := { row := sealJudgesRecordsRow, standIns := [], harness := (true, "2e44fd7037b5ac82ff81812b0e528fc5137bb3e49f4fb4e84d5e36968200c6bb"), looks := false }, kinds := [], alts := [], laidByText := true, laidKinds := [.data, .data], laidTests := true, laidLooks := .later }
def SealJudgesRecordsCardSaid : Prop := Claim7.holds Tryd.pinned (.plain (OpenSpec.ofChange sealJudgesRecordsSpec)) sealJudgesRecordsCard

/-- THE TIED CARD OF 'weirgatelaw04.SealRecordsAsSpecified'. -/
def sealRecordsAsSpecifiedCard : Claim7 := { stood := { row := sealRecordsAsSpecifiedRow, standIns := [], harness := (true, "2e44fd7037b5ac82ff81812b0e528fc5137bb3e49f4fb4e84d5e36968200c6bb"), looks := false }, kinds := [], alts := [], laidByText := true, laidKinds := [.data, .data], laidTests := true, laidLooks := .later }
def SealRecordsAsSpecifiedCardSaid : Prop := Claim7.holds Tryd.pinned (.plain (OpenSpec.ofChange sealRecordsAsSpecifiedSpec)) sealRecordsAsSpecifiedCard

/-- THE TIED CARD OF 'weirgatelaw04.SealAcceptsItsOwn'. -/
def sealAcceptsItsOwnCard : Claim7 := { stood := { row := sealAcceptsItsOwnRow, standIns := [], harness := (true, "2e44fd7037b5ac82ff81812b0e528fc5137bb3e49f4fb4e84d5e36968200c6bb"), looks := false }, kinds := [], alts := [], laidByText := true, laidKinds := [.data], laidTests := true, laidLooks := .later }
def SealAcceptsItsOwnCardSaid : Prop := Claim7.holds Tryd.pinned (.plain (OpenSpec.ofChange sealAcceptsItsOwnSpec)) sealAcceptsItsOwnCard

/-- THE SECOND FORM's CARD OF 'weirgatelaw04.SealKeepsRings'. -/
def sealKeepsRingsUptoCard : Claim7 := { stood := { row := sealKeepsRingsUptoRow, standIns := [], harness := (true, "2e44fd7037b5ac82ff81812b0e528fc5137bb3e49f4fb4e84d5e36968200c6bb"), looks := false }, kinds := [], alts := [], laidByText := true, laidKinds := [.data], laidTests := true, laidLooks := .later }
def SealKeepsRingsUptoCardSaid : Prop := Claim7.holds Tryd.pinned (.plain (OpenSpec.upto sealKeepsRingsSpec)) sealKeepsRingsUptoCard

/-- THE SECOND FORM's CARD OF 'weirgatelaw04.SealRotatesAsSpecified'. -/
def sealRotatesAsSpecifiedUptoCard : Claim7 := { stood := { row := sealRotatesAsSpecifiedUptoRow, standIns := [], harness := (true, "2e44fd7037b5ac82ff81812b0e528fc5137bb3e49f4fb4e84d5e36968200c6bb"), looks := false }, kinds := [], alts := [], laidByText := true, laidKinds := [.data], laidTests := true, laidLooks := .later }
def SealRotatesAsSpecifiedUptoCardSaid : Prop := Claim7.holds Tryd.pinned (.plain (OpenSpec.upto sealRotatesAsSpecifiedSpec)) sealRotatesAsSpecifiedUptoCard

/-- THE SECOND FORM's CARD OF 'weirgatelaw04.SealChecksAsSpecified'. -/
def sealChecksAsSpecifiedUptoCard : Claim7 := { stood := { row := sealChecksAsSpecifiedUptoRow, standIns := [], harness := (true, "2e44fd7037b5ac82ff81812b0e528fc5137bb3e49f4fb4e84d5e36968200c6bb"), looks := false }, kinds := [], alts := [], laidByText := true, laidKinds := [.data, .data], laidTests := true, laidLooks := .later }
def SealChecksAsSpecifiedUptoCardSaid : Prop := Claim7.holds Tryd.pinned (.plain (OpenSpec.upto sealChecksAsSpecifiedSpec)) sealChecksAsSpecifiedUptoCard

/-- THE SECOND FORM's CARD OF 'weirgatelaw04.SealJudgesRecords'. -/
def sealJudgesRecordsUptoCard : Claim7 := { stood := { row := sealJudgesRecordsUptoRow, standIns := [], harness := (true, "2e44fd7037b5ac82ff81812b0e528fc5137bb3e49f4fb4e84d5e36968200c6bb"), looks := false }, kinds := [], alts := [], laidByText := true, laidKinds := [.data, .data], laidTests := true, laidLooks := .later }
def SealJudgesRecordsUptoCardSaid : Prop := Claim7.holds Tryd.pinned (.plain (OpenSpec.upto sealJudgesRecordsSpec)) sealJudgesRecordsUptoCard

/-- THE SECOND FORM's CARD OF 'weirgatelaw04.SealRecordsAsSpecified'. -/
def sealRecordsAsSpecifiedUptoCard : Claim7 := { stood := { row := sealRecordsAsSpecifiedUptoRow, standIns := [], harness := (true, "2e44fd7037b5ac82ff81812b0e528fc5137bb3e49f4fb4e84d5e36968200c6bb"), looks := false }, kinds := [], alts := [], laidByText := true, laidKinds := [.data, .data], laidTests := true, laidLooks := .later }
def SealRecordsAsSpecifiedUptoCardSaid : Prop := Claim7.holds Tryd.pinned (.plain (OpenSpec.upto sealRecordsAsSpecifiedSpec)) sealRecordsAsSpecifiedUptoCard

/-- THE SECOND FORM's CARD OF 'weirgatelaw04.SealAcceptsItsOwn'. -/
def sealAcceptsItsOwnUptoCard : Claim7 := { stood := { row := sealAcceptsItsOwnUptoRow, standIns := [], harness := (true, "2e44fd7037b5ac82ff81812b0e528fc5137bb3e49f4fb4e84d5e36968200c6bb"), looks := false }, kinds := [], alts := [], laidByText := true, laidKinds := [.data], laidTests := true, laidLooks := .later }
def SealAcceptsItsOwnUptoCardSaid : Prop := Claim7.holds Tryd.pinned (.plain (OpenSpec.upto sealAcceptsItsOwnSpec)) sealAcceptsItsOwnUptoCard
end Rows
end Go.Proofs.YtpjpmfjngpjifaaDoor
