/-
  DERIVED. GIVEN WITH THE SEED: THE CARDS: each row of YtjenmopgcpnklaaDoorRows.lean that lists a variable, with what it lists TIED to the program's text (the seventh form; the later family's looks); each row that meets fmt, with fmt's text TOLD by the authors' own Lean function (tested against real Go, not proved from fmt's source: count such statements apart). THE CARD IS WHAT COUNTS. Prove the row's statement (the work); the ties are given (YtjenmopgcpnklaaDoorTie.lean); close each card by the builder's one call (the guide's Derived/Test/ToyasCard.lean, 'card_holds'). Laid BY PROGRAM, IN A SANDBOX (cutbox-door.mjs). By AI agents, Wed Nov 11 2026. No macro, syntax, notation, axiom, sorry.
-/
import Derived.Test.YtjenmopgcpnklaaDoorRows
import GoSem.ClaimSeven
namespace Go.Proofs.YtjenmopgcpnklaaDoor
namespace Rows

/-- THE TIED CARD OF 'weirgatelaw30.LeaseGrantsAsSpecified'. -/
def leaseGrantsAsSpecifiedCard : Claim7 := { stood := { row := leaseGrantsAsSpecifiedRow, standIns := [], harness := (true, "412655d8052a668430500862d83ed6e2b6f2fc9a4238ed8c7d1f07d0996862f7"), looks := false }, kinds := [], alts := [], laidByText := true, laidKinds := [.data, .data], laidTests := true, laidLooks := .later }
def LeaseGrantsAsSpecifiedCardSaid : Prop := Claim7.holds Tryd.pinned (.plain (OpenSpec.ofChange leaseGrantsAsSpecifiedSpec)) leaseGrantsAsSpecifiedCard

/-- THE TIED CARD OF 'weirgatelaw30.LeaseNeedsHearing'. -/
def leaseNeedsHearingCard : Claim7 := { stood := { row := leaseNeedsHearingRow, standIns := [], harness := (true, "412655d8052a668430500862d83ed6e2b6f2fc9a4238ed8c7d1f07d0996862f7"), looks := false }, kinds := [], alts := [], laidByText := true, laidKinds := [.data], laidTests := true, laidLooks := .later }
def LeaseNeedsHearingCardSaid : Prop := Claim7.holds Tryd.pinned (.plain (OpenSpec.ofChange leaseNeedsHearingSpec)) leaseNeedsHearingCard

/-- THE TIED CARD OF 'weirgatelaw30.LeaseDeadlinesHold'. -/
def leaseDeadlinesHoldCard : Claim7 := { stood := { row := leaseDeadlinesHoldRow, standIns := [], harness := (true, "412655d8052a668430500862d83ed6e2b6f2fc9a4238ed8c7d1f07d0996862f7"), looks := false }, kinds := [], alts := [], laidByText := true, laidKinds := [.data], laidTests := true, laidLooks := .later }
def LeaseDeadlinesHoldCardSaid : Prop := Claim7.holds Tryd.pinned (.plain (OpenSpec.ofChange leaseDeadlinesHoldSpec)) leaseDeadlinesHoldCard

/-- THE TIED CARD OF 'weirgatelaw30.LeaseWorthIsExact'. -/
def leaseWorthIsExactCard : Claim7 := { stood := { row := leaseWorthIsExactRow, standIns := [], harness := (true, "412655d8052a668430500862d83ed6e2b6f2fc9a4238ed8c7d1f07d0996862f7"), looks := false }, kinds := [], alts := [], laidByText := true, laidKinds := [.data], laidTests := true, laidLooks := .later }
def LeaseWorthIsExactCardSaid : Prop := Claim7.holds Tryd.pinned (.plain (OpenSpec.ofChange leaseWorthIsExactSpec)) leaseWorthIsExactCard

/-- THE SECOND FORM's CARD OF 'weirgatelaw30.LeaseGrantsAsSpecified'. -/
def leaseGrantsAsSpecifiedUptoCard : Claim7 := { stood := { row := leaseGrantsAsSpecifiedUptoRow, standIns := [], harness := (true, "412655d8052a668430500862d83ed6e2b6f2fc9a4238ed8c7d1f07d0996862f7"), looks := false }, kinds := [], alts := [], laidByText := true, laidKinds := [.data, .data], laidTests := true, laidLooks := .later }
def LeaseGrantsAsSpecifiedUptoCardSaid : Prop := Claim7.holds Tryd.pinned (.plain (OpenSpec.upto leaseGrantsAsSpecifiedSpec)) leaseGrantsAsSpecifiedUptoCard

/-- THE SECOND FORM's CARD OF 'weirgatelaw30.LeaseNeedsHearing'. -/
def leaseNeedsHearingUptoCard : Claim7 := { stood := { row := leaseNeedsHearingUptoRow, standIns := [], harness := (true, "412655d8052a668430500862d83ed6e2b6f2fc9a4238ed8c7d1f07d0996862f7"), looks := false }, kinds := [], alts := [], laidByText := true, laidKinds := [.data], laidTests := true, laidLooks := .later }
def LeaseNeedsHearingUptoCardSaid : Prop := Claim7.holds Tryd.pinned (.plain (OpenSpec.upto leaseNeedsHearingSpec)) leaseNeedsHearingUptoCard

/-- THE SECOND FORM's CARD OF 'weirgatelaw30.LeaseDeadlinesHold'. -/
def leaseDeadlinesHoldUptoCard : Claim7 := { stood := { row := leaseDeadlinesHoldUptoRow, standIns := [], harness := (true, "412655d8052a668430500862d83ed6e2b6f2fc9a4238ed8c7d1f07d0996862f7"), looks := false }, kinds := [], alts := [], laidByText := true, laidKinds := [.data], laidTests := true, laidLooks := .later }
def LeaseDeadlinesHoldUptoCardSaid : Prop := Claim7.holds Tryd.pinned (.plain (OpenSpec.upto leaseDeadlinesHoldSpec)) leaseDeadlinesHoldUptoCard

/-- THE SECOND FORM's CARD OF 'weirgatelaw30.LeaseWorthIsExact'. -/
def leaseWorthIsExactUptoCard : Claim7 := { stood := { row := leaseWorthIsExactUptoRow, standIns := [], harness := (true, "412655d8052a668430500862d83ed6e2b6f2fc9a4238ed8c7d1f07d0996862f7"), looks := false }, kinds := [], alts := [], laidByText := true, laidKinds := [.data], laidTests := true, laidLooks := .later }
def LeaseWorthIsExactUptoCardSaid : Prop := Claim7.holds Tryd.pinned (.plain (OpenSpec.upto leaseWorthIsExactSpec)) leaseWorthIsExactUptoCard
end Rows
end Go.Proofs.YtjenmopgcpnklaaDoor
