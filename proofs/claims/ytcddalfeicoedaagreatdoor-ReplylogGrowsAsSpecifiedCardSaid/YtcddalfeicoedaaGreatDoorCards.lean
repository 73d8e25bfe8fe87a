/-
  DERIVED. GIVEN WITH THE SEED: THE CARDS: each row of YtcddalfeicoedaaGreatDoorRows.lean that lists a variable, with what it lists TIED to the program's text (the seventh form; the later family's looks); each row that meets fmt, with fmt's text TOLD by the authors' own Lean function (tested against real Go, not proved from fmt's source: count such statements apart). THE CARD IS WHAT COUNTS. Prove the row's statement (the work); the ties are given (YtcddalfeicoedaaGreatDoorTie.lean); close each card by the builder's one call (the guide's Derived/Test/ToyasCard.lean, 'card_holds'). Laid BY PROGRAM, IN A SANDBOX (cutbox-door.mjs). By AI agents, Wed Nov 11 2026. No macro, syntax, notation, axiom, sorry.
-/
import Derived.Test.YtcddalfeicoedaaGreatDoorRows
import GoSem.ClaimSeven
namespace Go.Proofs.YtcddalfeicoedaaGreatDoor
namespace Rows

/-- THE TIED CARD OF 'weirgatelaw44.ReplylogGrowsAsSpecified'. -/
def replylogGrowsAsSpecifiedCard : Claim7 := { stood := { row := replylogGrowsAsSpecifiedRow, standIns := [], harness := (true, "9b111163da07dcc0f563db38bb069f1ff3f0d5ae3fedc106bad32ab4bf173aa3"), looks := false }, kinds := [], alts := [], laidByText := true, laidKinds := [.data, .data, .data, .data], laidTests := true, laidLooks := .later }
def ReplylogGrowsAsSpecifiedCardSaid : Prop := Claim7.holds Tryz.pinned (.plain (OpenSpec.ofChange replylogGrowsAsSpecifiedSpec)) replylogGrowsAsSpecifiedCard

/-- THE TIED CARD OF 'weirgatelaw44.ReplylogBinds'. -/
def replylogBindsCard : Claim7 := { stood := { row := replylogBindsRow, standIns := [], harness := (true, "9b111163da07dcc0f563db38bb069f1ff3f0d5ae3fedc106bad32ab4bf173aa3"), looks := false }, kinds := [], alts := [], laidByText := true, laidKinds := [.data, .data, .data, .data], laidTests := true, laidLooks := .later }
def ReplylogBindsCardSaid : Prop := Claim7.holds Tryz.pinned (.plain (OpenSpec.ofChange replylogBindsSpec)) replylogBindsCard

/-- THE TIED CARD OF 'weirgatelaw44.ReplylogWritesAsSpecified'. -/
def replylogWritesAsSpecifiedCard : Claim7 := { stood := { row := replylogWritesAsSpecifiedRow, standIns := [], harness := (true, "9b111163da07dcc0f563db38bb069f1ff3f0d5ae3fedc106bad32ab4bf173aa3"), looks := false }, kinds := [], alts := [], laidByText := true, laidKinds := [.data, .data, .data, .data], laidTests := true, laidLooks := .later }
def ReplylogWritesAsSpecifiedCardSaid : Prop := Claim7.holds Tryz.pinned (.plain (OpenSpec.ofChange replylogWritesAsSpecifiedSpec)) replylogWritesAsSpecifiedCard

/-- THE TIED CARD OF 'weirgatelaw44.ReplylogProvesAsSpecified'. -/
def replylogProvesAsSpecifiedCard : Claim7 := { stood := { row := replylogProvesAsSpecifiedRow, standIns := [], harness := (true, "9b111163da07dcc0f563db38bb069f1ff3f0d5ae3fedc106bad32ab4bf173aa3"), looks := false }, kinds := [], alts := [], laidByText := true, laidKinds := [.data, .data, .data, .data], laidTests := true, laidLooks := .later }
def ReplylogProvesAsSpecifiedCardSaid : Prop := Claim7.holds Tryz.pinned (.plain (OpenSpec.ofChange replylogProvesAsSpecifiedSpec)) replylogProvesAsSpecifiedCard

/-- THE TIED CARD OF 'weirgatelaw44.ReplylogChecksAsSpecified'. -/
def replylogChecksAsSpecifiedCard : Claim7 := { stood := { row := replylogChecksAsSpecifiedRow, standIns := [], harness := (true, "9b111163da07dcc0f563db38bb069f1ff3f0d5ae3fedc106bad32ab4bf173aa3"), looks := false }, kinds := [], alts := [], laidByText := true, laidKinds := [.data, .data, .data, .data], laidTests := true, laidLooks := .later }
def ReplylogChecksAsSpecifiedCardSaid : Prop := Claim7.holds Tryz.pinned (.plain (OpenSpec.ofChange replylogChecksAsSpecifiedSpec)) replylogChecksAsSpecifiedCard

/-- THE SECOND FORM's CARD OF 'weirgatelaw44.ReplylogGrowsAsSpecified'. -/
def replylogGrowsAsSpecifiedUptoCard : Claim7 := { stood := { row := replylogGrowsAsSpecifiedUptoRow, standIns := [], harness := (true, "9b111163da07dcc0f563db38bb069f1ff3f0d5ae3fedc106bad32ab4bf173aa3"), looks := false }, kinds := [], alts := [], laidByText := true, laidKinds := [.data, .data, .data, .data], laidTests := true, laidLooks := .later }
def ReplylogGrowsAsSpecifiedUptoCardSaid : Prop := Claim7.holds Tryz.pinned (.plain (OpenSpec.upto replylogGrowsAsSpecifiedSpec)) replylogGrowsAsSpecifiedUptoCard

/-- THE SECOND FORM's CARD OF 'weirgatelaw44.ReplylogBinds'. -/
def replylogBindsUptoCard : Claim7 := { stood := { row := replylogBindsUptoRow, standIns := [], harness := (true, "9b111163da07dcc0f563db38bb069f1ff3f0d5ae3fedc106bad32ab4bf173aa3"), looks := false }, kinds := [], alts := [], laidByText := true, laidKinds := [.data, .data, .data, .data], laidTests := true, laidLooks := .later }
def ReplylogBindsUptoCardSaid : Prop := Claim7.holds Tryz.pinned (.plain (OpenSpec.upto replylogBindsSpec)) replylogBindsUptoCard

/-- THE SECOND FORM's CARD OF 'weirgatelaw44.ReplylogWritesAsSpecified'. -/
def replylogWritesAsSpecifiedUptoCard : Claim7 := { stood := { row := replylogWritesAsSpecifiedUptoRow, standIns := [], harness := (true, "9b111163da07dcc0f563db38bb069f1ff3f0d5ae3fedc106bad32ab4bf173aa3"), looks := false }, kinds := [], alts := [], laidByText := true, laidKinds := [.data, .data, .data, .data], laidTests := true, laidLooks := .later }
def ReplylogWritesAsSpecifiedUptoCardSaid : Prop := Claim7.holds Tryz.pinned (.plain (OpenSpec.upto replylogWritesAsSpecifiedSpec)) replylogWritesAsSpecifiedUptoCard

/-- THE SECOND FORM's CARD OF 'weirgatelaw44.ReplylogProvesAsSpecified'. -/
def replylogProvesAsSpecifiedUptoCard : Claim7 := { stood := { row := replylogProvesAsSpecifiedUptoRow, standIns := [], harness := (true, "9b111163da07dcc0f563db38bb069f1ff3f0d5ae3fedc106bad32ab4bf173aa3"), looks := false }, kinds := [], alts := [], laidByText := true, laidKinds := [.data, .data, .data, .data], laidTests := true, laidLooks := .later }
def ReplylogProvesAsSpecifiedUptoCardSaid : Prop := Claim7.holds Tryz.pinned (.plain (OpenSpec.upto replylogProvesAsSpecifiedSpec)) replylogProvesAsSpecifiedUptoCard

/-- THE SECOND FORM's CARD OF 'weirgatelaw44.ReplylogChecksAsSpecified'. -/
def replylogChecksAsSpecifiedUptoCard : Claim7 := { stood := { row := replylogChecksAsSpecifiedUptoRow, standIns := [], harness := (true, "9b111163da07dcc0f563db38bb069f1ff3f0d5ae3fedc106bad32ab4bf173aa3"), looks := false }, kinds := [], alts := [], laidByText := true, laidKinds := [.data, .data, .data, .data], laidTests := true, laidLooks := .later }
def ReplylogChecksAsSpecifiedUptoCardSaid : Prop := Claim7.holds Tryz.pinned (.plain (OpenSpec.upto replylogChecksAsSpecifiedSpec)) replylogChecksAsSpecifiedUptoCard
end Rows
end Go.Proofs.YtcddalfeicoedaaGreatDoor
