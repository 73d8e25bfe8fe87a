/-
  DERIVED. GIVEN WITH THE SEED: THE CARDS: each row of YtcddalfeicoedaaDoorRows.lean that lists a variable, with what it lists TIED to the program's text (the seventh form; the later family's looks); each row that meets fmt, with fmt's text TOLD by the authors' own Lean function (tested against real Go, not proved from fmt's source: count such statements apart). THE CARD IS WHAT COUNTS. Prove the row's statement (the work); the ties are given (YtcddalfeicoedaaDoorTie.lean); close each card by the builder's one call (the guide's Derived/Test/ToyasCard.lean, 'card_holds'). Laid BY PROGRAM, IN A SANDBOX (cutbox-door.mjs). By AI agents, Wed Nov 11 2026. No macro, syntax, notation, axiom, sorry.
-/
import Derived.Test.YtcddalfeicoedaaDoorRows
import GoSem.ClaimSeven
namespace Go.Proofs.YtcddalfeicoedaaDoor
namespace Rows

/-- THE TIED CARD OF 'weirgatelaw44.ReplylogProvesWhatItHas'. -/
def replylogProvesWhatItHasCard : Claim7 := { stood := { row := replylogProvesWhatItHasRow, standIns := [], harness := (true, "4e5d4b00e69c83bf5c31dc23ca48688825beb98ab477abc99edf93ba9751c0bb"), looks := false }, kinds := [], alts := [], laidByText := true, laidKinds := [.data, .data, .data], laidTests := true, laidLooks := .later }
def ReplylogProvesWhatItHasCardSaid : Prop := Claim7.holds Tryd.pinned (.plain (OpenSpec.ofChange replylogProvesWhatItHasSpec)) replylogProvesWhatItHasCard

/-- THE SECOND FORM's CARD OF 'weirgatelaw44.ReplylogProvesWhatItHas'. -/
def replylogProvesWhatItHasUptoCard : Claim7 := { stood := { row := replylogProvesWhatItHasUptoRow, standIns := [], harness := (true, "4e5d4b00e69c83bf5c31dc23ca48688825beb98ab477abc99edf93ba9751c0bb"), looks := false }, kinds := [], alts := [], laidByText := true, laidKinds := [.data, .data, .data], laidTests := true, laidLooks := .later }
def ReplylogProvesWhatItHasUptoCardSaid : Prop := Claim7.holds Tryd.pinned (.plain (OpenSpec.upto replylogProvesWhatItHasSpec)) replylogProvesWhatItHasUptoCard
end Rows
end Go.Proofs.YtcddalfeicoedaaDoor
