/-
  No cell of these rows narrows 'for every input' (looked for: loops, veiled, ifaces, maps, wideKeys, modest, calm, conditions, laid).
  DERIVED. THE GIVEN ROWS OF THIS SEAT. 5 by the template 'for every input the law returns true; each argument reads behind the call as it read before'; 0 by the template 'total and deterministic' (their statements: YtdbppejfcolacaaTotals.lean).
  GIVEN WITH THE SEED: the statements are not yours to turn. If you find one false, say at which input.
  Laid BY PROGRAM, IN A SANDBOX (cutbox-rows.mjs): the forced cells as the released guide's own fill.sh prints them over the translation 1204e20e4428affc… (all of the seat's roots in one cut). By AI agents, Wed Nov 11 2026. No macro, syntax, notation, axiom, sorry.
-/
import Derived.Test.YtdbppejfcolacaaChecked
import GoSem.Claim
import GoSem.ClaimJoined
import GoSem.ClaimMapViews
import Derived.JoinedTies
import Derived.KernelRfl
namespace Go.Proofs.Ytdbppejfcolacaa
/- THE CELL 'sum', in the pinned program and in every row, IS THE sha256 OF THE DUMP (.gsa) THAT YtdbppejfcolacaaProg.lean LOADS. Nothing in Lean hashes anything: it is a label: what it is worth is what the hold of that sum in a sandbox is worth. -/
noncomputable def Try.pinned : Pinned := { name := "ytdbppejfcolacaa", sum := "1204e20e4428affc0b5dbd975b22e2611e8904ad4570a97b892628b364739f86", checked := Try.checked }
namespace Rows
def none {H : Type} : Left H := { results := [], args := [] }

/-- 'weirgatelaw39.CreditBanksAsSpecified': WHATEVER THE INPUT: true; the input reads as it did. -/
def creditBanksAsSpecifiedSpec : ChangeSpec := { name := "creditBanksAsSpecified", fn := fun _ => fun
  | [d1, d2, d3, d4, d5] => { results := [.lit (.bool true)], args := [d1, d2, d3, d4, d5] }
  | _ => none }
def creditBanksAsSpecifiedRow : OpenClaim := { program := "ytdbppejfcolacaa", sum := "1204e20e4428affc0b5dbd975b22e2611e8904ad4570a97b892628b364739f86", func := "weirgate/weirgatelaw39.CreditBanksAsSpecified", spec := "creditBanksAsSpecified", inPlace := ["slices.overlaps[weirgate/api.Row]", "slices.overlaps[weirgate/api.Coin]"], unfollowed := true, recurses := true, apart := false }
def CreditBanksAsSpecifiedSaid : Prop := creditBanksAsSpecifiedRow.holds Try.pinned (OpenSpec.ofChange creditBanksAsSpecifiedSpec)

/-- ITS FALSE NEIGHBOUR: 'it returns false'. Refute it at one input. -/
def creditBanksAsSpecifiedWrong : ChangeSpec := { name := "creditBanksAsSpecified", fn := fun _ => fun
  | [d1, d2, d3, d4, d5] => { results := [.lit (.bool false)], args := [d1, d2, d3, d4, d5] }
  | _ => none }
def CreditBanksAsSpecifiedWrongFalsely : Prop := creditBanksAsSpecifiedRow.holds Try.pinned (OpenSpec.ofChange creditBanksAsSpecifiedWrong)

/-- 'weirgatelaw39.CreditOldNewsChangesNothing': WHATEVER THE INPUT: true; the input reads as it did. -/
def creditOldNewsChangesNothingSpec : ChangeSpec := { name := "creditOldNewsChangesNothing", fn := fun _ => fun
  | [d1, d2, d3, d4, d5, d6] => { results := [.lit (.bool true)], args := [d1, d2, d3, d4, d5, d6] }
  | _ => none }
def creditOldNewsChangesNothingRow : OpenClaim := { program := "ytdbppejfcolacaa", sum := "1204e20e4428affc0b5dbd975b22e2611e8904ad4570a97b892628b364739f86", func := "weirgate/weirgatelaw39.CreditOldNewsChangesNothing", spec := "creditOldNewsChangesNothing", inPlace := ["slices.overlaps[weirgate/api.Row]", "slices.overlaps[weirgate/api.Coin]"], unfollowed := true, recurses := true, apart := false }
def CreditOldNewsChangesNothingSaid : Prop := creditOldNewsChangesNothingRow.holds Try.pinned (OpenSpec.ofChange creditOldNewsChangesNothingSpec)

/-- ITS FALSE NEIGHBOUR: 'it returns false'. Refute it at one input. -/
def creditOldNewsChangesNothingWrong : ChangeSpec := { name := "creditOldNewsChangesNothing", fn := fun _ => fun
  | [d1, d2, d3, d4, d5, d6] => { results := [.lit (.bool false)], args := [d1, d2, d3, d4, d5, d6] }
  | _ => none }
def CreditOldNewsChangesNothingWrongFalsely : Prop := creditOldNewsChangesNothingRow.holds Try.pinned (OpenSpec.ofChange creditOldNewsChangesNothingWrong)

/-- 'weirgatelaw39.CreditComesBack': WHATEVER THE INPUT: true; the input reads as it did. -/
def creditComesBackSpec : ChangeSpec := { name := "creditComesBack", fn := fun _ => fun
  | [d1, d2, d3, d4, d5] => { results := [.lit (.bool true)], args := [d1, d2, d3, d4, d5] }
  | _ => none }
def creditComesBackRow : OpenClaim := { program := "ytdbppejfcolacaa", sum := "1204e20e4428affc0b5dbd975b22e2611e8904ad4570a97b892628b364739f86", func := "weirgate/weirgatelaw39.CreditComesBack", spec := "creditComesBack", inPlace := ["slices.overlaps[weirgate/api.Row]", "slices.overlaps[weirgate/api.Coin]"], unfollowed := true, recurses := true, apart := false }
def CreditComesBackSaid : Prop := creditComesBackRow.holds Try.pinned (OpenSpec.ofChange creditComesBackSpec)

/-- ITS FALSE NEIGHBOUR: 'it returns false'. Refute it at one input. -/
def creditComesBackWrong : ChangeSpec := { name := "creditComesBack", fn := fun _ => fun
  | [d1, d2, d3, d4, d5] => { results := [.lit (.bool false)], args := [d1, d2, d3, d4, d5] }
  | _ => none }
def CreditComesBackWrongFalsely : Prop := creditComesBackRow.holds Try.pinned (OpenSpec.ofChange creditComesBackWrong)

/-- 'weirgatelaw39.CreditPursesMatchSpec': WHATEVER THE INPUT: true; the input reads as it did. -/
def creditPursesMatchSpecSpec : ChangeSpec := { name := "creditPursesMatchSpec", fn := fun _ => fun
  | [d1, d2, d3, d4] => { results := [.lit (.bool true)], args := [d1, d2, d3, d4] }
  | _ => none }
def creditPursesMatchSpecRow : OpenClaim := { program := "ytdbppejfcolacaa", sum := "1204e20e4428affc0b5dbd975b22e2611e8904ad4570a97b892628b364739f86", func := "weirgate/weirgatelaw39.CreditPursesMatchSpec", spec := "creditPursesMatchSpec", inPlace := ["slices.overlaps[weirgate/api.Row]", "slices.overlaps[weirgate/api.Coin]"], unfollowed := true, recurses := true, apart := false }
def CreditPursesMatchSpecSaid : Prop := creditPursesMatchSpecRow.holds Try.pinned (OpenSpec.ofChange creditPursesMatchSpecSpec)

/-- ITS FALSE NEIGHBOUR: 'it returns false'. Refute it at one input. -/
def creditPursesMatchSpecWrong : ChangeSpec := { name := "creditPursesMatchSpec", fn := fun _ => fun
  | [d1, d2, d3, d4] => { results := [.lit (.bool false)], args := [d1, d2, d3, d4] }
  | _ => none }
def CreditPursesMatchSpecWrongFalsely : Prop := creditPursesMatchSpecRow.holds Try.pinned (OpenSpec.ofChange creditPursesMatchSpecWrong)

/-- 'weirgatelaw39.CreditNeverExceeds': WHATEVER THE INPUT: true; the input reads as it did. -/
def creditNeverExceedsSpec : ChangeSpec := { name := "creditNeverExceeds", fn := fun _ => fun
  | [d1, d2] => { results := [.lit (.bool true)], args := [d1, d2] }
  | _ => none }
def creditNeverExceedsRow : OpenClaim := { program := "ytdbppejfcolacaa", sum := "1204e20e4428affc0b5dbd975b22e2611e8904ad4570a97b892628b364739f86", func := "weirgate/weirgatelaw39.CreditNeverExceeds", spec := "creditNeverExceeds", inPlace := ["slices.overlaps[weirgate/api.Row]", "slices.overlaps[weirgate/api.Coin]"], unfollowed := true, recurses := true, apart := false }
def CreditNeverExceedsSaid : Prop := creditNeverExceedsRow.holds Try.pinned (OpenSpec.ofChange creditNeverExceedsSpec)

/-- ITS FALSE NEIGHBOUR: 'it returns false'. Refute it at one input. -/
def creditNeverExceedsWrong : ChangeSpec := { name := "creditNeverExceeds", fn := fun _ => fun
  | [d1, d2] => { results := [.lit (.bool false)], args := [d1, d2] }
  | _ => none }
def CreditNeverExceedsWrongFalsely : Prop := creditNeverExceedsRow.holds Try.pinned (OpenSpec.ofChange creditNeverExceedsWrong)

/- THE SECOND FORM. 'bulk': how many values and letters a reading holds, each counted each time it is reached (what is shared counts as often as it is met; a slice's spare places count too). A statement '..UptoSaid' is the law's where the arguments, and the package variables that the reading takes, are together of bulk at most 1048576: NARROWER than '..Said'. Prove '..Said' where nothing that the law and all that it calls make is longer than what came in: it says more and counts as full. Else prove '..UptoSaid'. A law counts once. -/
mutual
def uptoBulk {H : Type} : DataW H → Nat
  | .lit (.string bytes) => bytes.length + 1
  | .lit _ => 1
  | .nil => 1
  | .ptr d => uptoBulk d + 1
  | .slice elems spare => uptoBulkAll elems + uptoBulkAll spare + 1
  | .agg parts => uptoBulkAll parts + 1
  | .iface _ d => uptoBulk d + 1
  | .map entries => uptoBulkEntries entries + 1
  | .held _ => 1
def uptoBulkAll {H : Type} : List (DataW H) → Nat
  | [] => 0
  | d :: r => uptoBulk d + uptoBulkAll r
def uptoBulkEntries {H : Type} : List (Lit × DataW H) → Nat
  | [] => 0
  | x :: r => uptoBulkEntry x + uptoBulkEntries r
def uptoBulkEntry {H : Type} : Lit × DataW H → Nat
  | (.string bytes, d) => bytes.length + uptoBulk d + 1
  | (_, d) => uptoBulk d + 1
 end
def uptoSmall : (H : Type) → List (DataW H) → Bool := fun _ ds => decide (uptoBulkAll ds ≤ 1048576)
def OpenSpec.upto (s : _root_.Go.ChangeSpec) : _root_.Go.OpenSpec := { _root_.Go.OpenSpec.ofChange s with cond := some uptoSmall }

/-- 'weirgatelaw39.CreditBanksAsSpecified', WHERE WHAT IT READS IS OF BULK AT MOST 1048576: true; the input reads as it did. -/
def creditBanksAsSpecifiedUptoRow : OpenClaim := { program := "ytdbppejfcolacaa", sum := "1204e20e4428affc0b5dbd975b22e2611e8904ad4570a97b892628b364739f86", func := "weirgate/weirgatelaw39.CreditBanksAsSpecified", spec := "creditBanksAsSpecified", inPlace := ["slices.overlaps[weirgate/api.Row]", "slices.overlaps[weirgate/api.Coin]"], unfollowed := true, recurses := true, apart := false, narrowed := true }
def CreditBanksAsSpecifiedUptoSaid : Prop := creditBanksAsSpecifiedUptoRow.holds Try.pinned (OpenSpec.upto creditBanksAsSpecifiedSpec)

/-- 'weirgatelaw39.CreditOldNewsChangesNothing', WHERE WHAT IT READS IS OF BULK AT MOST 1048576: true; the input reads as it did. -/
def creditOldNewsChangesNothingUptoRow : OpenClaim := { program := "ytdbppejfcolacaa", sum := "1204e20e4428affc0b5dbd975b22e2611e8904ad4570a97b892628b364739f86", func := "weirgate/weirgatelaw39.CreditOldNewsChangesNothing", spec := "creditOldNewsChangesNothing", inPlace := ["slices.overlaps[weirgate/api.Row]", "slices.overlaps[weirgate/api.Coin]"], unfollowed := true, recurses := true, apart := false, narrowed := true }
def CreditOldNewsChangesNothingUptoSaid : Prop := creditOldNewsChangesNothingUptoRow.holds Try.pinned (OpenSpec.upto creditOldNewsChangesNothingSpec)

/-- 'weirgatelaw39.CreditComesBack', WHERE WHAT IT READS IS OF BULK AT MOST 1048576: true; the input reads as it did. -/
def creditComesBackUptoRow : OpenClaim := { program := "ytdbppejfcolacaa", sum := "1204e20e4428affc0b5dbd975b22e2611e8904ad4570a97b892628b364739f86", func := "weirgate/weirgatelaw39.CreditComesBack", spec := "creditComesBack", inPlace := ["slices.overlaps[weirgate/api.Row]", "slices.overlaps[weirgate/api.Coin]"], unfollowed := true, recurses := true, apart := false, narrowed := true }
def CreditComesBackUptoSaid : Prop := creditComesBackUptoRow.holds Try.pinned (OpenSpec.upto creditComesBackSpec)

/-- 'weirgatelaw39.CreditPursesMatchSpec', WHERE WHAT IT READS IS OF BULK AT MOST 1048576: true; the input reads as it did. -/
def creditPursesMatchSpecUptoRow : OpenClaim := { program := "ytdbppejfcolacaa", sum := "1204e20e4428affc0b5dbd975b22e2611e8904ad4570a97b892628b364739f86", func := "weirgate/weirgatelaw39.CreditPursesMatchSpec", spec := "creditPursesMatchSpec", inPlace := ["slices.overlaps[weirgate/api.Row]", "slices.overlaps[weirgate/api.Coin]"], unfollowed := true, recurses := true, apart := false, narrowed := true }
def CreditPursesMatchSpecUptoSaid : Prop := creditPursesMatchSpecUptoRow.holds Try.pinned (OpenSpec.upto creditPursesMatchSpecSpec)

/-- 'weirgatelaw39.CreditNeverExceeds', WHERE WHAT IT READS IS OF BULK AT MOST 1048576: true; the input reads as it did. -/
def creditNeverExceedsUptoRow : OpenClaim := { program := "ytdbppejfcolacaa", sum := "1204e20e4428affc0b5dbd975b22e2611e8904ad4570a97b892628b364739f86", func := "weirgate/weirgatelaw39.CreditNeverExceeds", spec := "creditNeverExceeds", inPlace := ["slices.overlaps[weirgate/api.Row]", "slices.overlaps[weirgate/api.Coin]"], unfollowed := true, recurses := true, apart := false, narrowed := true }
def CreditNeverExceedsUptoSaid : Prop := creditNeverExceedsUptoRow.holds Try.pinned (OpenSpec.upto creditNeverExceedsSpec)

end Rows
end Go.Proofs.Ytdbppejfcolacaa
