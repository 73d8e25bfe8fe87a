/-
  No cell of these rows narrows 'for every input' (looked for: loops, veiled, ifaces, maps, wideKeys, modest, calm, conditions, laid).
  DERIVED. THE GIVEN ROWS OF THIS SEAT. 6 by the template 'for every input the law returns true; each argument reads behind the call as it read before'; 0 by the template 'total and deterministic' (their statements: YtjkgmpckddolfaaTotals.lean).
  GIVEN WITH THE SEED: the statements are not yours to turn. If you find one false, say at which input.
  Laid BY PROGRAM, IN A SANDBOX (cutbox-rows.mjs): the forced cells as the released guide's own fill.sh prints them over the translation 69035a07c0b18853… (all of the seat's roots in one cut). By AI agents, Wed Nov 11 2026. No macro, syntax, notation, axiom, sorry.
-/
import Derived.Test.YtjkgmpckddolfaaChecked
import GoSem.Claim
import GoSem.ClaimJoined
import GoSem.ClaimMapViews
import Derived.JoinedTies
import Derived.KernelRfl
namespace Go.Proofs.Ytjkgmpckddolfaa
/- THE CELL 'sum', in the pinned program and in every row, IS THE sha256 OF THE DUMP (.gsa) THAT YtjkgmpckddolfaaProg.lean LOADS. Nothing in Lean hashes anything: it is a label: what it is worth is what the hold of that sum in a sandbox is worth. -/
noncomputable def Try.pinned : Pinned := { name := "ytjkgmpckddolfaa", sum := "69035a07c0b18853d9db659dace3d224a44e7a3308fef9ddf7b96997c294123e", checked := Try.checked }
namespace Rows
def none {H : Type} : Left H := { results := [], args := [] }

/-- 'weirgatelaw16.QuotaSharesAsSpecified': WHATEVER THE INPUT: true; the input reads as it did. -/
def quotaSharesAsSpecifiedSpec : ChangeSpec := { name := "quotaSharesAsSpecified", fn := fun _ => fun
  | [d1, d2, d3] => { results := [.lit (.bool true)], args := [d1, d2, d3] }
  | _ => none }
def quotaSharesAsSpecifiedRow : OpenClaim := { program := "ytjkgmpckddolfaa", sum := "69035a07c0b18853d9db659dace3d224a44e7a3308fef9ddf7b96997c294123e", func := "weirgate/weirgatelaw16.QuotaSharesAsSpecified", spec := "quotaSharesAsSpecified", inPlace := ["slices.overlaps[weirgate/api.Account]"], unfollowed := true, recurses := true, apart := false }
def QuotaSharesAsSpecifiedSaid : Prop := quotaSharesAsSpecifiedRow.holds Try.pinned (OpenSpec.ofChange quotaSharesAsSpecifiedSpec)

/-- ITS FALSE NEIGHBOUR: 'it returns false'. Refute it at one input. -/
def quotaSharesAsSpecifiedWrong : ChangeSpec := { name := "quotaSharesAsSpecified", fn := fun _ => fun
  | [d1, d2, d3] => { results := [.lit (.bool false)], args := [d1, d2, d3] }
  | _ => none }
def QuotaSharesAsSpecifiedWrongFalsely : Prop := quotaSharesAsSpecifiedRow.holds Try.pinned (OpenSpec.ofChange quotaSharesAsSpecifiedWrong)

/-- 'weirgatelaw16.QuotaIsFair': WHATEVER THE INPUT: true; the input reads as it did. -/
def quotaIsFairSpec : ChangeSpec := { name := "quotaIsFair", fn := fun _ => fun
  | [d1, d2] => { results := [.lit (.bool true)], args := [d1, d2] }
  | _ => none }
def quotaIsFairRow : OpenClaim := { program := "ytjkgmpckddolfaa", sum := "69035a07c0b18853d9db659dace3d224a44e7a3308fef9ddf7b96997c294123e", func := "weirgate/weirgatelaw16.QuotaIsFair", spec := "quotaIsFair", inPlace := ["slices.overlaps[weirgate/api.Account]"], unfollowed := true, recurses := true, apart := false }
def QuotaIsFairSaid : Prop := quotaIsFairRow.holds Try.pinned (OpenSpec.ofChange quotaIsFairSpec)

/-- ITS FALSE NEIGHBOUR: 'it returns false'. Refute it at one input. -/
def quotaIsFairWrong : ChangeSpec := { name := "quotaIsFair", fn := fun _ => fun
  | [d1, d2] => { results := [.lit (.bool false)], args := [d1, d2] }
  | _ => none }
def QuotaIsFairWrongFalsely : Prop := quotaIsFairRow.holds Try.pinned (OpenSpec.ofChange quotaIsFairWrong)

/-- 'weirgatelaw16.QuotaGrows': WHATEVER THE INPUT: true; the input reads as it did. -/
def quotaGrowsSpec : ChangeSpec := { name := "quotaGrows", fn := fun _ => fun
  | [d1, d2, d3] => { results := [.lit (.bool true)], args := [d1, d2, d3] }
  | _ => none }
def quotaGrowsRow : OpenClaim := { program := "ytjkgmpckddolfaa", sum := "69035a07c0b18853d9db659dace3d224a44e7a3308fef9ddf7b96997c294123e", func := "weirgate/weirgatelaw16.QuotaGrows", spec := "quotaGrows", inPlace := ["slices.overlaps[weirgate/api.Account]"], unfollowed := true, recurses := true, apart := false }
def QuotaGrowsSaid : Prop := quotaGrowsRow.holds Try.pinned (OpenSpec.ofChange quotaGrowsSpec)

/-- ITS FALSE NEIGHBOUR: 'it returns false'. Refute it at one input. -/
def quotaGrowsWrong : ChangeSpec := { name := "quotaGrows", fn := fun _ => fun
  | [d1, d2, d3] => { results := [.lit (.bool false)], args := [d1, d2, d3] }
  | _ => none }
def QuotaGrowsWrongFalsely : Prop := quotaGrowsRow.holds Try.pinned (OpenSpec.ofChange quotaGrowsWrong)

/-- 'weirgatelaw16.QuotaKeepsAccounts': WHATEVER THE INPUT: true; the input reads as it did. -/
def quotaKeepsAccountsSpec : ChangeSpec := { name := "quotaKeepsAccounts", fn := fun _ => fun
  | [d1, d2, d3, d4] => { results := [.lit (.bool true)], args := [d1, d2, d3, d4] }
  | _ => none }
def quotaKeepsAccountsRow : OpenClaim := { program := "ytjkgmpckddolfaa", sum := "69035a07c0b18853d9db659dace3d224a44e7a3308fef9ddf7b96997c294123e", func := "weirgate/weirgatelaw16.QuotaKeepsAccounts", spec := "quotaKeepsAccounts", inPlace := ["slices.overlaps[weirgate/api.Account]"], unfollowed := true, recurses := true, apart := false }
def QuotaKeepsAccountsSaid : Prop := quotaKeepsAccountsRow.holds Try.pinned (OpenSpec.ofChange quotaKeepsAccountsSpec)

/-- ITS FALSE NEIGHBOUR: 'it returns false'. Refute it at one input. -/
def quotaKeepsAccountsWrong : ChangeSpec := { name := "quotaKeepsAccounts", fn := fun _ => fun
  | [d1, d2, d3, d4] => { results := [.lit (.bool false)], args := [d1, d2, d3, d4] }
  | _ => none }
def QuotaKeepsAccountsWrongFalsely : Prop := quotaKeepsAccountsRow.holds Try.pinned (OpenSpec.ofChange quotaKeepsAccountsWrong)

/-- 'weirgatelaw16.QuotaChoosesAsSpecified': WHATEVER THE INPUT: true; the input reads as it did. -/
def quotaChoosesAsSpecifiedSpec : ChangeSpec := { name := "quotaChoosesAsSpecified", fn := fun _ => fun
  | [d1, d2, d3, d4] => { results := [.lit (.bool true)], args := [d1, d2, d3, d4] }
  | _ => none }
def quotaChoosesAsSpecifiedRow : OpenClaim := { program := "ytjkgmpckddolfaa", sum := "69035a07c0b18853d9db659dace3d224a44e7a3308fef9ddf7b96997c294123e", func := "weirgate/weirgatelaw16.QuotaChoosesAsSpecified", spec := "quotaChoosesAsSpecified", inPlace := ["slices.overlaps[weirgate/api.Account]"], unfollowed := true, recurses := true, apart := false }
def QuotaChoosesAsSpecifiedSaid : Prop := quotaChoosesAsSpecifiedRow.holds Try.pinned (OpenSpec.ofChange quotaChoosesAsSpecifiedSpec)

/-- ITS FALSE NEIGHBOUR: 'it returns false'. Refute it at one input. -/
def quotaChoosesAsSpecifiedWrong : ChangeSpec := { name := "quotaChoosesAsSpecified", fn := fun _ => fun
  | [d1, d2, d3, d4] => { results := [.lit (.bool false)], args := [d1, d2, d3, d4] }
  | _ => none }
def QuotaChoosesAsSpecifiedWrongFalsely : Prop := quotaChoosesAsSpecifiedRow.holds Try.pinned (OpenSpec.ofChange quotaChoosesAsSpecifiedWrong)

/-- 'weirgatelaw16.QuotaProtects': WHATEVER THE INPUT: true; the input reads as it did. -/
def quotaProtectsSpec : ChangeSpec := { name := "quotaProtects", fn := fun _ => fun
  | [d1, d2, d3, d4] => { results := [.lit (.bool true)], args := [d1, d2, d3, d4] }
  | _ => none }
def quotaProtectsRow : OpenClaim := { program := "ytjkgmpckddolfaa", sum := "69035a07c0b18853d9db659dace3d224a44e7a3308fef9ddf7b96997c294123e", func := "weirgate/weirgatelaw16.QuotaProtects", spec := "quotaProtects", inPlace := ["slices.overlaps[weirgate/api.Account]"], unfollowed := true, recurses := true, apart := false }
def QuotaProtectsSaid : Prop := quotaProtectsRow.holds Try.pinned (OpenSpec.ofChange quotaProtectsSpec)

/-- ITS FALSE NEIGHBOUR: 'it returns false'. Refute it at one input. -/
def quotaProtectsWrong : ChangeSpec := { name := "quotaProtects", fn := fun _ => fun
  | [d1, d2, d3, d4] => { results := [.lit (.bool false)], args := [d1, d2, d3, d4] }
  | _ => none }
def QuotaProtectsWrongFalsely : Prop := quotaProtectsRow.holds Try.pinned (OpenSpec.ofChange quotaProtectsWrong)

/- THE SECOND FORM. 'bulk': how many values and letters a reading holds, each counted each time it is reached (what is shared counts as often as it is met; a slice's spare places count too). A statement '..UptoSaid' is the law's where the arguments, and the package variables that the reading takes, are together of bulk at most 1048576: NARROWER than '..Said'. Prove '..Said' where nothing that the law and all that it calls make is longer than what came in: it says more and counts as full. Else prove '..UptoSaid'. A law counts once. -/
mutual
def uptoBulk {H : Type} : DataW H → Nat
  | .lit (.string bytes) => bytes.length + 1
  | .lit _ => 1
  | .nil => 1
  | .ptr d => uptoBulk d + 1
  | .slice elems spare => uptoBulkAll elems + uptoBulkAll spare + 1
  | .agg parts => uptoBulkAll parts + 1
  | .iface _ d => uptoBulk d + 1
  | .map entries => uptoBulkEntries entries + 1
  | .held _ => 1
def uptoBulkAll {H : Type} : List (DataW H) → Nat
  | [] => 0
  | d :: r => uptoBulk d + uptoBulkAll r
def uptoBulkEntries {H : Type} : List (Lit × DataW H) → Nat
  | [] => 0
  | x :: r => uptoBulkEntry x + uptoBulkEntries r
def uptoBulkEntry {H : Type} : Lit × DataW H → Nat
  | (.string bytes, d) => bytes.length + uptoBulk d + 1
  | (_, d) => uptoBulk d + 1
 end
def uptoSmall : (H : Type) → List (DataW H) → Bool := fun _ ds => decide (uptoBulkAll ds ≤ 1048576)
def OpenSpec.upto (s : _root_.Go.ChangeSpec) : _root_.Go.OpenSpec := { _root_.Go.OpenSpec.ofChange s with cond := some uptoSmall }

/-- 'weirgatelaw16.QuotaSharesAsSpecified', WHERE WHAT IT READS IS OF BULK AT MOST 1048576: true; the input reads as it did. -/
def quotaSharesAsSpecifiedUptoRow : OpenClaim := { program := "ytjkgmpckddolfaa", sum := "69035a07c0b18853d9db659dace3d224a44e7a3308fef9ddf7b96997c294123e", func := "weirgate/weirgatelaw16.QuotaSharesAsSpecified", spec := "quotaSharesAsSpecified", inPlace := ["slices.overlaps[weirgate/api.Account]"], unfollowed := true, recurses := true, apart := false, narrowed := true }
def QuotaSharesAsSpecifiedUptoSaid : Prop := quotaSharesAsSpecifiedUptoRow.holds Try.pinned (OpenSpec.upto quotaSharesAsSpecifiedSpec)

/-- 'weirgatelaw16.QuotaIsFair', WHERE WHAT IT READS IS OF BULK AT MOST 1048576: true; the input reads as it did. -/
def quotaIsFairUptoRow : OpenClaim := { program := "ytjkgmpckddolfaa", sum := "69035a07c0b18853d9db659dace3d224a44e7a3308fef9ddf7b96997c294123e", func := "weirgate/weirgatelaw16.QuotaIsFair", spec := "quotaIsFair", inPlace := ["slices.overlaps[weirgate/api.Account]"], unfollowed := true, recurses := true, apart := false, narrowed := true }
def QuotaIsFairUptoSaid : Prop := quotaIsFairUptoRow.holds Try.pinned (OpenSpec.upto quotaIsFairSpec)

/-- 'weirgatelaw16.QuotaGrows', WHERE WHAT IT READS IS OF BULK AT MOST 1048576: true; the input reads as it did. -/
def quotaGrowsUptoRow : OpenClaim := { program := "ytjkgmpckddolfaa", sum := "69035a07c0b18853d9db659dace3d224a44e7a3308fef9ddf7b96997c294123e", func := "weirgate/weirgatelaw16.QuotaGrows", spec := "quotaGrows", inPlace := ["slices.overlaps[weirgate/api.Account]"], unfollowed := true, recurses := true, apart := false, narrowed := true }
def QuotaGrowsUptoSaid : Prop := quotaGrowsUptoRow.holds Try.pinned (OpenSpec.upto quotaGrowsSpec)

/-- 'weirgatelaw16.QuotaKeepsAccounts', WHERE WHAT IT READS IS OF BULK AT MOST 1048576: true; the input reads as it did. -/
def quotaKeepsAccountsUptoRow : OpenClaim := { program := "ytjkgmpckddolfaa", sum := "69035a07c0b18853d9db659dace3d224a44e7a3308fef9ddf7b96997c294123e", func := "weirgate/weirgatelaw16.QuotaKeepsAccounts", spec := "quotaKeepsAccounts", inPlace := ["slices.overlaps[weirgate/api.Account]"], unfollowed := true, recurses := true, apart := false, narrowed := true }
def QuotaKeepsAccountsUptoSaid : Prop := quotaKeepsAccountsUptoRow.holds Try.pinned (OpenSpec.upto quotaKeepsAccountsSpec)

/-- 'weirgatelaw16.QuotaChoosesAsSpecified', WHERE WHAT IT READS IS OF BULK AT MOST 1048576: true; the input reads as it did. -/
def quotaChoosesAsSpecifiedUptoRow : OpenClaim := { program := "ytjkgmpckddolfaa", sum := "69035a07c0b18853d9db659dace3d224a44e7a3308fef9ddf7b96997c294123e", func := "weirgate/weirgatelaw16.QuotaChoosesAsSpecified", spec := "quotaChoosesAsSpecified", inPlace := ["slices.overlaps[weirgate/api.Account]"], unfollowed := true, recurses := true, apart := false, narrowed := true }
def QuotaChoosesAsSpecifiedUptoSaid : Prop := quotaChoosesAsSpecifiedUptoRow.holds Try.pinned (OpenSpec.upto quotaChoosesAsSpecifiedSpec)

/-- 'weirgatelaw16.QuotaProtects', WHERE WHAT IT READS IS OF BULK AT MOST 1048576: true; the input reads as it did. -/
def quotaProtectsUptoRow : OpenClaim := { program := "ytjkgmpckddolfaa", sum := "69035a07c0b18853d9db659dace3d224a44e7a3308fef9ddf7b96997c294123e", func := "weirgate/weirgatelaw16.QuotaProtects", spec := "quotaProtects", inPlace := ["slices.overlaps[weirgate/api.Account]"], unfollowed := true, recurses := true, apart := false, narrowed := true }
def QuotaProtectsUptoSaid : Prop := quotaProtectsUptoRow.holds Try.pinned (OpenSpec.upto quotaProtectsSpec)

end Rows
end Go.Proofs.Ytjkgmpckddolfaa
