/-
  NARROWER THAN 'FOR EVERY INPUT', by the rows' own cells (each row's printed sentence says how): SealKeepsRings: laid · SealRotatesAsSpecified: laid · SealChecksAsSpecified: laid · SealJudgesRecords: laid · SealRecordsAsSpecified: laid · SealAcceptsItsOwn: laid.
  DERIVED. THE GIVEN ROWS OF THIS SEAT. 6 by the template 'for every input the law returns true; each argument reads behind the call as it read before'; 0 by the template 'total and deterministic' (their statements: YtpjpmfjngpjifaaDoorTotals.lean).
  GIVEN WITH THE SEED: the statements are not yours to turn. If you find one false, say at which input.
  Laid BY PROGRAM, IN A SANDBOX (cutbox-rows.mjs): the forced cells as the released guide's own fill.sh prints them over the translation 8073bd1b6fda4dad… (all of the seat's roots in one cut). By AI agents, Wed Nov 11 2026. No macro, syntax, notation, axiom, sorry.
-/
import Derived.Test.YtpjpmfjngpjifaaDoorChecked
import GoSem.Claim
import GoSem.ClaimJoined
import GoSem.ClaimMapViews
import Derived.JoinedTies
import Derived.KernelRfl
namespace Go.Proofs.YtpjpmfjngpjifaaDoor
/- THE CELL 'sum', in the pinned program and in every row, IS THE sha256 OF THE DUMP (.gsa) THAT YtpjpmfjngpjifaaDoorProg.lean LOADS. Nothing in Lean hashes anything: it is a label: what it is worth is what the hold of that sum in a sandbox is worth. -/
noncomputable def Tryd.pinned : Pinned := { name := "ytpjpmfjngpjifaadoor", sum := "8073bd1b6fda4dad071cde2cbb7ef1d034d025893f99ed7a66f369264aee02e0", checked := Tryd.checked }
namespace Rows
def none {H : Type} : Left H := { results := [], args := [] }

/- WHAT THE LISTED PACKAGE-LEVEL VARIABLES READ AS WHEN THE CALL BEGINS. Each datum BY PROGRAM (the guide's laid-datum.mjs) off the statement by which the dump's own 'gosem.cut.vars' lays the variable. In a bare row this is a premise. The card (YtpjpmfjngpjifaaDoorCards.lean) ties it to the program's text. -/
def laid_weirgate_hash_constants {H : Type} : DataW H := .agg [.lit (.int .u32 1116352408), .lit (.int .u32 1899447441), .lit (.int .u32 3049323471), .lit (.int .u32 3921009573), .lit (.int .u32 961987163), .lit (.int .u32 1508970993), .lit (.int .u32 2453635748), .lit (.int .u32 2870763221), .lit (.int .u32 3624381080), .lit (.int .u32 310598401), .lit (.int .u32 607225278), .lit (.int .u32 1426881987), .lit (.int .u32 1925078388), .lit (.int .u32 2162078206), .lit (.int .u32 2614888103), .lit (.int .u32 3248222580), .lit (.int .u32 3835390401), .lit (.int .u32 4022224774), .lit (.int .u32 264347078), .lit (.int .u32 604807628), .lit (.int .u32 770255983), .lit (.int .u32 1249150122), .lit (.int .u32 1555081692), .lit (.int .u32 1996064986), .lit (.int .u32 2554220882), .lit (.int .u32 2821834349), .lit (.int .u32 2952996808), .lit (.int .u32 3210313671), .lit (.int .u32 3336571891), .lit (.int .u32 3584528711), .lit (.int .u32 113926993), .lit (.int .u32 338241895), .lit (.int .u32 666307205), .lit (.int .u32 773529912), .lit (.int .u32 1294757372), .lit (.int .u32 1396182291), .lit (.int .u32 1695183700), .lit (.int .u32 1986661051), .lit (.int .u32 2177026350), .lit (.int .u32 2456956037), .lit (.int .u32 2730485921), .lit (.int .u32 2820302411), .lit (.int .u32 3259730800), .lit (.int .u32 3345764771), .lit (.int .u32 3516065817), .lit (.int .u32 3600352804), .lit (.int .u32 4094571909), .lit (.int .u32 275423344), .lit (.int .u32 430227734), .lit (.int .u32 506948616), .lit (.int .u32 659060556), .lit (.int .u32 883997877), .lit (.int .u32 958139571), .lit (.int .u32 1322822218), .lit (.int .u32 1537002063), .lit (.int .u32 1747873779), .lit (.int .u32 1955562222), .lit (.int .u32 2024104815), .lit (.int .u32 2227730452), .lit (.int .u32 2361852424), .lit (.int .u32 2428436474), .lit (.int .u32 2756734187), .lit (.int .u32 3204031479), .lit (.int .u32 3329325298)]
def laid_weirgate_weirgateref02_constants {H : Type} : DataW H := .agg [.lit (.int .u32 1116352408), .lit (.int .u32 1899447441), .lit (.int .u32 3049323471), .lit (.int .u32 3921009573), .lit (.int .u32 961987163), .lit (.int .u32 1508970993), .lit (.int .u32 2453635748), .lit (.int .u32 2870763221), .lit (.int .u32 3624381080), .lit (.int .u32 310598401), .lit (.int .u32 607225278), .lit (.int .u32 1426881987), .lit (.int .u32 1925078388), .lit (.int .u32 2162078206), .lit (.int .u32 2614888103), .lit (.int .u32 3248222580), .lit (.int .u32 3835390401), .lit (.int .u32 4022224774), .lit (.int .u32 264347078), .lit (.int .u32 604807628), .lit (.int .u32 770255983), .lit (.int .u32 1249150122), .lit (.int .u32 1555081692), .lit (.int .u32 1996064986), .lit (.int .u32 2554220882), .lit (.int .u32 2821834349), .lit (.int .u32 2952996808), .lit (.int .u32 3210313671), .lit (.int .u32 3336571891), .lit (.int .u32 3584528711), .lit (.int .u32 113926993), .lit (.int .u32 338241895), .lit (.int .u32 666307205), .lit (.int .u32 773529912), .lit (.int .u32 1294757372), .lit (.int .u32 1396182291), .lit (.int .u32 1695183700), .lit (.int .u32 1986661051), .lit (.int .u32 2177026350), .lit (.int .u32 2456956037), .lit (.int .u32 2730485921), .lit (.int .u32 2820302411), .lit (.int .u32 3259730800), .lit (.int .u32 3345764771), .lit (.int .u32 3516065817), .lit (.int .u32 3600352804), .lit (.int .u32 4094571909), .lit (.int .u32 275423344), .lit (.int .u32 430227734), .lit (.int .u32 506948616), .lit (.int .u32 659060556), .lit (.int .u32 883997877), .lit (.int .u32 958139571), .lit (.int .u32 1322822218), .lit (.int .u32 1537002063), .lit (.int .u32 1747873779), .lit (.int .u32 1955562222), .lit (.int .u32 2024104815), .lit (.int .u32 2227730452), .lit (.int .u32 2361852424), .lit (.int .u32 2428436474), .lit (.int .u32 2756734187), .lit (.int .u32 3204031479), .lit (.int .u32 3329325298)]

/-- 'weirgatelaw04.SealKeepsRings': WHATEVER THE INPUT: true; the input reads as it did. -/
def sealKeepsRingsSpec : ChangeSpec := { name := "sealKeepsRings", fn := fun _ => fun
  | [d1, d2, d3, d4, d5] => { results := [.lit (.bool true)], args := [d1, d2, d3, d4, d5] }
  | _ => none }
def sealKeepsRingsRow : OpenClaim := { program := "ytpjpmfjngpjifaadoor", sum := "8073bd1b6fda4dad071cde2cbb7ef1d034d025893f99ed7a66f369264aee02e0", func := "weirgate/weirgatelaw04.SealKeepsRings", spec := "sealKeepsRings", inPlace := ["slices.overlaps[weirgate/api.Key]"], unfollowed := true, recurses := true, named := ["weirgate/hash.constants"], apart := false, laid := [("weirgate/hash.constants", laid_weirgate_hash_constants)] }
def SealKeepsRingsSaid : Prop := sealKeepsRingsRow.holds Tryd.pinned (OpenSpec.ofChange sealKeepsRingsSpec)

/-- ITS FALSE NEIGHBOUR: 'it returns false'. Refute it at one input. -/
def sealKeepsRingsWrong : ChangeSpec := { name := "sealKeepsRings", fn := fun _ => fun
  | [d1, d2, d3, d4, d5] => { results := [.lit (.bool false)], args := [d1, d2, d3, d4, d5] }
  | _ => none }
def SealKeepsRingsWrongFalsely : Prop := sealKeepsRingsRow.holds Tryd.pinned (OpenSpec.ofChange sealKeepsRingsWrong)

/-- 'weirgatelaw04.SealRotatesAsSpecified': WHATEVER THE INPUT: true; the input reads as it did. -/
def sealRotatesAsSpecifiedSpec : ChangeSpec := { name := "sealRotatesAsSpecified", fn := fun _ => fun
  | [d1, d2, d3, d4, d5, d6] => { results := [.lit (.bool true)], args := [d1, d2, d3, d4, d5, d6] }
  | _ => none }
def sealRotatesAsSpecifiedRow : OpenClaim := { program := "ytpjpmfjngpjifaadoor", sum := "8073bd1b6fda4dad071cde2cbb7ef1d034d025893f99ed7a66f369264aee02e0", func := "weirgate/weirgatelaw04.SealRotatesAsSpecified", spec := "sealRotatesAsSpecified", inPlace := ["slices.overlaps[weirgate/api.Key]"], unfollowed := true, recurses := true, named := ["weirgate/hash.constants"], apart := false, laid := [("weirgate/hash.constants", laid_weirgate_hash_constants)] }
def SealRotatesAsSpecifiedSaid : Prop := sealRotatesAsSpecifiedRow.holds Tryd.pinned (OpenSpec.ofChange sealRotatesAsSpecifiedSpec)

/-- ITS FALSE NEIGHBOUR: 'it returns false'. Refute it at one input. -/
def sealRotatesAsSpecifiedWrong : ChangeSpec := { name := "sealRotatesAsSpecified", fn := fun _ => fun
  | [d1, d2, d3, d4, d5, d6] => { results := [.lit (.bool false)], args := [d1, d2, d3, d4, d5, d6] }
  | _ => none }
def SealRotatesAsSpecifiedWrongFalsely : Prop := sealRotatesAsSpecifiedRow.holds Tryd.pinned (OpenSpec.ofChange sealRotatesAsSpecifiedWrong)

/-- 'weirgatelaw04.SealChecksAsSpecified': WHATEVER THE INPUT: true; the input reads as it did. -/
def sealChecksAsSpecifiedSpec : ChangeSpec := { name := "sealChecksAsSpecified", fn := fun _ => fun
  | [d1, d2, d3, d4, d5, d6, d7] => { results := [.lit (.bool true)], args := [d1, d2, d3, d4, d5, d6, d7] }
  | _ => none }
def sealChecksAsSpecifiedRow : OpenClaim := { program := "ytpjpmfjngpjifaadoor", sum := "8073bd1b6fda4dad071cde2cbb7ef1d034d025893f99ed7a66f369264aee02e0", func := "weirgate/weirgatelaw04.SealChecksAsSpecified", spec := "sealChecksAsSpecified", inPlace := ["slices.overlaps[weirgate/api.Key]"], unfollowed := true, recurses := true, named := ["weirgate/hash.constants", "weirgate/weirgateref02.constants"], apart := false, laid := [("weirgate/weirgateref02.constants", laid_weirgate_weirgateref02_constants), ("weirgate/hash.constants", laid_weirgate_hash_constants)] }
def SealChecksAsSpecifiedSaid : Prop := sealChecksAsSpecifiedRow.holds Tryd.pinned (OpenSpec.ofChange sealChecksAsSpecifiedSpec)

/-- ITS FALSE NEIGHBOUR: 'it returns false'. Refute it at one input. -/
def sealChecksAsSpecifiedWrong : ChangeSpec := { name := "sealChecksAsSpecified", fn := fun _ => fun
  | [d1, d2, d3, d4, d5, d6, d7] => { results := [.lit (.bool false)], args := [d1, d2, d3, d4, d5, d6, d7] }
  | _ => none }
def SealChecksAsSpecifiedWrongFalsely : Prop := sealChecksAsSpecifiedRow.holds Tryd.pinned (OpenSpec.ofChange sealChecksAsSpecifiedWrong)

/-- 'weirgatelaw04.SealJudgesRecords': WHATEVER THE INPUT: true; the input reads as it did. -/
def sealJudgesRecordsSpec : ChangeSpec := { name := "sealJudgesRecords", fn := fun _ => fun
  | [d1, d2, d3, d4, d5] => { results := [.lit (.bool true)], args := [d1, d2, d3, d4, d5] }
  | _ => none }
def sealJudgesRecordsRow : OpenClaim := { program := "ytpjpmfjngpjifaadoor", sum := "8073bd1b6fda4dad071cde2cbb7ef1d034d025893f99ed7a66f369264aee02e0", func := "weirgate/weirgatelaw04.SealJudgesRecords", spec := "sealJudgesRecords", inPlace := ["slices.overlaps[weirgate/api.Key]"], unfollowed := true, recurses := true, named := ["weirgate/hash.constants", "weirgate/weirgateref02.constants"], apart := false, laid := [("weirgate/weirgateref02.constants", laid_weirgate_weirgateref02_constants), ("weirgate/hash.constants", laid_weirgate_hash_constants)] }
def SealJudgesRecordsSaid : Prop := sealJudgesRecordsRow.holds Tryd.pinned (OpenSpec.ofChange sealJudgesRecordsSpec)

/-- ITS FALSE NEIGHBOUR: 'it returns false'. Refute it at one input. -/
def sealJudgesRecordsWrong : ChangeSpec := { name := "sealJudgesRecords", fn := fun _ => fun
  | [d1, d2, d3, d4, d5] => { results := [.lit (.bool false)], args := [d1, d2, d3, d4, d5] }
  | _ => none }
def SealJudgesRecordsWrongFalsely : Prop := sealJudgesRecordsRow.holds Tryd.pinned (OpenSpec.ofChange sealJudgesRecordsWrong)

/-- 'weirgatelaw04.SealRecordsAsSpecified': WHATEVER THE INPUT: true; the input reads as it did. -/
def sealRecordsAsSpecifiedSpec : ChangeSpec := { name := "sealRecordsAsSpecified", fn := fun _ => fun
  | [d1, d2, d3, d4, d5] => { results := [.lit (.bool true)], args := [d1, d2, d3, d4, d5] }
  | _ => none }
def sealRecordsAsSpecifiedRow : OpenClaim := { program := "ytpjpmfjngpjifaadoor", sum := "8073bd1b6fda4dad071cde2cbb7ef1d034d025893f99ed7a66f369264aee02e0", func := "weirgate/weirgatelaw04.SealRecordsAsSpecified", spec := "sealRecordsAsSpecified", inPlace := ["slices.overlaps[weirgate/api.Key]"], unfollowed := true, recurses := true, named := ["weirgate/hash.constants", "weirgate/weirgateref02.constants"], apart := false, laid := [("weirgate/weirgateref02.constants", laid_weirgate_weirgateref02_constants), ("weirgate/hash.constants", laid_weirgate_hash_constants)] }
def SealRecordsAsSpecifiedSaid : Prop := sealRecordsAsSpecifiedRow.holds Tryd.pinned (OpenSpec.ofChange sealRecordsAsSpecifiedSpec)

/-- ITS FALSE NEIGHBOUR: 'it returns false'. Refute it at one input. -/
def sealRecordsAsSpecifiedWrong : ChangeSpec := { name := "sealRecordsAsSpecified", fn := fun _ => fun
  | [d1, d2, d3, d4, d5] => { results := [.lit (.bool false)], args := [d1, d2, d3, d4, d5] }
  | _ => none }
def SealRecordsAsSpecifiedWrongFalsely : Prop := sealRecordsAsSpecifiedRow.holds Tryd.pinned (OpenSpec.ofChange sealRecordsAsSpecifiedWrong)

/-- 'weirgatelaw04.SealAcceptsItsOwn': WHATEVER THE INPUT: true; the input reads as it did. -/
def sealAcceptsItsOwnSpec : ChangeSpec := { name := "sealAcceptsItsOwn", fn := fun _ => fun
  | [d1, d2, d3, d4, d5, d6, d7] => { results := [.lit (.bool true)], args := [d1, d2, d3, d4, d5, d6, d7] }
  | _ => none }
def sealAcceptsItsOwnRow : OpenClaim := { program := "ytpjpmfjngpjifaadoor", sum := "8073bd1b6fda4dad071cde2cbb7ef1d034d025893f99ed7a66f369264aee02e0", func := "weirgate/weirgatelaw04.SealAcceptsItsOwn", spec := "sealAcceptsItsOwn", inPlace := ["slices.overlaps[weirgate/api.Key]"], unfollowed := true, recurses := true, named := ["weirgate/hash.constants"], apart := false, laid := [("weirgate/hash.constants", laid_weirgate_hash_constants)] }
def SealAcceptsItsOwnSaid : Prop := sealAcceptsItsOwnRow.holds Tryd.pinned (OpenSpec.ofChange sealAcceptsItsOwnSpec)

/-- ITS FALSE NEIGHBOUR: 'it returns false'. Refute it at one input. -/
def sealAcceptsItsOwnWrong : ChangeSpec := { name := "sealAcceptsItsOwn", fn := fun _ => fun
  | [d1, d2, d3, d4, d5, d6, d7] => { results := [.lit (.bool false)], args := [d1, d2, d3, d4, d5, d6, d7] }
  | _ => none }
def SealAcceptsItsOwnWrongFalsely : Prop := sealAcceptsItsOwnRow.holds Tryd.pinned (OpenSpec.ofChange sealAcceptsItsOwnWrong)

/- THE SECOND FORM. 'bulk': how many values and letters a reading holds, each counted each time it is reached (what is shared counts as often as it is met; a slice's spare places count too). A statement '..UptoSaid' is the law's where the arguments, and the package variables that the reading takes, are together of bulk at most 1048576: NARROWER than '..Said'. Prove '..Said' where nothing that the law and all that it calls make is longer than what came in: it says more and counts as full. Else prove '..UptoSaid'. A law counts once. -/
mutual
def uptoBulk {H : Type} : DataW H → Nat
  | .lit (.string bytes) => bytes.length + 1
  | .lit _ => 1
  | .nil => 1
  | .ptr d => uptoBulk d + 1
  | .slice elems spare => uptoBulkAll elems + uptoBulkAll spare + 1
  | .agg parts => uptoBulkAll parts + 1
  | .iface _ d => uptoBulk d + 1
  | .map entries => uptoBulkEntries entries + 1
  | .held _ => 1
def uptoBulkAll {H : Type} : List (DataW H) → Nat
  | [] => 0
  | d :: r => uptoBulk d + uptoBulkAll r
def uptoBulkEntries {H : Type} : List (Lit × DataW H) → Nat
  | [] => 0
  | x :: r => uptoBulkEntry x + uptoBulkEntries r
def uptoBulkEntry {H : Type} : Lit × DataW H → Nat
  | (.string bytes, d) => bytes.length + uptoBulk d + 1
  | (_, d) => uptoBulk d + 1
 end
def uptoSmall : (H : Type) → List (DataW H) → Bool := fun _ ds => decide (uptoBulkAll ds ≤ 1048576)
def OpenSpec.upto (s : _root_.Go.ChangeSpec) : _root_.Go.OpenSpec := { _root_.Go.OpenSpec.ofChange s with cond := some uptoSmall }

/-- 'weirgatelaw04.SealKeepsRings', WHERE WHAT IT READS IS OF BULK AT MOST 1048576: true; the input reads as it did. -/
def sealKeepsRingsUptoRow : OpenClaim := { program := "ytpjpmfjngpjifaadoor", sum := "8073bd1b6fda4dad071cde2cbb7ef1d034d025893f99ed7a66f369264aee02e0", func := "weirgate/weirgatelaw04.SealKeepsRings", spec := "sealKeepsRings", inPlace := ["slices.overlaps[weirgate/api.Key]"], unfollowed := true, recurses := true, named := ["weirgate/hash.constants"], apart := false, laid := [("weirgate/hash.constants", laid_weirgate_hash_constants)], narrowed := true }
def SealKeepsRingsUptoSaid : Prop := sealKeepsRingsUptoRow.holds Tryd.pinned (OpenSpec.upto sealKeepsRingsSpec)

/-- 'weirgatelaw04.SealRotatesAsSpecified', WHERE WHAT IT READS IS OF BULK AT MOST 1048576: true; the input reads as it did. -/
def sealRotatesAsSpecifiedUptoRow : OpenClaim := { program := "ytpjpmfjngpjifaadoor", sum := "8073bd1b6fda4dad071cde2cbb7ef1d034d025893f99ed7a66f369264aee02e0", func := "weirgate/weirgatelaw04.SealRotatesAsSpecified", spec := "sealRotatesAsSpecified", inPlace := ["slices.overlaps[weirgate/api.Key]"], unfollowed := true, recurses := true, named := ["weirgate/hash.constants"], apart := false, laid := [("weirgate/hash.constants", laid_weirgate_hash_constants)], narrowed := true }
def SealRotatesAsSpecifiedUptoSaid : Prop := sealRotatesAsSpecifiedUptoRow.holds Tryd.pinned (OpenSpec.upto sealRotatesAsSpecifiedSpec)

/-- 'weirgatelaw04.SealChecksAsSpecified', WHERE WHAT IT READS IS OF BULK AT MOST 1048576: true; the input reads as it did. -/
def sealChecksAsSpecifiedUptoRow : OpenClaim := { program := "ytpjpmfjngpjifaadoor", sum := "8073bd1b6fda4dad071cde2cbb7ef1d034d025893f99ed7a66f369264aee02e0", func := "weirgate/weirgatelaw04.SealChecksAsSpecified", spec := "sealChecksAsSpecified", inPlace := ["slices.overlaps[weirgate/api.Key]"], unfollowed := true, recurses := true, named := ["weirgate/hash.constants", "weirgate/weirgateref02.constants"], apart := false, laid := [("weirgate/weirgateref02.constants", laid_weirgate_weirgateref02_constants), ("weirgate/hash.constants", laid_weirgate_hash_constants)], narrowed := true }
def SealChecksAsSpecifiedUptoSaid : Prop := sealChecksAsSpecifiedUptoRow.holds Tryd.pinned (OpenSpec.upto sealChecksAsSpecifiedSpec)

/-- 'weirgatelaw04.SealJudgesRecords', WHERE WHAT IT READS IS OF BULK AT MOST 1048576: true; the input reads as it did. -/
def sealJudgesRecordsUptoRow : OpenClaim := { program := "ytpjpmfjngpjifaadoor", sum := "8073bd1b6fda4dad071cde2cbb7ef1d034d025893f99ed7a66f369264aee02e0", func := "weirgate/weirgatelaw04.SealJudgesRecords", spec := "sealJudgesRecords", inPlace := ["slices.overlaps[weirgate/api.Key]"], unfollowed := true, recurses := true, named := ["weirgate/hash.constants", "weirgate/weirgateref02.constants"], apart := false, laid := [("weirgate/weirgateref02.constants", laid_weirgate_weirgateref02_constants), ("weirgate/hash.constants", laid_weirgate_hash_constants)], narrowed := true }
def SealJudgesRecordsUptoSaid : Prop := sealJudgesRecordsUptoRow.holds Tryd.pinned (OpenSpec.upto sealJudgesRecordsSpec)

/-- 'weirgatelaw04.SealRecordsAsSpecified', WHERE WHAT IT READS IS OF BULK AT MOST 1048576: true; the input reads as it did. -/
def sealRecordsAsSpecifiedUptoRow : OpenClaim := { program := "ytpjpmfjngpjifaadoor", sum := "8073bd1b6fda4dad071cde2cbb7ef1d034d025893f99ed7a66f369264aee02e0", func := "weirgate/weirgatelaw04.SealRecordsAsSpecified", spec := "sealRecordsAsSpecified", inPlace := ["slices.overlaps[weirgate/api.Key]"], unfollowed := true, recurses := true, named := ["weirgate/hash.constants", "weirgate/weirgateref02.constants"], apart := false, laid := [("weirgate/weirgateref02.constants", laid_weirgate_weirgateref02_constants), ("weirgate/hash.constants", laid_weirgate_hash_constants)], narrowed := true }
def SealRecordsAsSpecifiedUptoSaid : Prop := sealRecordsAsSpecifiedUptoRow.holds Tryd.pinned (OpenSpec.upto sealRecordsAsSpecifiedSpec)

/-- 'weirgatelaw04.SealAcceptsItsOwn', WHERE WHAT IT READS IS OF BULK AT MOST 1048576: true; the input reads as it did. -/
def sealAcceptsItsOwnUptoRow : OpenClaim := { program := "ytpjpmfjngpjifaadoor", sum := "8073bd1b6fda4dad071cde2cbb7ef1d034d025893f99ed7a66f369264aee02e0", func := "weirgate/weirgatelaw04.SealAcceptsItsOwn", spec := "sealAcceptsItsOwn", inPlace := ["slices.overlaps[weirgate/api.Key]"], unfollowed := true, recurses := true, named := ["weirgate/hash.constants"], apart := false, laid := [("weirgate/hash.constants", laid_weirgate_hash_constants)], narrowed := true }
def SealAcceptsItsOwnUptoSaid : Prop := sealAcceptsItsOwnUptoRow.holds Tryd.pinned (OpenSpec.upto sealAcceptsItsOwnSpec)

end Rows
end Go.Proofs.YtpjpmfjngpjifaaDoor
