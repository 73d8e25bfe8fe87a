/-
  The hash of a word. No condition.
-/
import Derived.Test.YtjbndhnfmhpjmaaDoorV02a
namespace Go.Proofs.S02
open Go Go.Ev Go.Proofs
set_option linter.unusedVariables false
set_option linter.unusedSimpArgs false
variable {w : Bool}
set_option maxRecDepth 100000
theorem k_sum : call (gl w) tab 19 29 [.lst false .sc [.int .u8 97, .int .u8 98, .int .u8 99]] [] = some (.agg [.int .u8 186, .int .u8 120, .int .u8 22, .int .u8 191, .int .u8 143, .int .u8 1, .int .u8 207, .int .u8 234, .int .u8 65, .int .u8 65, .int .u8 64, .int .u8 222, .int .u8 93, .int .u8 174, .int .u8 34, .int .u8 35, .int .u8 176, .int .u8 3, .int .u8 97, .int .u8 163, .int .u8 150, .int .u8 23, .int .u8 122, .int .u8 156, .int .u8 180, .int .u8 16, .int .u8 255, .int .u8 97, .int .u8 242, .int .u8 0, .int .u8 21, .int .u8 173], [], []) := by kernel_rfl
end Go.Proofs.S02
namespace Go.Proofs.S02
open Go Go.Ev Go.Proofs
variable {w : Bool}
set_option maxRecDepth 100000
theorem k_begin : call (gl w) tab 19 31 [] [] = some ((.agg [.agg [.int .u32 1779033703, .int .u32 3144134277, .int .u32 1013904242, .int .u32 2773480762, .int .u32 1359893119, .int .u32 2600822924, .int .u32 528734635, .int .u32 1541459225], .agg ([] ++ List.replicate 64 (.int .u8 0)), .int .u64 0]), [], []) := by kernel_rfl
theorem k_add1 : call (gl w) tab 19 32 [(.agg [.agg [.int .u32 1779033703, .int .u32 3144134277, .int .u32 1013904242, .int .u32 2773480762, .int .u32 1359893119, .int .u32 2600822924, .int .u32 528734635, .int .u32 1541459225], .agg ([] ++ List.replicate 64 (.int .u8 0)), .int .u64 0]), .str [97]] [] = some ((.agg [.agg [.int .u32 1779033703, .int .u32 3144134277, .int .u32 1013904242, .int .u32 2773480762, .int .u32 1359893119, .int .u32 2600822924, .int .u32 528734635, .int .u32 1541459225], .agg ([.int .u8 97] ++ List.replicate 63 (.int .u8 0)), .int .u64 1]), [], []) := by kernel_rfl
theorem k_add2 : call (gl w) tab 19 32 [(.agg [.agg [.int .u32 1779033703, .int .u32 3144134277, .int .u32 1013904242, .int .u32 2773480762, .int .u32 1359893119, .int .u32 2600822924, .int .u32 528734635, .int .u32 1541459225], .agg ([.int .u8 97] ++ List.replicate 63 (.int .u8 0)), .int .u64 1]), .str [98, 99]] [] = some ((.agg [.agg [.int .u32 1779033703, .int .u32 3144134277, .int .u32 1013904242, .int .u32 2773480762, .int .u32 1359893119, .int .u32 2600822924, .int .u32 528734635, .int .u32 1541459225], .agg ([.int .u8 97, .int .u8 98, .int .u8 99] ++ List.replicate 61 (.int .u8 0)), .int .u64 3]), [], []) := by kernel_rfl
theorem k_end : call (gl w) tab 19 33 [(.agg [.agg [.int .u32 1779033703, .int .u32 3144134277, .int .u32 1013904242, .int .u32 2773480762, .int .u32 1359893119, .int .u32 2600822924, .int .u32 528734635, .int .u32 1541459225], .agg ([.int .u8 97, .int .u8 98, .int .u8 99] ++ List.replicate 61 (.int .u8 0)), .int .u64 3])] [] = some (.agg [.int .u8 186, .int .u8 120, .int .u8 22, .int .u8 191, .int .u8 143, .int .u8 1, .int .u8 207, .int .u8 234, .int .u8 65, .int .u8 65, .int .u8 64, .int .u8 222, .int .u8 93, .int .u8 174, .int .u8 34, .int .u8 35, .int .u8 176, .int .u8 3, .int .u8 97, .int .u8 163, .int .u8 150, .int .u8 23, .int .u8 122, .int .u8 156, .int .u8 180, .int .u8 16, .int .u8 255, .int .u8 97, .int .u8 242, .int .u8 0, .int .u8 21, .int .u8 173], [], []) := by kernel_rfl
end Go.Proofs.S02
namespace Go.Proofs.S02
open Go Go.Ev Go.Proofs
variable {w : Bool}
set_option maxRecDepth 100000
theorem k_of : call (gl w) tab 19 34 [.int .i64 1, .lst true .sc []] [] = some (.agg [.int .u8 75, .int .u8 245, .int .u8 18, .int .u8 47, .int .u8 52, .int .u8 69, .int .u8 84, .int .u8 197, .int .u8 59, .int .u8 222, .int .u8 46, .int .u8 187, .int .u8 140, .int .u8 210, .int .u8 183, .int .u8 227], [], []) := by kernel_rfl
end Go.Proofs.S02
namespace Go.Proofs.S02
open Go Go.Ev Go.Proofs
variable {w : Bool}
set_option maxRecDepth 100000
theorem k_b32 : call (gl w) tab 19 38 [.agg [.int .u8 186, .int .u8 120, .int .u8 22, .int .u8 191, .int .u8 143, .int .u8 1, .int .u8 207, .int .u8 234, .int .u8 65, .int .u8 65, .int .u8 64, .int .u8 222, .int .u8 93, .int .u8 174, .int .u8 34, .int .u8 35, .int .u8 176, .int .u8 3, .int .u8 97, .int .u8 163, .int .u8 150, .int .u8 23, .int .u8 122, .int .u8 156, .int .u8 180, .int .u8 16, .int .u8 255, .int .u8 97, .int .u8 242, .int .u8 0, .int .u8 21, .int .u8 173]] [] = some (.str [186, 120, 22, 191, 143, 1, 207, 234, 65, 65, 64, 222, 93, 174, 34, 35, 176, 3, 97, 163, 150, 23, 122, 156, 180, 16, 255, 97, 242, 0, 21, 173], [], []) := by kernel_rfl
theorem k_text : call (gl w) tab 19 39 [.agg [.int .u8 75, .int .u8 245, .int .u8 18, .int .u8 47, .int .u8 52, .int .u8 69, .int .u8 84, .int .u8 197, .int .u8 59, .int .u8 222, .int .u8 46, .int .u8 187, .int .u8 140, .int .u8 210, .int .u8 183, .int .u8 227]] [] = some (.str [75, 245, 18, 47, 52, 69, 84, 197, 59, 222, 46, 187, 140, 210, 183, 227], [], []) := by kernel_rfl
theorem k_hex1 : call (gl w) tab 19 37 [.str [186, 120, 22, 191, 143, 1, 207, 234, 65, 65, 64, 222, 93, 174, 34, 35, 176, 3, 97, 163, 150, 23, 122, 156, 180, 16, 255, 97, 242, 0, 21, 173]] [] = some (.str [98, 97, 55, 56, 49, 54, 98, 102, 56, 102, 48, 49, 99, 102, 101, 97, 52, 49, 52, 49, 52, 48, 100, 101, 53, 100, 97, 101, 50, 50, 50, 51, 98, 48, 48, 51, 54, 49, 97, 51, 57, 54, 49, 55, 55, 97, 57, 99, 98, 52, 49, 48, 102, 102, 54, 49, 102, 50, 48, 48, 49, 53, 97, 100], [], []) := by kernel_rfl
theorem k_hex2 : call (gl w) tab 19 37 [.str [75, 245, 18, 47, 52, 69, 84, 197, 59, 222, 46, 187, 140, 210, 183, 227]] [] = some (.str [52, 98, 102, 53, 49, 50, 50, 102, 51, 52, 52, 53, 53, 52, 99, 53, 51, 98, 100, 101, 50, 101, 98, 98, 56, 99, 100, 50, 98, 55, 101, 51], [], []) := by kernel_rfl
theorem k_one : call (gl w) tab 19 16 [.lst false .sc [.int .u8 254]] [] = some (.int .i64 75628790, [], []) := by kernel_rfl
theorem k_two : call (gl w) tab 19 19 [] [] = some (.agg [.int .u64 1099511627775], [], []) := by kernel_rfl
theorem k_three : (call (gl w) tab 19 20 [.agg [.int .u64 1099511627775], .str [255]] []).isSome := by kernel_rfl
theorem k_words : call (gl w) tab 19 23 [.lst false .sc [.int .i64 1099511627774]] [] = some (.int .i64 1099435999222, [], []) := by kernel_rfl
theorem k_j1 : call (gl w) tab 19 26 [.int .i64 255, .int .i64 255, .int .i64 1] [] = some (.int .i64 65535, [], []) := by kernel_rfl
theorem k_j2 : call (gl w) tab 19 26 [.int .i64 255, .int .i64 0, .int .i64 1] [] = some (.int .i64 65280, [], []) := by kernel_rfl
theorem k_j3 : call (gl w) tab 19 26 [.int .i64 7, .int .i64 9, .int .i64 0] [] = some (.int .i64 14, [], []) := by kernel_rfl
theorem k_j4 : call (gl w) tab 19 26 [.int .i64 1, .int .i64 1, .int .i64 (-1)] [] = some (.int .i64 0, [], []) := by kernel_rfl
end Go.Proofs.S02
