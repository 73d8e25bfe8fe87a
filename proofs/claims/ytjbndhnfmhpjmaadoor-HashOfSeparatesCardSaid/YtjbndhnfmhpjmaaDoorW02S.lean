/-
  The small parts of the check of the examples. No condition.
-/
import Derived.Test.YtjbndhnfmhpjmaaDoorW02A
import Derived.Test.YtjbndhnfmhpjmaaDoorW02L11
namespace Go.Proofs.S02
open Go Go.Ev Go.Proofs
variable {w : Bool}
set_option maxRecDepth 100000
theorem k_b32 : call (gl w) tab 19 38 [.agg [.int .u8 186, .int .u8 120, .int .u8 22, .int .u8 191, .int .u8 143, .int .u8 1, .int .u8 207, .int .u8 234, .int .u8 65, .int .u8 65, .int .u8 64, .int .u8 222, .int .u8 93, .int .u8 174, .int .u8 34, .int .u8 35, .int .u8 176, .int .u8 3, .int .u8 97, .int .u8 163, .int .u8 150, .int .u8 23, .int .u8 122, .int .u8 156, .int .u8 180, .int .u8 16, .int .u8 255, .int .u8 97, .int .u8 242, .int .u8 0, .int .u8 21, .int .u8 173]] [] = some (.str [186, 120, 22, 191, 143, 1, 207, 234, 65, 65, 64, 222, 93, 174, 34, 35, 176, 3, 97, 163, 150, 23, 122, 156, 180, 16, 255, 97, 242, 0, 21, 173], [], []) := by kernel_rfl
theorem k_text : call (gl w) tab 19 39 [.agg [.int .u8 75, .int .u8 245, .int .u8 18, .int .u8 47, .int .u8 52, .int .u8 69, .int .u8 84, .int .u8 197, .int .u8 59, .int .u8 222, .int .u8 46, .int .u8 187, .int .u8 140, .int .u8 210, .int .u8 183, .int .u8 227]] [] = some (.str [75, 245, 18, 47, 52, 69, 84, 197, 59, 222, 46, 187, 140, 210, 183, 227], [], []) := by kernel_rfl
theorem k_hex1 : call (gl w) tab 19 37 [.str [186, 120, 22, 191, 143, 1, 207, 234, 65, 65, 64, 222, 93, 174, 34, 35, 176, 3, 97, 163, 150, 23, 122, 156, 180, 16, 255, 97, 242, 0, 21, 173]] [] = some (.str [98, 97, 55, 56, 49, 54, 98, 102, 56, 102, 48, 49, 99, 102, 101, 97, 52, 49, 52, 49, 52, 48, 100, 101, 53, 100, 97, 101, 50, 50, 50, 51, 98, 48, 48, 51, 54, 49, 97, 51, 57, 54, 49, 55, 55, 97, 57, 99, 98, 52, 49, 48, 102, 102, 54, 49, 102, 50, 48, 48, 49, 53, 97, 100], [], []) := by kernel_rfl
theorem k_hex2 : call (gl w) tab 19 37 [.str [75, 245, 18, 47, 52, 69, 84, 197, 59, 222, 46, 187, 140, 210, 183, 227]] [] = some (.str [52, 98, 102, 53, 49, 50, 50, 102, 51, 52, 52, 53, 53, 52, 99, 53, 51, 98, 100, 101, 50, 101, 98, 98, 56, 99, 100, 50, 98, 55, 101, 51], [], []) := by kernel_rfl
theorem k_one : call (gl w) tab 19 16 [.lst false .sc [.int .u8 254]] [] = some (.int .i64 75628790, [], []) := by kernel_rfl
theorem k_two : call (gl w) tab 19 19 [] [] = some (.agg [.int .u64 1099511627775], [], []) := by kernel_rfl
theorem k_three : (call (gl w) tab 19 20 [.agg [.int .u64 1099511627775], .str [255]] []).isSome := by kernel_rfl
theorem k_words : call (gl w) tab 19 23 [.lst false .sc [.int .i64 1099511627774]] [] = some (.int .i64 1099435999222, [], []) := by kernel_rfl
theorem k_j1 : call (gl w) tab 19 26 [.int .i64 255, .int .i64 255, .int .i64 1] [] = some (.int .i64 65535, [], []) := by kernel_rfl
theorem k_j2 : call (gl w) tab 19 26 [.int .i64 255, .int .i64 0, .int .i64 1] [] = some (.int .i64 65280, [], []) := by kernel_rfl
theorem k_j3 : call (gl w) tab 19 26 [.int .i64 7, .int .i64 9, .int .i64 0] [] = some (.int .i64 14, [], []) := by kernel_rfl
theorem k_j4 : call (gl w) tab 19 26 [.int .i64 1, .int .i64 1, .int .i64 (-1)] [] = some (.int .i64 0, [], []) := by kernel_rfl
end Go.Proofs.S02
namespace Go.Proofs.S02
open Go Go.Ev Go.Proofs
set_option linter.unusedVariables false
set_option linter.unusedSimpArgs false
variable {w : Bool}
set_option linter.unusedSimpArgs false
theorem k_add3 : call (gl w) tab 19 20 [.agg [.int .u64 1099511627775], .str [255]] [] = some (.agg [.int .u64 1099511627520], [], []) := by kernel_rfl
theorem k_add4 : call (gl w) tab 19 20 [.agg [.int .u64 1099511627520], .str [255]] [] = some (.agg [.int .u64 1099511562240], [], []) := by kernel_rfl
theorem k_val : call (gl w) tab 19 22 [.agg [.int .u64 1099511562240]] [] = some (.int .i64 65535, [], []) := by kernel_rfl
theorem hsA_eq : eqAV (.ar 32 .it) (.agg [.int .u8 186, .int .u8 120, .int .u8 22, .int .u8 191, .int .u8 143, .int .u8 1, .int .u8 207, .int .u8 234, .int .u8 65, .int .u8 65, .int .u8 64, .int .u8 222, .int .u8 93, .int .u8 174, .int .u8 34, .int .u8 35, .int .u8 176, .int .u8 3, .int .u8 97, .int .u8 163, .int .u8 150, .int .u8 23, .int .u8 122, .int .u8 156, .int .u8 180, .int .u8 16, .int .u8 255, .int .u8 97, .int .u8 242, .int .u8 0, .int .u8 21, .int .u8 173]) (.agg [.int .u8 186, .int .u8 120, .int .u8 22, .int .u8 191, .int .u8 143, .int .u8 1, .int .u8 207, .int .u8 234, .int .u8 65, .int .u8 65, .int .u8 64, .int .u8 222, .int .u8 93, .int .u8 174, .int .u8 34, .int .u8 35, .int .u8 176, .int .u8 3, .int .u8 97, .int .u8 163, .int .u8 150, .int .u8 23, .int .u8 122, .int .u8 156, .int .u8 180, .int .u8 16, .int .u8 255, .int .u8 97, .int .u8 242, .int .u8 0, .int .u8 21, .int .u8 173]) = some true := by kernel_rfl
theorem nav_nil (a : AV) : a.nav [] = some a := by cases a <;> rfl
theorem setNav_nil (a b : AV) : a.setNav [] b = some b := by cases a <;> rfl
theorem sanity_F (F : Ev.Cl) (l0A l1A l3A : List AV)
  (c1 : F 29 [.lst false .sc [.int .u8 97, .int .u8 98, .int .u8 99]] [] = some ((.agg [.int .u8 186, .int .u8 120, .int .u8 22, .int .u8 191, .int .u8 143, .int .u8 1, .int .u8 207, .int .u8 234, .int .u8 65, .int .u8 65, .int .u8 64, .int .u8 222, .int .u8 93, .int .u8 174, .int .u8 34, .int .u8 35, .int .u8 176, .int .u8 3, .int .u8 97, .int .u8 163, .int .u8 150, .int .u8 23, .int .u8 122, .int .u8 156, .int .u8 180, .int .u8 16, .int .u8 255, .int .u8 97, .int .u8 242, .int .u8 0, .int .u8 21, .int .u8 173]), [], []))
  (c2 : F 31 [] [] = some (.agg l0A, [], []))
  (c3 : F 32 [.agg l0A, .str [97]] [] = some (.agg l1A, [], []))
  (c4 : F 32 [.agg l1A, .str [98, 99]] [] = some (.agg l3A, [], []))
  (c5 : F 33 [.agg l3A] [] = some ((.agg [.int .u8 186, .int .u8 120, .int .u8 22, .int .u8 191, .int .u8 143, .int .u8 1, .int .u8 207, .int .u8 234, .int .u8 65, .int .u8 65, .int .u8 64, .int .u8 222, .int .u8 93, .int .u8 174, .int .u8 34, .int .u8 35, .int .u8 176, .int .u8 3, .int .u8 97, .int .u8 163, .int .u8 150, .int .u8 23, .int .u8 122, .int .u8 156, .int .u8 180, .int .u8 16, .int .u8 255, .int .u8 97, .int .u8 242, .int .u8 0, .int .u8 21, .int .u8 173]), [], []))
  (c6 : F 34 [.int .i64 1, .lst true .sc []] [] = some ((.agg [.int .u8 75, .int .u8 245, .int .u8 18, .int .u8 47, .int .u8 52, .int .u8 69, .int .u8 84, .int .u8 197, .int .u8 59, .int .u8 222, .int .u8 46, .int .u8 187, .int .u8 140, .int .u8 210, .int .u8 183, .int .u8 227]), [], []))
  (c7 : F 38 [(.agg [.int .u8 186, .int .u8 120, .int .u8 22, .int .u8 191, .int .u8 143, .int .u8 1, .int .u8 207, .int .u8 234, .int .u8 65, .int .u8 65, .int .u8 64, .int .u8 222, .int .u8 93, .int .u8 174, .int .u8 34, .int .u8 35, .int .u8 176, .int .u8 3, .int .u8 97, .int .u8 163, .int .u8 150, .int .u8 23, .int .u8 122, .int .u8 156, .int .u8 180, .int .u8 16, .int .u8 255, .int .u8 97, .int .u8 242, .int .u8 0, .int .u8 21, .int .u8 173])] [] = some (.str [186, 120, 22, 191, 143, 1, 207, 234, 65, 65, 64, 222, 93, 174, 34, 35, 176, 3, 97, 163, 150, 23, 122, 156, 180, 16, 255, 97, 242, 0, 21, 173], [], []))
  (c8 : F 39 [(.agg [.int .u8 75, .int .u8 245, .int .u8 18, .int .u8 47, .int .u8 52, .int .u8 69, .int .u8 84, .int .u8 197, .int .u8 59, .int .u8 222, .int .u8 46, .int .u8 187, .int .u8 140, .int .u8 210, .int .u8 183, .int .u8 227])] [] = some (.str [75, 245, 18, 47, 52, 69, 84, 197, 59, 222, 46, 187, 140, 210, 183, 227], [], []))
  (c9 : F 37 [.str [186, 120, 22, 191, 143, 1, 207, 234, 65, 65, 64, 222, 93, 174, 34, 35, 176, 3, 97, 163, 150, 23, 122, 156, 180, 16, 255, 97, 242, 0, 21, 173]] [] = some (.str [98, 97, 55, 56, 49, 54, 98, 102, 56, 102, 48, 49, 99, 102, 101, 97, 52, 49, 52, 49, 52, 48, 100, 101, 53, 100, 97, 101, 50, 50, 50, 51, 98, 48, 48, 51, 54, 49, 97, 51, 57, 54, 49, 55, 55, 97, 57, 99, 98, 52, 49, 48, 102, 102, 54, 49, 102, 50, 48, 48, 49, 53, 97, 100], [], []))
  (d1 : F 37 [.str [75, 245, 18, 47, 52, 69, 84, 197, 59, 222, 46, 187, 140, 210, 183, 227]] [] = some (.str [52, 98, 102, 53, 49, 50, 50, 102, 51, 52, 52, 53, 53, 52, 99, 53, 51, 98, 100, 101, 50, 101, 98, 98, 56, 99, 100, 50, 98, 55, 101, 51], [], []))
  (d2 : F 16 [.lst false .sc [.int .u8 254]] [] = some (.int .i64 75628790, [], []))
  (d3 : F 19 [] [] = some (.agg [.int .u64 1099511627775], [], []))
  (d4 : F 20 [.agg [.int .u64 1099511627775], .str [255]] [] = some (.agg [.int .u64 1099511627520], [], []))
  (d5 : F 20 [.agg [.int .u64 1099511627520], .str [255]] [] = some (.agg [.int .u64 1099511562240], [], []))
  (d6 : F 22 [.agg [.int .u64 1099511562240]] [] = some (.int .i64 65535, [], []))
  (d7 : F 23 [.lst false .sc [.int .i64 1099511627774]] [] = some (.int .i64 1099435999222, [], []))
  (d8 : F 26 [.int .i64 255, .int .i64 255, .int .i64 1] [] = some (.int .i64 65535, [], []))
  (d9 : F 26 [.int .i64 255, .int .i64 0, .int .i64 1] [] = some (.int .i64 65280, [], []))
  (e1 : F 26 [.int .i64 7, .int .i64 9, .int .i64 0] [] = some (.int .i64 14, [], []))
  (e2 : F 26 [.int .i64 1, .int .i64 1, .int .i64 (-1)] [] = some (.int .i64 0, [], [])) :
  finK fd15.res fd15.pk (evC (gl w) F fd15.body { fr := frOf 0 [], hp := [] }) = some (.bool true, [], []) := by
  simp only [fd15, m15, go_sem, reduceIte, Nat.reduceEqDiff, Nat.reduceAdd, Nat.reduceSub, Nat.reduceMul, Nat.reduceDiv, Nat.reduceMod, Nat.reduceLT, Nat.reduceLeDiff, Nat.reduceBEq, Nat.reduceBNe, Int.reduceLE, Int.reduceLT, Int.reduceToNat, Int.reduceEq, Int.reduceBEq, Int.reduceBNe, Int.reduceNeg, Int.reduceSub, Int.reduceMul, Int.reduceAdd, BitVec.reduceOfInt, reduceCtorEq, ↓reduceIte, hsA_eq, nav_nil, setNav_nil, c1, c2, c3, c4, c5, c6, c7, c8, c9, d1, d2, d3, d4, d5, d6, d7, d8, d9, e1, e2]
theorem hash_abc : hashL [97, 98, 99] = [186, 120, 22, 191, 143, 1, 207, 234, 65, 65, 64, 222, 93, 174, 34, 35, 176, 3, 97, 163, 150, 23, 122, 156, 180, 16, 255, 97, 242, 0, 21, 173] := by decide +kernel
theorem dig_1 : dig (inp 1 []) = [75, 245, 18, 47, 52, 69, 84, 197, 59, 222, 46, 187, 140, 210, 183, 227] := by decide +kernel
theorem sanity20 : call (gl w) tab 20 15 [] [] = some (.bool true, [], []) := by
  obtain ⟨s1, hr1, a1⟩ := sadd_at (w := w) (n := 19) (by omega) s0 [] [97] reps0 (by simp)
  obtain ⟨s3, hr3, a3⟩ := sadd_at (w := w) (n := 19) (by omega) s1 _ [98, 99] hr1 (by simp)
  have e := @ssum_at w 19 (by omega) s3 _ hr3 (by simp)
  have h29 := @hsum_at w 19 (by omega) false [97, 98, 99] (by simp)
  have h34 := @pof_at w 19 (by omega) 1 true [] ⟨by simp, by simp⟩
  have e3 : hashL (([] ++ [97]) ++ [98, 99]) = hashL [97, 98, 99] := rfl
  rw [e3, hash_abc] at e
  rw [hash_abc] at h29
  rw [dig_1] at h34
  exact (call_go (n := 19) (fd := fd15) rfl).trans (sanity_F (call (gl w) tab 19) s0.av.kids s1.av.kids s3.av.kids h29 (sbegin_at (by omega)) a1 a3 e h34 k_b32 k_text k_hex1 k_hex2 k_one k_two k_add3 k_add4 k_val k_words k_j1 k_j2 k_j3 k_j4)
end Go.Proofs.S02
