/-
  The check of 40 bits: what the program's functions compute. No condition.
-/
import Derived.Test.YtjbndhnfmhpjmaaDoorW02
import Derived.Test.YtjbndhnfmhpjmaaDoorEvS
namespace Go.Proofs.S02
open Go Go.Ev Go.Proofs
set_option linter.unusedSimpArgs false

def nibs : List (BitVec 64) := [0x00000000#64, 0x04820009#64, 0x09040012#64, 0x0d86001b#64, 0x12080024#64, 0x168a002d#64, 0x1b0c0036#64, 0x1f8e003f#64,
  0x24100048#64, 0x20920041#64, 0x2d14005a#64, 0x29960053#64, 0x3618006c#64, 0x329a0065#64, 0x3f1c007e#64, 0x3b9e0077#64]
def kList : List (BitVec 32) := [0x428a2f98#32, 0x71374491#32, 0xb5c0fbcf#32, 0xe9b5dba5#32, 0x3956c25b#32, 0x59f111f1#32, 0x923f82a4#32, 0xab1c5ed5#32,
  0xd807aa98#32, 0x12835b01#32, 0x243185be#32, 0x550c7dc3#32, 0x72be5d74#32, 0x80deb1fe#32, 0x9bdc06a7#32, 0xc19bf174#32,
  0xe49b69c1#32, 0xefbe4786#32, 0x0fc19dc6#32, 0x240ca1cc#32, 0x2de92c6f#32, 0x4a7484aa#32, 0x5cb0a9dc#32, 0x76f988da#32,
  0x983e5152#32, 0xa831c66d#32, 0xb00327c8#32, 0xbf597fc7#32, 0xc6e00bf3#32, 0xd5a79147#32, 0x06ca6351#32, 0x14292967#32,
  0x27b70a85#32, 0x2e1b2138#32, 0x4d2c6dfc#32, 0x53380d13#32, 0x650a7354#32, 0x766a0abb#32, 0x81c2c92e#32, 0x92722c85#32,
  0xa2bfe8a1#32, 0xa81a664b#32, 0xc24b8b70#32, 0xc76c51a3#32, 0xd192e819#32, 0xd6990624#32, 0xf40e3585#32, 0x106aa070#32,
  0x19a4c116#32, 0x1e376c08#32, 0x2748774c#32, 0x34b0bcb5#32, 0x391c0cb3#32, 0x4ed8aa4a#32, 0x5b9cca4f#32, 0x682e6ff3#32,
  0x748f82ee#32, 0x78a5636f#32, 0x84c87814#32, 0x8cc70208#32, 0x90befffa#32, 0xa4506ceb#32, 0xbef9a3f7#32, 0xc67178f2#32]
abbrev i64 (n : Int) : AV := .int .i64 n
abbrev u64 (x : BitVec 64) : AV := .int .u64 (x.toNat : Int)
abbrev u32 (x : BitVec 32) : AV := .int .u32 (x.toNat : Int)
abbrev u8 (x : BitVec 8) : AV := .int .u8 (x.toNat : Int)
def nibA : List AV := nibs.map fun x => u64 x
def kA : List AV := kList.map fun x => u32 x
variable {w : Bool}
/-- The tables; the specification's among them, where a row lists it. -/
def gl (w : Bool) : Gl := fun g => match g with
  | 0 => if w then some (.ar 64 .sc, .agg kA) else none
  | 1 => some (.ar 16 .sc, .agg nibA)
  | 2 => some (.ar 64 .sc, .agg kA)
  | _ => none
theorem gl_1 : gl w 1 = some (.ar 16 .sc, .agg nibA) := rfl
theorem nibA_get (n : Nat) (h : n < 16) : nibA[n]? = some (.int .u64 ((nibs.getD n 0).toNat : Int)) := by
  unfold nibA
  rw [List.getElem?_map, List.getD_eq_getElem?_getD, List.getElem?_eq_getElem (by simpa [nibs] using h)]
  rfl
def nibF (r : BitVec 64) (n : BitVec 8) : BitVec 64 := ((r <<< (4 : Nat)) &&& 0xffffffffff#64) ^^^ nibs.getD ((((r >>> (36 : Nat)).setWidth 8 ^^^ n) &&& 15#8).toNat) 0
theorem nib_lt (x : BitVec 8) : (x &&& 15#8).toNat < 16 := by
  rw [BitVec.toNat_and]; exact Nat.lt_of_le_of_lt Nat.and_le_right (by decide)
theorem nibble_ok (d : Nat) (r : BitVec 64) (n : BitVec 8) : call (gl w) tab (d+1) 41 [.agg [u64 r], u8 n] [] = some (.agg [u64 (nibF r n)], [], []) := by
  rw [call_go (fd := fd41) rfl]
  have h := nib_lt ((r >>> (36 : Nat)).setWidth 8 ^^^ n)
  simp only [fd41, m41, go_sem, reduceIte, Nat.reduceEqDiff, Nat.reduceAdd, Nat.reduceSub, Nat.reduceMul, Nat.reduceDiv, Nat.reduceMod, Nat.reduceLT, Nat.reduceLeDiff, Nat.reduceBEq, Nat.reduceBNe, Int.reduceLE, Int.reduceLT, Int.reduceToNat, Int.reduceEq, Int.reduceBEq, Int.reduceBNe, Int.reduceNeg, Int.reduceSub, Int.reduceMul, Int.reduceAdd, BitVec.reduceOfInt, reduceCtorEq, ↓reduceIte, gl_1, nibA_get, h]
  rfl
theorem u8_bv (b : UInt8) : b.toNat = b.toBitVec.toNat := rfl
def addF (r : BitVec 64) (l : List UInt8) : BitVec 64 := l.foldl (fun (r : BitVec 64) (b : UInt8) => nibF (nibF r (b.toBitVec >>> (4 : Nat))) b.toBitVec) r
def S20 (r : BitVec 64) (l : List UInt8) (i : Nat) : St :=
  ⟨[.set 8 (.int .i64 i), .set 7 (.int .i64 l.length), .set 4 (.ptr 4 []), .set 2 (.ptr 2 []), .set 1 (.str l)],
   [(4, .fix (.st [.sc]) (.agg [.int .u64 0])), (2, .fix (.st [.sc]) (.agg [.int .u64 ((addF r (l.take i)).toNat : Int)]))]⟩
theorem addF_snoc (r : BitVec 64) (l : List UInt8) (i : Nat) (h : i < l.length) : addF r (l.take (i + 1)) = nibF (nibF (addF r (l.take i)) (l[i].toBitVec >>> (4 : Nat))) l[i].toBitVec := by
  rw [List.take_succ_eq_append_getElem h]; simp only [addF, List.foldl_append, List.foldl_cons, List.foldl_nil]
theorem add_ok (d : Nat) (r : BitVec 64) (l : List UInt8) (hl : l.length < 2 ^ 62) : call (gl w) tab (d+2) 20 [.agg [u64 r], .str l] [] = some (.agg [u64 (addF r l)], [], []) := by
  rw [call_go (fd := fd20) rfl]
  simp only [fd20, m20, go_sem, reduceIte, Nat.reduceEqDiff, Nat.reduceAdd, Nat.reduceSub, Nat.reduceMul, Nat.reduceDiv, Nat.reduceMod, Nat.reduceLT, Nat.reduceLeDiff, Nat.reduceBEq, Nat.reduceBNe, Int.reduceLE, Int.reduceLT, Int.reduceToNat, Int.reduceEq, Int.reduceBEq, Int.reduceBNe, Int.reduceNeg, Int.reduceSub, Int.reduceMul, Int.reduceAdd, BitVec.reduceOfInt, reduceCtorEq, ↓reduceIte]
  rw [iter_to (S20 r l) l.length (by unfold LF; omega)]
  · simp only [S20, go_sem, reduceIte, Nat.reduceEqDiff, Nat.reduceAdd, Nat.reduceSub, Nat.reduceMul, Nat.reduceDiv, Nat.reduceMod, Nat.reduceLT, Nat.reduceLeDiff, Nat.reduceBEq, Nat.reduceBNe, Int.reduceLE, Int.reduceLT, Int.reduceToNat, Int.reduceEq, Int.reduceBEq, Int.reduceBNe, Int.reduceNeg, Int.reduceSub, Int.reduceMul, Int.reduceAdd, BitVec.reduceOfInt, reduceCtorEq, ↓reduceIte, Int.lt_irrefl, decide_false, List.take_length]
  · simp only [S20, go_sem, reduceIte, Nat.reduceEqDiff, Nat.reduceAdd, Nat.reduceSub, Nat.reduceMul, Nat.reduceDiv, Nat.reduceMod, Nat.reduceLT, Nat.reduceLeDiff, Nat.reduceBEq, Nat.reduceBNe, Int.reduceLE, Int.reduceLT, Int.reduceToNat, Int.reduceEq, Int.reduceBEq, Int.reduceBNe, Int.reduceNeg, Int.reduceSub, Int.reduceMul, Int.reduceAdd, BitVec.reduceOfInt, reduceCtorEq, ↓reduceIte]; rfl
  · intro i hi
    have hg : l[i]? = some l[i] := List.getElem?_eq_getElem hi
    have hlt : ((i : Int) < (l.length : Int)) := by omega
    have hw : IntKind.wrap .i64 ((i : Int) + 1) = ((i + 1 : Nat) : Int) := by rw [wrap_i64 (by omega) (by omega)]; rfl
    simp only [S20, go_sem, reduceIte, Nat.reduceEqDiff, Nat.reduceAdd, Nat.reduceSub, Nat.reduceMul, Nat.reduceDiv, Nat.reduceMod, Nat.reduceLT, Nat.reduceLeDiff, Nat.reduceBEq, Nat.reduceBNe, Int.reduceLE, Int.reduceLT, Int.reduceToNat, Int.reduceEq, Int.reduceBEq, Int.reduceBNe, Int.reduceNeg, Int.reduceSub, Int.reduceMul, Int.reduceAdd, BitVec.reduceOfInt, reduceCtorEq, ↓reduceIte, hi, hg, u8_bv, nibble_ok, hw, addF_snoc, hi]
  · simp only [S20, go_sem, reduceIte, Nat.reduceEqDiff, Nat.reduceAdd, Nat.reduceSub, Nat.reduceMul, Nat.reduceDiv, Nat.reduceMod, Nat.reduceLT, Nat.reduceLeDiff, Nat.reduceBEq, Nat.reduceBNe, Int.reduceLE, Int.reduceLT, Int.reduceToNat, Int.reduceEq, Int.reduceBEq, Int.reduceBNe, Int.reduceNeg, Int.reduceSub, Int.reduceMul, Int.reduceAdd, BitVec.reduceOfInt, reduceCtorEq, ↓reduceIte, Int.lt_irrefl, decide_false]
theorem begin_ok (d : Nat) : call (gl w) tab (d+1) 19 [] [] = some (.agg [u64 0xffffffffff#64], [], []) := by
  rw [call_go (fd := fd19) rfl]
  simp only [fd19, m19, go_sem, reduceIte, Nat.reduceEqDiff, Nat.reduceAdd, Nat.reduceSub, Nat.reduceMul, Nat.reduceDiv, Nat.reduceMod, Nat.reduceLT, Nat.reduceLeDiff, Nat.reduceBEq, Nat.reduceBNe, Int.reduceLE, Int.reduceLT, Int.reduceToNat, Int.reduceEq, Int.reduceBEq, Int.reduceBNe, Int.reduceNeg, Int.reduceSub, Int.reduceMul, Int.reduceAdd, BitVec.reduceOfInt, reduceCtorEq, ↓reduceIte]
  rfl
theorem value_ok (d : Nat) (r : BitVec 64) : call (gl w) tab (d+1) 22 [.agg [u64 r]] [] = some (i64 (r ^^^ 0xffffffffff#64).toInt, [], []) := by
  rw [call_go (fd := fd22) rfl]
  simp only [fd22, m22, go_sem, reduceIte, Nat.reduceEqDiff, Nat.reduceAdd, Nat.reduceSub, Nat.reduceMul, Nat.reduceDiv, Nat.reduceMod, Nat.reduceLT, Nat.reduceLeDiff, Nat.reduceBEq, Nat.reduceBNe, Int.reduceLE, Int.reduceLT, Int.reduceToNat, Int.reduceEq, Int.reduceBEq, Int.reduceBNe, Int.reduceNeg, Int.reduceSub, Int.reduceMul, Int.reduceAdd, BitVec.reduceOfInt, reduceCtorEq, ↓reduceIte, wrap_i64_bv]
theorem crc40_ok (d : Nat) (nb : Bool) (l : List UInt8) (hl : l.length < 2 ^ 36) : call (gl w) tab (d+4) 16 [.lst nb .sc (bytesAV l)] [] = some (i64 (addF 0xffffffffff#64 l ^^^ 0xffffffffff#64).toInt, [], []) := by
  rw [call_go (fd := fd16) rfl]
  simp only [fd16, m16, go_sem, reduceIte, Nat.reduceEqDiff, Nat.reduceAdd, Nat.reduceSub, Nat.reduceMul, Nat.reduceDiv, Nat.reduceMod, Nat.reduceLT, Nat.reduceLeDiff, Nat.reduceBEq, Nat.reduceBNe, Int.reduceLE, Int.reduceLT, Int.reduceToNat, Int.reduceEq, Int.reduceBEq, Int.reduceBNe, Int.reduceNeg, Int.reduceSub, Int.reduceMul, Int.reduceAdd, BitVec.reduceOfInt, reduceCtorEq, ↓reduceIte, begin_ok, value_ok, bytesOf_bytesAV, add_ok, show l.length < 2 ^ 62 by omega]

/-! ### The specification's check -/
def stepF (r b : BitVec 64) : BitVec 64 := if (r >>> (39 : Nat) &&& 1#64 ^^^ b) == 1#64 then (r <<< (1 : Nat) &&& 0xffffffffff#64) ^^^ 0x04820009#64 else r <<< (1 : Nat) &&& 0xffffffffff#64
theorem step_ok (d : Nat) (r b : BitVec 64) : call (gl w) tab (d+1) 40 [u64 r, u64 b] [] = some (u64 (stepF r b), [], []) := by
  rw [call_go (fd := fd40) rfl]
  simp only [fd40, m40, go_sem, reduceIte, Nat.reduceEqDiff, Nat.reduceAdd, Nat.reduceSub, Nat.reduceMul, Nat.reduceDiv, Nat.reduceMod, Nat.reduceLT, Nat.reduceLeDiff, Nat.reduceBEq, Nat.reduceBNe, Int.reduceLE, Int.reduceLT, Int.reduceToNat, Int.reduceEq, Int.reduceBEq, Int.reduceBNe, Int.reduceNeg, Int.reduceSub, Int.reduceMul, Int.reduceAdd, BitVec.reduceOfInt, reduceCtorEq, ↓reduceIte, stepF]
  cases (r >>> (39 : Nat) &&& 1#64 ^^^ b == 1#64)
  · simp only [go_sem, reduceIte, Nat.reduceEqDiff, Nat.reduceAdd, Nat.reduceSub, Nat.reduceMul, Nat.reduceDiv, Nat.reduceMod, Nat.reduceLT, Nat.reduceLeDiff, Nat.reduceBEq, Nat.reduceBNe, Int.reduceLE, Int.reduceLT, Int.reduceToNat, Int.reduceEq, Int.reduceBEq, Int.reduceBNe, Int.reduceNeg, Int.reduceSub, Int.reduceMul, Int.reduceAdd, BitVec.reduceOfInt, reduceCtorEq, ↓reduceIte]
  · simp only [go_sem, reduceIte, Nat.reduceEqDiff, Nat.reduceAdd, Nat.reduceSub, Nat.reduceMul, Nat.reduceDiv, Nat.reduceMod, Nat.reduceLT, Nat.reduceLeDiff, Nat.reduceBEq, Nat.reduceBNe, Int.reduceLE, Int.reduceLT, Int.reduceToNat, Int.reduceEq, Int.reduceBEq, Int.reduceBNe, Int.reduceNeg, Int.reduceSub, Int.reduceMul, Int.reduceAdd, BitVec.reduceOfInt, reduceCtorEq, ↓reduceIte]
/-- So many bits of a byte. -/
def bitsF (r : BitVec 64) (b : BitVec 8) : Nat → BitVec 64
  | 0 => r
  | k + 1 => stepF (bitsF r b k) (b.setWidth 64 >>> (7 - k) &&& 1#64)
def refF (r : BitVec 64) (l : List UInt8) : BitVec 64 := l.foldl (fun (r : BitVec 64) (b : UInt8) => bitsF r b.toBitVec 8) r
theorem refF_snoc (r : BitVec 64) (l : List UInt8) (i : Nat) (h : i < l.length) : refF r (l.take (i + 1)) = bitsF (refF r (l.take i)) l[i].toBitVec 8 := by
  rw [List.take_succ_eq_append_getElem h]; simp only [refF, List.foldl_append, List.foldl_cons, List.foldl_nil]
def S17 (nb : Bool) (r : BitVec 64) (l : List UInt8) (i : Nat) : St :=
  ⟨[.set 4 (.int .i64 i), .set 3 (u64 (refF r (l.take i))), .set 0 (.lst nb .sc (bytesAV l))], []⟩
def S17b (nb : Bool) (r : BitVec 64) (l : List UInt8) (i : Nat) (b : BitVec 8) (k : Nat) : St :=
  ⟨[.set 5 (.int .i64 k), .set 4 (.int .i64 i), .set 3 (u64 (bitsF r b k)), .set 0 (.lst nb .sc (bytesAV l))], []⟩
theorem wrap_succ {i : Nat} (h : i < 2 ^ 62) : IntKind.wrap .i64 ((i : Int) + 1) = ((i + 1 : Nat) : Int) := by
  rw [wrap_i64 (by omega) (by omega)]; rfl
theorem ref_ok (d : Nat) (nb : Bool) (l : List UInt8) (hl : l.length < 2 ^ 36) : call (gl w) tab (d+2) 17 [.lst nb .sc (bytesAV l)] [] = some (i64 (refF 0xffffffffff#64 l ^^^ 0xffffffffff#64).toInt, [], []) := by
  rw [call_go (fd := fd17) rfl]
  simp only [fd17, m17, go_sem, reduceIte, Nat.reduceEqDiff, Nat.reduceAdd, Nat.reduceSub, Nat.reduceMul, Nat.reduceDiv, Nat.reduceMod, Nat.reduceLT, Nat.reduceLeDiff, Nat.reduceBEq, Nat.reduceBNe, Int.reduceLE, Int.reduceLT, Int.reduceToNat, Int.reduceEq, Int.reduceBEq, Int.reduceBNe, Int.reduceNeg, Int.reduceSub, Int.reduceMul, Int.reduceAdd, BitVec.reduceOfInt, reduceCtorEq, ↓reduceIte]
  rw [iter_to (S17 nb 0xffffffffff#64 l) l.length (by unfold LF; omega)]
  · simp only [S17, go_sem, reduceIte, Nat.reduceEqDiff, Nat.reduceAdd, Nat.reduceSub, Nat.reduceMul, Nat.reduceDiv, Nat.reduceMod, Nat.reduceLT, Nat.reduceLeDiff, Nat.reduceBEq, Nat.reduceBNe, Int.reduceLE, Int.reduceLT, Int.reduceToNat, Int.reduceEq, Int.reduceBEq, Int.reduceBNe, Int.reduceNeg, Int.reduceSub, Int.reduceMul, Int.reduceAdd, BitVec.reduceOfInt, reduceCtorEq, ↓reduceIte, Int.lt_irrefl, decide_false, List.take_length, bytesAV_length, wrap_i64_bv]
  · simp only [S17, go_sem, reduceIte, Nat.reduceEqDiff, Nat.reduceAdd, Nat.reduceSub, Nat.reduceMul, Nat.reduceDiv, Nat.reduceMod, Nat.reduceLT, Nat.reduceLeDiff, Nat.reduceBEq, Nat.reduceBNe, Int.reduceLE, Int.reduceLT, Int.reduceToNat, Int.reduceEq, Int.reduceBEq, Int.reduceBNe, Int.reduceNeg, Int.reduceSub, Int.reduceMul, Int.reduceAdd, BitVec.reduceOfInt, reduceCtorEq, ↓reduceIte]; rfl
  · intro i hi
    have hlt : ((i : Int) < (l.length : Int)) := by omega
    have hg := bytesAV_get hi
    simp only [S17, go_sem, reduceIte, Nat.reduceEqDiff, Nat.reduceAdd, Nat.reduceSub, Nat.reduceMul, Nat.reduceDiv, Nat.reduceMod, Nat.reduceLT, Nat.reduceLeDiff, Nat.reduceBEq, Nat.reduceBNe, Int.reduceLE, Int.reduceLT, Int.reduceToNat, Int.reduceEq, Int.reduceBEq, Int.reduceBNe, Int.reduceNeg, Int.reduceSub, Int.reduceMul, Int.reduceAdd, BitVec.reduceOfInt, reduceCtorEq, ↓reduceIte, hi]
    rw [iter_to (S17b nb (refF 0xffffffffff#64 (l.take i)) l i l[i].toBitVec) 8 (by unfold LF; omega)]
    · simp only [S17b, go_sem, reduceIte, Nat.reduceEqDiff, Nat.reduceAdd, Nat.reduceSub, Nat.reduceMul, Nat.reduceDiv, Nat.reduceMod, Nat.reduceLT, Nat.reduceLeDiff, Nat.reduceBEq, Nat.reduceBNe, Int.reduceLE, Int.reduceLT, Int.reduceToNat, Int.reduceEq, Int.reduceBEq, Int.reduceBNe, Int.reduceNeg, Int.reduceSub, Int.reduceMul, Int.reduceAdd, BitVec.reduceOfInt, reduceCtorEq, ↓reduceIte, wrap_succ (show i < 2 ^ 62 by omega), refF_snoc, hi]
    · simp only [S17b, go_sem, reduceIte, Nat.reduceEqDiff, Nat.reduceAdd, Nat.reduceSub, Nat.reduceMul, Nat.reduceDiv, Nat.reduceMod, Nat.reduceLT, Nat.reduceLeDiff, Nat.reduceBEq, Nat.reduceBNe, Int.reduceLE, Int.reduceLT, Int.reduceToNat, Int.reduceEq, Int.reduceBEq, Int.reduceBNe, Int.reduceNeg, Int.reduceSub, Int.reduceMul, Int.reduceAdd, BitVec.reduceOfInt, reduceCtorEq, ↓reduceIte]; rfl
    · intro k hk
      have hlt2 : ((k : Int) < 8) := by omega
      have hw : IntKind.wrap .i64 (7 - (k : Int)) = ((7 - k : Nat) : Int) := by rw [wrap_i64 (by omega) (by omega)]; omega
      simp only [S17b, go_sem, reduceIte, Nat.reduceEqDiff, Nat.reduceAdd, Nat.reduceSub, Nat.reduceMul, Nat.reduceDiv, Nat.reduceMod, Nat.reduceLT, Nat.reduceLeDiff, Nat.reduceBEq, Nat.reduceBNe, Int.reduceLE, Int.reduceLT, Int.reduceToNat, Int.reduceEq, Int.reduceBEq, Int.reduceBNe, Int.reduceNeg, Int.reduceSub, Int.reduceMul, Int.reduceAdd, BitVec.reduceOfInt, reduceCtorEq, ↓reduceIte, hk, hw, hg, bytesAV_length, hi, step_ok, wrap_succ (show k < 2 ^ 62 by omega), bitsF]
    · simp only [S17b, go_sem, reduceIte, Nat.reduceEqDiff, Nat.reduceAdd, Nat.reduceSub, Nat.reduceMul, Nat.reduceDiv, Nat.reduceMod, Nat.reduceLT, Nat.reduceLeDiff, Nat.reduceBEq, Nat.reduceBNe, Int.reduceLE, Int.reduceLT, Int.reduceToNat, Int.reduceEq, Int.reduceBEq, Int.reduceBNe, Int.reduceNeg, Int.reduceSub, Int.reduceMul, Int.reduceAdd, BitVec.reduceOfInt, reduceCtorEq, ↓reduceIte, Int.lt_irrefl, decide_false]
  · simp only [S17, go_sem, reduceIte, Nat.reduceEqDiff, Nat.reduceAdd, Nat.reduceSub, Nat.reduceMul, Nat.reduceDiv, Nat.reduceMod, Nat.reduceLT, Nat.reduceLeDiff, Nat.reduceBEq, Nat.reduceBNe, Int.reduceLE, Int.reduceLT, Int.reduceToNat, Int.reduceEq, Int.reduceBEq, Int.reduceBNe, Int.reduceNeg, Int.reduceSub, Int.reduceMul, Int.reduceAdd, BitVec.reduceOfInt, reduceCtorEq, ↓reduceIte, Int.lt_irrefl, decide_false, bytesAV_length]
end Go.Proofs.S02
namespace Go.Proofs.S02
open Go Go.Ev Go.Proofs
variable {w : Bool}
set_option linter.unusedSimpArgs false
set_option linter.unusedVariables false
abbrev M40 : BitVec 64 := 0xffffffffff#64
/-- A register has 40 bits. -/
def W40 (r : BitVec 64) : Prop := r &&& M40 = r
theorem w40_and (r : BitVec 64) : W40 (r &&& M40) := by unfold W40; rw [BitVec.and_assoc, BitVec.and_self]
theorem and_xor (a b c : BitVec 64) : (a ^^^ b) &&& c = (a &&& c) ^^^ (b &&& c) := by
  apply BitVec.eq_of_getLsbD_eq; intro i hi
  simp only [BitVec.getLsbD_and, BitVec.getLsbD_xor]
  cases a.getLsbD i <;> cases b.getLsbD i <;> cases c.getLsbD i <;> rfl
theorem w40_xor {a b : BitVec 64} (ha : W40 a) (hb : W40 b) : W40 (a ^^^ b) := by unfold W40 at *; rw [and_xor, ha, hb]
theorem shl_xor (a b : BitVec 64) (n : Nat) : (a ^^^ b) <<< n = a <<< n ^^^ b <<< n := by
  apply BitVec.eq_of_getLsbD_eq; intro i hi
  simp only [BitVec.getLsbD_shiftLeft, BitVec.getLsbD_xor]
  cases decide (i < n) <;> simp [hi]
theorem shr_xor (a b : BitVec 64) (n : Nat) : (a ^^^ b) >>> n = a >>> n ^^^ b >>> n := by
  apply BitVec.eq_of_getLsbD_eq; intro i hi
  simp only [BitVec.getLsbD_ushiftRight, BitVec.getLsbD_xor]
theorem shl_and (a b : BitVec 64) (n : Nat) : (a &&& b) <<< n = a <<< n &&& b <<< n := by
  apply BitVec.eq_of_getLsbD_eq; intro i hi
  simp only [BitVec.getLsbD_shiftLeft, BitVec.getLsbD_and]
  cases decide (i < n) <;> simp [hi]
theorem shr_and (a b : BitVec 64) (n : Nat) : (a &&& b) >>> n = a >>> n &&& b >>> n := by
  apply BitVec.eq_of_getLsbD_eq; intro i hi
  simp only [BitVec.getLsbD_ushiftRight, BitVec.getLsbD_and]
def stepA (r b : BitVec 64) : BitVec 64 := (r <<< (1 : Nat) &&& M40) ^^^ (if (r >>> (39 : Nat) &&& 1#64 ^^^ b) == 1#64 then 0x04820009#64 else 0)
theorem stepF_eq (r b : BitVec 64) : stepF r b = stepA r b := by
  unfold stepF stepA
  split <;> simp
theorem w40_step (r b : BitVec 64) : W40 (stepF r b) := by
  rw [stepF_eq]; unfold stepA
  refine w40_xor (w40_and _) ?_
  split <;> (unfold W40; decide)
/-- What lies below is moved up. -/
theorem step_low {a b : BitVec 64} (c : BitVec 64) (h : a &&& 0x7fffffffff#64 = a) : stepF (b ^^^ a) c = stepF b c ^^^ a <<< (1 : Nat) := by
  have e1 : a >>> (39 : Nat) &&& 1#64 = 0#64 := by
    rw [← h, shr_and, show (0x7fffffffff#64 : BitVec 64) >>> (39 : Nat) = 0 by decide]; simp
  have e2 : a <<< (1 : Nat) &&& M40 = a <<< (1 : Nat) := by
    rw [← h, shl_and, BitVec.and_assoc]; congr 1
  rw [stepF_eq, stepF_eq]; unfold stepA
  rw [shr_xor, shl_xor, and_xor, and_xor, e1, e2, BitVec.xor_zero]
  ac_rfl
def steps4 (r : BitVec 64) (n : BitVec 64) : BitVec 64 := stepF (stepF (stepF (stepF r (n >>> (3 : Nat) &&& 1#64)) (n >>> (2 : Nat) &&& 1#64)) (n >>> (1 : Nat) &&& 1#64)) (n &&& 1#64)
theorem steps4_low {a b : BitVec 64} (n : BitVec 64) (h : a &&& 0xfffffffff#64 = a) : steps4 (b ^^^ a) n = steps4 b n ^^^ a <<< (4 : Nat) := by
  unfold steps4
  have t (k : Nat) (m : BitVec 64) (hm : (0xfffffffff#64 : BitVec 64) <<< k &&& 0x7fffffffff#64 = 0xfffffffff#64 <<< k) : a <<< k &&& 0x7fffffffff#64 = a <<< k := by
    rw [← h, shl_and, BitVec.and_assoc, hm]
  rw [step_low _ (by rw [← h, BitVec.and_assoc]; congr 1), step_low _ (t 1 0 (by decide)), ← BitVec.shiftLeft_add, step_low _ (t 2 0 (by decide)), ← BitVec.shiftLeft_add, step_low _ (t 3 0 (by decide)), ← BitVec.shiftLeft_add]
theorem steps4_all : ∀ x y : Fin 16, ((BitVec.ofNat 64 x.val <<< (36 : Nat) <<< (4 : Nat)) &&& M40) ^^^ nibs.getD ((BitVec.ofNat 8 x.val ^^^ BitVec.ofNat 8 y.val) &&& 15#8).toNat 0 = steps4 (BitVec.ofNat 64 x.val <<< (36 : Nat)) (BitVec.ofNat 64 y.val) := by decide +kernel
theorem split36 (r : BitVec 64) (h : W40 r) : ∃ (x : Fin 16) (a : BitVec 64), a &&& 0xfffffffff#64 = a ∧ r = BitVec.ofNat 64 x.val <<< (36 : Nat) ^^^ a ∧ (r >>> (36 : Nat)).setWidth 8 = BitVec.ofNat 8 x.val := by
  have hx : (r >>> (36 : Nat)).toNat < 16 := by
    rw [← h, shr_and, show (M40 : BitVec 64) >>> (36 : Nat) = 15#64 by decide, BitVec.toNat_and]
    exact Nat.lt_of_le_of_lt Nat.and_le_right (by decide)
  refine ⟨⟨(r >>> (36 : Nat)).toNat, hx⟩, r &&& 0xfffffffff#64, by rw [BitVec.and_assoc, BitVec.and_self], ?_, ?_⟩
  · simp only [BitVec.ofNat_toNat, BitVec.setWidth_eq]
    apply BitVec.eq_of_getLsbD_eq; intro i hi
    simp only [BitVec.getLsbD_shiftLeft, BitVec.getLsbD_xor, BitVec.getLsbD_ushiftRight, BitVec.getLsbD_and]
    have e : (0xfffffffff#64 : BitVec 64).getLsbD i = decide (i < 36) := by
      have : ∀ i : Fin 64, (0xfffffffff#64 : BitVec 64).getLsbD i = decide (i.val < 36) := by decide
      exact this ⟨i, hi⟩
    rw [e]
    by_cases h36 : i < 36
    · simp [h36]
    · simp [h36, hi, show 36 + (i - 36) = i by omega]
  · simp only [BitVec.ofNat_toNat]
theorem and15 (x n : BitVec 8) : (x ^^^ (n &&& 15#8)) &&& 15#8 = (x ^^^ n) &&& 15#8 := by
  apply BitVec.eq_of_getLsbD_eq; intro i hi
  simp only [BitVec.getLsbD_and, BitVec.getLsbD_xor]
  cases n.getLsbD i <;> cases (15#8 : BitVec 8).getLsbD i <;> simp
theorem xrc (a b c : BitVec 64) : a ^^^ b ^^^ c = a ^^^ c ^^^ b := by ac_rfl
theorem nib_eq (r : BitVec 64) (h : W40 r) (n : BitVec 8) : nibF r n = steps4 r (n.setWidth 64 &&& 15#64) := by
  obtain ⟨x, a, ha, e, e8⟩ := split36 r h
  have hy : (n &&& 15#8).toNat < 16 := by rw [BitVec.toNat_and]; exact Nat.lt_of_le_of_lt Nat.and_le_right (by decide)
  have ht := steps4_all x ⟨(n &&& 15#8).toNat, hy⟩
  have e1 : BitVec.ofNat 64 (n &&& 15#8).toNat = n.setWidth 64 &&& 15#64 := by
    rw [BitVec.ofNat_toNat, BitVec.setWidth_and]; congr 1
  have e2 : BitVec.ofNat 8 (n &&& 15#8).toNat = n &&& 15#8 := by rw [BitVec.ofNat_toNat, BitVec.setWidth_eq]
  have e3 : a <<< (4 : Nat) &&& M40 = a <<< (4 : Nat) := by
    rw [← ha, shl_and, BitVec.and_assoc]; congr 1
  rw [e1, e2, and15] at ht
  have e4 : nibF r n = ((BitVec.ofNat 64 x.val <<< (36 : Nat) <<< (4 : Nat) &&& M40) ^^^ a <<< (4 : Nat)) ^^^ nibs.getD ((BitVec.ofNat 8 x.val ^^^ n) &&& 15#8).toNat 0 := by
    unfold nibF
    rw [e8]
    conv => lhs; rw [e, shl_xor, and_xor, e3]
  rw [e4]
  conv => rhs; rw [e, steps4_low _ ha, ← ht]
  exact xrc _ _ _
theorem bit15 {k : Nat} (hk : k < 4) : (15#64 : BitVec 64).getLsbD k = true := by
  have : ∀ k : Fin 4, (15#64 : BitVec 64).getLsbD k.val = true := by decide
  exact this ⟨k, hk⟩
theorem bit1 {i : Nat} (h : ¬ i = 0) : (1#64 : BitVec 64).getLsbD i = false := by
  rw [BitVec.getLsbD_one]; simp [show i ≠ 0 by omega]
theorem byte_steps (r : BitVec 64) (h : W40 r) (b : BitVec 8) : nibF (nibF r (b >>> (4 : Nat))) b = bitsF r b 8 := by
  have hw : W40 (nibF r (b >>> (4 : Nat))) := by rw [nib_eq r h]; unfold steps4; exact w40_step _ _
  rw [nib_eq _ hw, nib_eq r h]
  have e (k : Nat) (hk : k < 4) : (b.setWidth 64 &&& 15#64) >>> k &&& 1#64 = b.setWidth 64 >>> k &&& 1#64 := by
    apply BitVec.eq_of_getLsbD_eq; intro i hi
    simp only [BitVec.getLsbD_and, BitVec.getLsbD_ushiftRight]
    by_cases h0 : i = 0
    · subst h0; simp [bit15 hk]
    · simp [bit1 h0]
  have e' (k : Nat) (hk : k < 4) : ((b >>> (4 : Nat)).setWidth 64 &&& 15#64) >>> k &&& 1#64 = b.setWidth 64 >>> (k + 4) &&& 1#64 := by
    apply BitVec.eq_of_getLsbD_eq; intro i hi
    simp only [BitVec.getLsbD_and, BitVec.getLsbD_ushiftRight]
    by_cases h0 : i = 0
    · subst h0; simp [bit15 hk, BitVec.getLsbD_setWidth, BitVec.getLsbD_ushiftRight, show k < 64 by omega, show k + 4 < 64 by omega, Nat.add_comm]
    · simp [bit1 h0]
  have z (x : BitVec 64) : x = x >>> (0 : Nat) := by simp
  simp only [steps4, bitsF]
  rw [e 3 (by omega), e 2 (by omega), e 1 (by omega), e' 3 (by omega), e' 2 (by omega), e' 1 (by omega)]
  have e0 := e 0 (by omega)
  have e0' := e' 0 (by omega)
  simp only [BitVec.ushiftRight_zero] at e0 e0'
  rw [e0, e0']
  simp
theorem w40_ref (r : BitVec 64) (h : W40 r) (l : List UInt8) : W40 (refF r l) := by
  induction l generalizing r with
  | nil => exact h
  | cons b l ih => exact ih _ (w40_step _ _)
theorem add_ref (r : BitVec 64) (h : W40 r) (l : List UInt8) : addF r l = refF r l := by
  induction l generalizing r with
  | nil => rfl
  | cons b l ih =>
    show addF (nibF (nibF r _) _) l = refF (bitsF r _ 8) l
    rw [byte_steps r h]
    exact ih _ (w40_step _ _)
end Go.Proofs.S02
namespace Go.Proofs.S02
open Go Go.Ev Go.Proofs
variable {w : Bool}
set_option linter.unusedSimpArgs false
set_option linter.unusedVariables false
/-- The check. -/
def crcF (l : List UInt8) : BitVec 64 := refF M40 l ^^^ M40
theorem w40_crc (l : List UInt8) : W40 (crcF l) := w40_xor (w40_ref _ (by unfold W40; decide) l) (by unfold W40; decide)
theorem crc_ok (d : Nat) (nb : Bool) (l : List UInt8) (hl : l.length < 2 ^ 36) : call (gl w) tab (d+4) 16 [.lst nb .sc (bytesAV l)] [] = some (i64 (crcF l).toInt, [], []) := by
  rw [crc40_ok d nb l hl, add_ref _ (by unfold W40; decide)]; rfl
theorem cref_ok (d : Nat) (nb : Bool) (l : List UInt8) (hl : l.length < 2 ^ 36) : call (gl w) tab (d+2) 17 [.lst nb .sc (bytesAV l)] [] = some (i64 (crcF l).toInt, [], []) := ref_ok d nb l hl
theorem w40_lt {r : BitVec 64} (h : W40 r) : r.toNat < 1099511627776 := by
  unfold W40 at h
  rw [← h, BitVec.toNat_and]
  exact Nat.lt_of_le_of_lt Nat.and_le_right (by decide)
theorem w40_int {r : BitVec 64} (h : W40 r) : 0 ≤ r.toInt ∧ r.toInt < 1099511627776 := by
  have := w40_lt h
  rw [BitVec.toInt_eq_toNat_of_lt (by omega)]
  omega
/-- Bytes are bytes. -/
theorem bytes_of : ∀ {l : List AV}, (∀ x ∈ l, HasKd (.int .u8) x) → ∃ b : List UInt8, l = bytesAV b
  | [], _ => ⟨[], rfl⟩
  | a :: l, h => by
    obtain ⟨n, rfl, h1, h2⟩ := h a (by simp)
    obtain ⟨b, rfl⟩ := bytes_of (l := l) fun x hx => h x (by simp [hx])
    simp only [IntKind.min, IntKind.max, IntKind.signed, IntKind.bits, Bool.false_eq_true, if_false] at h1 h2
    refine ⟨UInt8.ofNat n.toNat :: b, ?_⟩
    show _ = AV.int .u8 ((UInt8.ofNat n.toNat).toNat : Int) :: bytesAV b
    rw [UInt8.toNat_ofNat_of_lt' (by show n.toNat < 256; omega)]
    congr 2; omega
theorem crc_at {n : Nat} (h : 4 ≤ n) (nb : Bool) {l : List UInt8} (hl : l.length < 2 ^ 36) : call (gl w) tab n 16 [.lst nb .sc (bytesAV l)] [] = some (i64 (crcF l).toInt, [], []) := by
  obtain ⟨d, rfl⟩ := Nat.exists_eq_add_of_le' h
  exact crc_ok d nb l hl
theorem cref_at {n : Nat} (h : 2 ≤ n) (nb : Bool) {l : List UInt8} (hl : l.length < 2 ^ 36) : call (gl w) tab n 17 [.lst nb .sc (bytesAV l)] [] = some (i64 (crcF l).toInt, [], []) := by
  obtain ⟨d, rfl⟩ := Nat.exists_eq_add_of_le' h
  exact cref_ok d nb l hl
theorem law3 {n : Nat} (hn : 20 ≤ n) (c15 : call (gl w) tab n 15 [] [] = some (.bool true, [], [])) (ar : List AV) (h : HasKds [.sl (.int .u8)] ar) : call (gl w) tab (n + 1) 3 ar [] = some (.bool true, [], []) := by
  obtain ⟨a, r, rfl, ⟨x, rfl, hx, hb⟩, rfl⟩ := h
  obtain ⟨l, rfl⟩ := bytes_of hb
  rw [bytesAV_length] at hx
  have c16 := @crc_at w n (by omega)
  have c17 := @cref_at w n (by omega)
  rw [call_go (fd := fd3) rfl]
  simp only [Kd.sh, fd3, m3, go_sem, reduceIte, Nat.reduceEqDiff, Nat.reduceAdd, Nat.reduceSub, Nat.reduceMul, Nat.reduceDiv, Nat.reduceMod, Nat.reduceLT, Nat.reduceLeDiff, Nat.reduceBEq, Nat.reduceBNe, Int.reduceLE, Int.reduceLT, Int.reduceToNat, Int.reduceEq, Int.reduceBEq, Int.reduceBNe, Int.reduceNeg, Int.reduceSub, Int.reduceMul, Int.reduceAdd, BitVec.reduceOfInt, reduceCtorEq, ↓reduceIte, c15]
  by_cases h : 600 < l.length
  · simp only [go_sem, reduceIte, Nat.reduceEqDiff, Nat.reduceAdd, Nat.reduceSub, Nat.reduceMul, Nat.reduceDiv, Nat.reduceMod, Nat.reduceLT, Nat.reduceLeDiff, Nat.reduceBEq, Nat.reduceBNe, Int.reduceLE, Int.reduceLT, Int.reduceToNat, Int.reduceEq, Int.reduceBEq, Int.reduceBNe, Int.reduceNeg, Int.reduceSub, Int.reduceMul, Int.reduceAdd, BitVec.reduceOfInt, reduceCtorEq, ↓reduceIte, h]
  · have hw := w40_int (w40_crc l)
    have hL : l.length ≤ LIM := by unfold LIM; omega
    simp only [go_sem, reduceIte, Nat.reduceEqDiff, Nat.reduceAdd, Nat.reduceSub, Nat.reduceMul, Nat.reduceDiv, Nat.reduceMod, Nat.reduceLT, Nat.reduceLeDiff, Nat.reduceBEq, Nat.reduceBNe, Int.reduceLE, Int.reduceLT, Int.reduceToNat, Int.reduceEq, Int.reduceBEq, Int.reduceBNe, Int.reduceNeg, Int.reduceSub, Int.reduceMul, Int.reduceAdd, BitVec.reduceOfInt, reduceCtorEq, ↓reduceIte, h, c16, c17, hL, show l.length < 2 ^ 36 by omega, hw]
end Go.Proofs.S02
