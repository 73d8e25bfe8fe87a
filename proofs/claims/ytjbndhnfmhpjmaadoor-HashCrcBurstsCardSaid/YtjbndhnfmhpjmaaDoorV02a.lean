/-
  The check of 40 bits: what the program's functions compute. No condition.
-/
import Derived.Test.YtjbndhnfmhpjmaaDoorV02
import Derived.Test.YtjbndhnfmhpjmaaDoorEvS
namespace Go.Proofs.S02
open Go Go.Ev Go.Proofs
set_option linter.unusedSimpArgs false

def nibs : List (BitVec 64) := [0x00000000#64, 0x04820009#64, 0x09040012#64, 0x0d86001b#64, 0x12080024#64, 0x168a002d#64, 0x1b0c0036#64, 0x1f8e003f#64,
  0x24100048#64, 0x20920041#64, 0x2d14005a#64, 0x29960053#64, 0x3618006c#64, 0x329a0065#64, 0x3f1c007e#64, 0x3b9e0077#64]
def kList : List (BitVec 32) := [0x428a2f98#32, 0x71374491#32, 0xb5c0fbcf#32, 0xe9b5dba5#32, 0x3956c25b#32, 0x59f111f1#32, 0x923f82a4#32, 0xab1c5ed5#32,
  0xd807aa98#32, 0x12835b01#32, 0x243185be#32, 0x550c7dc3#32, 0x72be5d74#32, 0x80deb1fe#32, 0x9bdc06a7#32, 0xc19bf174#32,
  0xe49b69c1#32, 0xefbe4786#32, 0x0fc19dc6#32, 0x240ca1cc#32, 0x2de92c6f#32, 0x4a7484aa#32, 0x5cb0a9dc#32, 0x76f988da#32,
  0x983e5152#32, 0xa831c66d#32, 0xb00327c8#32, 0xbf597fc7#32, 0xc6e00bf3#32, 0xd5a79147#32, 0x06ca6351#32, 0x14292967#32,
  0x27b70a85#32, 0x2e1b2138#32, 0x4d2c6dfc#32, 0x53380d13#32, 0x650a7354#32, 0x766a0abb#32, 0x81c2c92e#32, 0x92722c85#32,
  0xa2bfe8a1#32, 0xa81a664b#32, 0xc24b8b70#32, 0xc76c51a3#32, 0xd192e819#32, 0xd6990624#32, 0xf40e3585#32, 0x106aa070#32,
  0x19a4c116#32, 0x1e376c08#32, 0x2748774c#32, 0x34b0bcb5#32, 0x391c0cb3#32, 0x4ed8aa4a#32, 0x5b9cca4f#32, 0x682e6ff3#32,
  0x748f82ee#32, 0x78a5636f#32, 0x84c87814#32, 0x8cc70208#32, 0x90befffa#32, 0xa4506ceb#32, 0xbef9a3f7#32, 0xc67178f2#32]
abbrev i64 (n : Int) : AV := .int .i64 n
abbrev u64 (x : BitVec 64) : AV := .int .u64 (x.toNat : Int)
abbrev u32 (x : BitVec 32) : AV := .int .u32 (x.toNat : Int)
abbrev u8 (x : BitVec 8) : AV := .int .u8 (x.toNat : Int)
def nibA : List AV := nibs.map fun x => u64 x
def kA : List AV := kList.map fun x => u32 x
variable {w : Bool}
/-- The tables; the specification's among them, where a row lists it. -/
def gl (w : Bool) : Gl := fun g => match g with
  | 0 => if w then some (.ar 64 .sc, .agg kA) else none
  | 1 => some (.ar 16 .sc, .agg nibA)
  | 2 => some (.ar 64 .sc, .agg kA)
  | _ => none
theorem gl_1 : gl w 1 = some (.ar 16 .sc, .agg nibA) := rfl
theorem nibA_get (n : Nat) (h : n < 16) : nibA[n]? = some (.int .u64 ((nibs.getD n 0).toNat : Int)) := by
  unfold nibA
  rw [List.getElem?_map, List.getD_eq_getElem?_getD, List.getElem?_eq_getElem (by simpa [nibs] using h)]
  rfl
def nibF (r : BitVec 64) (n : BitVec 8) : BitVec 64 := ((r <<< (4 : Nat)) &&& 0xffffffffff#64) ^^^ nibs.getD ((((r >>> (36 : Nat)).setWidth 8 ^^^ n) &&& 15#8).toNat) 0
theorem nib_lt (x : BitVec 8) : (x &&& 15#8).toNat < 16 := by
  rw [BitVec.toNat_and]; exact Nat.lt_of_le_of_lt Nat.and_le_right (by decide)
theorem nibble_ok (d : Nat) (r : BitVec 64) (n : BitVec 8) : call (gl w) tab (d+1) 41 [.agg [u64 r], u8 n] [] = some (.agg [u64 (nibF r n)], [], []) := by
  rw [call_go (fd := fd41) rfl]
  have h := nib_lt ((r >>> (36 : Nat)).setWidth 8 ^^^ n)
  simp only [fd41, m41, go_sem, reduceIte, Nat.reduceEqDiff, Nat.reduceAdd, Nat.reduceSub, Nat.reduceMul, Nat.reduceDiv, Nat.reduceMod, Nat.reduceLT, Nat.reduceLeDiff, Nat.reduceBEq, Nat.reduceBNe, Int.reduceLE, Int.reduceLT, Int.reduceToNat, Int.reduceEq, Int.reduceBEq, Int.reduceBNe, Int.reduceNeg, Int.reduceSub, Int.reduceMul, Int.reduceAdd, BitVec.reduceOfInt, reduceCtorEq, ↓reduceIte, gl_1, nibA_get, h]
  rfl
theorem u8_bv (b : UInt8) : b.toNat = b.toBitVec.toNat := rfl
def addF (r : BitVec 64) (l : List UInt8) : BitVec 64 := l.foldl (fun (r : BitVec 64) (b : UInt8) => nibF (nibF r (b.toBitVec >>> (4 : Nat))) b.toBitVec) r
def S20 (r : BitVec 64) (l : List UInt8) (i : Nat) : St :=
  ⟨[.set 8 (.int .i64 i), .set 7 (.int .i64 l.length), .set 4 (.ptr 4 []), .set 2 (.ptr 2 []), .set 1 (.str l)],
   [(4, .fix (.st [.sc]) (.agg [.int .u64 0])), (2, .fix (.st [.sc]) (.agg [.int .u64 ((addF r (l.take i)).toNat : Int)]))]⟩
theorem addF_snoc (r : BitVec 64) (l : List UInt8) (i : Nat) (h : i < l.length) : addF r (l.take (i + 1)) = nibF (nibF (addF r (l.take i)) (l[i].toBitVec >>> (4 : Nat))) l[i].toBitVec := by
  rw [List.take_succ_eq_append_getElem h]; simp only [addF, List.foldl_append, List.foldl_cons, List.foldl_nil]
theorem add_ok (d : Nat) (r : BitVec 64) (l : List UInt8) (hl : l.length < 2 ^ 62) : call (gl w) tab (d+2) 20 [.agg [u64 r], .str l] [] = some (.agg [u64 (addF r l)], [], []) := by
  rw [call_go (fd := fd20) rfl]
  simp only [fd20, m20, go_sem, reduceIte, Nat.reduceEqDiff, Nat.reduceAdd, Nat.reduceSub, Nat.reduceMul, Nat.reduceDiv, Nat.reduceMod, Nat.reduceLT, Nat.reduceLeDiff, Nat.reduceBEq, Nat.reduceBNe, Int.reduceLE, Int.reduceLT, Int.reduceToNat, Int.reduceEq, Int.reduceBEq, Int.reduceBNe, Int.reduceNeg, Int.reduceSub, Int.reduceMul, Int.reduceAdd, BitVec.reduceOfInt, reduceCtorEq, ↓reduceIte]
  rw [iter_to (S20 r l) l.length (by unfold LF; omega)]
  · simp only [S20, go_sem, reduceIte, Nat.reduceEqDiff, Nat.reduceAdd, Nat.reduceSub, Nat.reduceMul, Nat.reduceDiv, Nat.reduceMod, Nat.reduceLT, Nat.reduceLeDiff, Nat.reduceBEq, Nat.reduceBNe, Int.reduceLE, Int.reduceLT, Int.reduceToNat, Int.reduceEq, Int.reduceBEq, Int.reduceBNe, Int.reduceNeg, Int.reduceSub, Int.reduceMul, Int.reduceAdd, BitVec.reduceOfInt, reduceCtorEq, ↓reduceIte, Int.lt_irrefl, decide_false, List.take_length]
  · simp only [S20, go_sem, reduceIte, Nat.reduceEqDiff, Nat.reduceAdd, Nat.reduceSub, Nat.reduceMul, Nat.reduceDiv, Nat.reduceMod, Nat.reduceLT, Nat.reduceLeDiff, Nat.reduceBEq, Nat.reduceBNe, Int.reduceLE, Int.reduceLT, Int.reduceToNat, Int.reduceEq, Int.reduceBEq, Int.reduceBNe, Int.reduceNeg, Int.reduceSub, Int.reduceMul, Int.reduceAdd, BitVec.reduceOfInt, reduceCtorEq, ↓reduceIte]; rfl
  · intro i hi
    have hg : l[i]? = some l[i] := List.getElem?_eq_getElem hi
    have hlt : ((i : Int) < (l.length : Int)) := by omega
    have hw : IntKind.wrap .i64 ((i : Int) + 1) = ((i + 1 : Nat) : Int) := by rw [wrap_i64 (by omega) (by omega)]; rfl
    simp only [S20, go_sem, reduceIte, Nat.reduceEqDiff, Nat.reduceAdd, Nat.reduceSub, Nat.reduceMul, Nat.reduceDiv, Nat.reduceMod, Nat.reduceLT, Nat.reduceLeDiff, Nat.reduceBEq, Nat.reduceBNe, Int.reduceLE, Int.reduceLT, Int.reduceToNat, Int.reduceEq, Int.reduceBEq, Int.reduceBNe, Int.reduceNeg, Int.reduceSub, Int.reduceMul, Int.reduceAdd, BitVec.reduceOfInt, reduceCtorEq, ↓reduceIte, hi, hg, u8_bv, nibble_ok, hw, addF_snoc, hi]
  · simp only [S20, go_sem, reduceIte, Nat.reduceEqDiff, Nat.reduceAdd, Nat.reduceSub, Nat.reduceMul, Nat.reduceDiv, Nat.reduceMod, Nat.reduceLT, Nat.reduceLeDiff, Nat.reduceBEq, Nat.reduceBNe, Int.reduceLE, Int.reduceLT, Int.reduceToNat, Int.reduceEq, Int.reduceBEq, Int.reduceBNe, Int.reduceNeg, Int.reduceSub, Int.reduceMul, Int.reduceAdd, BitVec.reduceOfInt, reduceCtorEq, ↓reduceIte, Int.lt_irrefl, decide_false]
theorem begin_ok (d : Nat) : call (gl w) tab (d+1) 19 [] [] = some (.agg [u64 0xffffffffff#64], [], []) := by
  rw [call_go (fd := fd19) rfl]
  simp only [fd19, m19, go_sem, reduceIte, Nat.reduceEqDiff, Nat.reduceAdd, Nat.reduceSub, Nat.reduceMul, Nat.reduceDiv, Nat.reduceMod, Nat.reduceLT, Nat.reduceLeDiff, Nat.reduceBEq, Nat.reduceBNe, Int.reduceLE, Int.reduceLT, Int.reduceToNat, Int.reduceEq, Int.reduceBEq, Int.reduceBNe, Int.reduceNeg, Int.reduceSub, Int.reduceMul, Int.reduceAdd, BitVec.reduceOfInt, reduceCtorEq, ↓reduceIte]
  rfl
theorem value_ok (d : Nat) (r : BitVec 64) : call (gl w) tab (d+1) 22 [.agg [u64 r]] [] = some (i64 (r ^^^ 0xffffffffff#64).toInt, [], []) := by
  rw [call_go (fd := fd22) rfl]
  simp only [fd22, m22, go_sem, reduceIte, Nat.reduceEqDiff, Nat.reduceAdd, Nat.reduceSub, Nat.reduceMul, Nat.reduceDiv, Nat.reduceMod, Nat.reduceLT, Nat.reduceLeDiff, Nat.reduceBEq, Nat.reduceBNe, Int.reduceLE, Int.reduceLT, Int.reduceToNat, Int.reduceEq, Int.reduceBEq, Int.reduceBNe, Int.reduceNeg, Int.reduceSub, Int.reduceMul, Int.reduceAdd, BitVec.reduceOfInt, reduceCtorEq, ↓reduceIte, wrap_i64_bv]
theorem crc40_ok (d : Nat) (nb : Bool) (l : List UInt8) (hl : l.length < 2 ^ 36) : call (gl w) tab (d+4) 16 [.lst nb .sc (bytesAV l)] [] = some (i64 (addF 0xffffffffff#64 l ^^^ 0xffffffffff#64).toInt, [], []) := by
  rw [call_go (fd := fd16) rfl]
  simp only [fd16, m16, go_sem, reduceIte, Nat.reduceEqDiff, Nat.reduceAdd, Nat.reduceSub, Nat.reduceMul, Nat.reduceDiv, Nat.reduceMod, Nat.reduceLT, Nat.reduceLeDiff, Nat.reduceBEq, Nat.reduceBNe, Int.reduceLE, Int.reduceLT, Int.reduceToNat, Int.reduceEq, Int.reduceBEq, Int.reduceBNe, Int.reduceNeg, Int.reduceSub, Int.reduceMul, Int.reduceAdd, BitVec.reduceOfInt, reduceCtorEq, ↓reduceIte, begin_ok, value_ok, bytesOf_bytesAV, add_ok, show l.length < 2 ^ 62 by omega]

/-! ### The specification's check -/
def stepF (r b : BitVec 64) : BitVec 64 := if (r >>> (39 : Nat) &&& 1#64 ^^^ b) == 1#64 then (r <<< (1 : Nat) &&& 0xffffffffff#64) ^^^ 0x04820009#64 else r <<< (1 : Nat) &&& 0xffffffffff#64
theorem step_ok (d : Nat) (r b : BitVec 64) : call (gl w) tab (d+1) 40 [u64 r, u64 b] [] = some (u64 (stepF r b), [], []) := by
  rw [call_go (fd := fd40) rfl]
  simp only [fd40, m40, go_sem, reduceIte, Nat.reduceEqDiff, Nat.reduceAdd, Nat.reduceSub, Nat.reduceMul, Nat.reduceDiv, Nat.reduceMod, Nat.reduceLT, Nat.reduceLeDiff, Nat.reduceBEq, Nat.reduceBNe, Int.reduceLE, Int.reduceLT, Int.reduceToNat, Int.reduceEq, Int.reduceBEq, Int.reduceBNe, Int.reduceNeg, Int.reduceSub, Int.reduceMul, Int.reduceAdd, BitVec.reduceOfInt, reduceCtorEq, ↓reduceIte, stepF]
  cases (r >>> (39 : Nat) &&& 1#64 ^^^ b == 1#64)
  · simp only [go_sem, reduceIte, Nat.reduceEqDiff, Nat.reduceAdd, Nat.reduceSub, Nat.reduceMul, Nat.reduceDiv, Nat.reduceMod, Nat.reduceLT, Nat.reduceLeDiff, Nat.reduceBEq, Nat.reduceBNe, Int.reduceLE, Int.reduceLT, Int.reduceToNat, Int.reduceEq, Int.reduceBEq, Int.reduceBNe, Int.reduceNeg, Int.reduceSub, Int.reduceMul, Int.reduceAdd, BitVec.reduceOfInt, reduceCtorEq, ↓reduceIte]
  · simp only [go_sem, reduceIte, Nat.reduceEqDiff, Nat.reduceAdd, Nat.reduceSub, Nat.reduceMul, Nat.reduceDiv, Nat.reduceMod, Nat.reduceLT, Nat.reduceLeDiff, Nat.reduceBEq, Nat.reduceBNe, Int.reduceLE, Int.reduceLT, Int.reduceToNat, Int.reduceEq, Int.reduceBEq, Int.reduceBNe, Int.reduceNeg, Int.reduceSub, Int.reduceMul, Int.reduceAdd, BitVec.reduceOfInt, reduceCtorEq, ↓reduceIte]
/-- So many bits of a byte. -/
def bitsF (r : BitVec 64) (b : BitVec 8) : Nat → BitVec 64
  | 0 => r
  | k + 1 => stepF (bitsF r b k) (b.setWidth 64 >>> (7 - k) &&& 1#64)
def refF (r : BitVec 64) (l : List UInt8) : BitVec 64 := l.foldl (fun (r : BitVec 64) (b : UInt8) => bitsF r b.toBitVec 8) r
theorem refF_snoc (r : BitVec 64) (l : List UInt8) (i : Nat) (h : i < l.length) : refF r (l.take (i + 1)) = bitsF (refF r (l.take i)) l[i].toBitVec 8 := by
  rw [List.take_succ_eq_append_getElem h]; simp only [refF, List.foldl_append, List.foldl_cons, List.foldl_nil]
def S17 (nb : Bool) (r : BitVec 64) (l : List UInt8) (i : Nat) : St :=
  ⟨[.set 4 (.int .i64 i), .set 3 (u64 (refF r (l.take i))), .set 0 (.lst nb .sc (bytesAV l))], []⟩
def S17b (nb : Bool) (r : BitVec 64) (l : List UInt8) (i : Nat) (b : BitVec 8) (k : Nat) : St :=
  ⟨[.set 5 (.int .i64 k), .set 4 (.int .i64 i), .set 3 (u64 (bitsF r b k)), .set 0 (.lst nb .sc (bytesAV l))], []⟩
theorem wrap_succ {i : Nat} (h : i < 2 ^ 62) : IntKind.wrap .i64 ((i : Int) + 1) = ((i + 1 : Nat) : Int) := by
  rw [wrap_i64 (by omega) (by omega)]; rfl
theorem ref_ok (d : Nat) (nb : Bool) (l : List UInt8) (hl : l.length < 2 ^ 36) : call (gl w) tab (d+2) 17 [.lst nb .sc (bytesAV l)] [] = some (i64 (refF 0xffffffffff#64 l ^^^ 0xffffffffff#64).toInt, [], []) := by
  rw [call_go (fd := fd17) rfl]
  simp only [fd17, m17, go_sem, reduceIte, Nat.reduceEqDiff, Nat.reduceAdd, Nat.reduceSub, Nat.reduceMul, Nat.reduceDiv, Nat.reduceMod, Nat.reduceLT, Nat.reduceLeDiff, Nat.reduceBEq, Nat.reduceBNe, Int.reduceLE, Int.reduceLT, Int.reduceToNat, Int.reduceEq, Int.reduceBEq, Int.reduceBNe, Int.reduceNeg, Int.reduceSub, Int.reduceMul, Int.reduceAdd, BitVec.reduceOfInt, reduceCtorEq, ↓reduceIte]
  rw [iter_to (S17 nb 0xffffffffff#64 l) l.length (by unfold LF; omega)]
  · simp only [S17, go_sem, reduceIte, Nat.reduceEqDiff, Nat.reduceAdd, Nat.reduceSub, Nat.reduceMul, Nat.reduceDiv, Nat.reduceMod, Nat.reduceLT, Nat.reduceLeDiff, Nat.reduceBEq, Nat.reduceBNe, Int.reduceLE, Int.reduceLT, Int.reduceToNat, Int.reduceEq, Int.reduceBEq, Int.reduceBNe, Int.reduceNeg, Int.reduceSub, Int.reduceMul, Int.reduceAdd, BitVec.reduceOfInt, reduceCtorEq, ↓reduceIte, Int.lt_irrefl, decide_false, List.take_length, bytesAV_length, wrap_i64_bv]
  · simp only [S17, go_sem, reduceIte, Nat.reduceEqDiff, Nat.reduceAdd, Nat.reduceSub, Nat.reduceMul, Nat.reduceDiv, Nat.reduceMod, Nat.reduceLT, Nat.reduceLeDiff, Nat.reduceBEq, Nat.reduceBNe, Int.reduceLE, Int.reduceLT, Int.reduceToNat, Int.reduceEq, Int.reduceBEq, Int.reduceBNe, Int.reduceNeg, Int.reduceSub, Int.reduceMul, Int.reduceAdd, BitVec.reduceOfInt, reduceCtorEq, ↓reduceIte]; rfl
  · intro i hi
    have hlt : ((i : Int) < (l.length : Int)) := by omega
    have hg := bytesAV_get hi
    simp only [S17, go_sem, reduceIte, Nat.reduceEqDiff, Nat.reduceAdd, Nat.reduceSub, Nat.reduceMul, Nat.reduceDiv, Nat.reduceMod, Nat.reduceLT, Nat.reduceLeDiff, Nat.reduceBEq, Nat.reduceBNe, Int.reduceLE, Int.reduceLT, Int.reduceToNat, Int.reduceEq, Int.reduceBEq, Int.reduceBNe, Int.reduceNeg, Int.reduceSub, Int.reduceMul, Int.reduceAdd, BitVec.reduceOfInt, reduceCtorEq, ↓reduceIte, hi]
    rw [iter_to (S17b nb (refF 0xffffffffff#64 (l.take i)) l i l[i].toBitVec) 8 (by unfold LF; omega)]
    · simp only [S17b, go_sem, reduceIte, Nat.reduceEqDiff, Nat.reduceAdd, Nat.reduceSub, Nat.reduceMul, Nat.reduceDiv, Nat.reduceMod, Nat.reduceLT, Nat.reduceLeDiff, Nat.reduceBEq, Nat.reduceBNe, Int.reduceLE, Int.reduceLT, Int.reduceToNat, Int.reduceEq, Int.reduceBEq, Int.reduceBNe, Int.reduceNeg, Int.reduceSub, Int.reduceMul, Int.reduceAdd, BitVec.reduceOfInt, reduceCtorEq, ↓reduceIte, wrap_succ (show i < 2 ^ 62 by omega), refF_snoc, hi]
    · simp only [S17b, go_sem, reduceIte, Nat.reduceEqDiff, Nat.reduceAdd, Nat.reduceSub, Nat.reduceMul, Nat.reduceDiv, Nat.reduceMod, Nat.reduceLT, Nat.reduceLeDiff, Nat.reduceBEq, Nat.reduceBNe, Int.reduceLE, Int.reduceLT, Int.reduceToNat, Int.reduceEq, Int.reduceBEq, Int.reduceBNe, Int.reduceNeg, Int.reduceSub, Int.reduceMul, Int.reduceAdd, BitVec.reduceOfInt, reduceCtorEq, ↓reduceIte]; rfl
    · intro k hk
      have hlt2 : ((k : Int) < 8) := by omega
      have hw : IntKind.wrap .i64 (7 - (k : Int)) = ((7 - k : Nat) : Int) := by rw [wrap_i64 (by omega) (by omega)]; omega
      simp only [S17b, go_sem, reduceIte, Nat.reduceEqDiff, Nat.reduceAdd, Nat.reduceSub, Nat.reduceMul, Nat.reduceDiv, Nat.reduceMod, Nat.reduceLT, Nat.reduceLeDiff, Nat.reduceBEq, Nat.reduceBNe, Int.reduceLE, Int.reduceLT, Int.reduceToNat, Int.reduceEq, Int.reduceBEq, Int.reduceBNe, Int.reduceNeg, Int.reduceSub, Int.reduceMul, Int.reduceAdd, BitVec.reduceOfInt, reduceCtorEq, ↓reduceIte, hk, hw, hg, bytesAV_length, hi, step_ok, wrap_succ (show k < 2 ^ 62 by omega), bitsF]
    · simp only [S17b, go_sem, reduceIte, Nat.reduceEqDiff, Nat.reduceAdd, Nat.reduceSub, Nat.reduceMul, Nat.reduceDiv, Nat.reduceMod, Nat.reduceLT, Nat.reduceLeDiff, Nat.reduceBEq, Nat.reduceBNe, Int.reduceLE, Int.reduceLT, Int.reduceToNat, Int.reduceEq, Int.reduceBEq, Int.reduceBNe, Int.reduceNeg, Int.reduceSub, Int.reduceMul, Int.reduceAdd, BitVec.reduceOfInt, reduceCtorEq, ↓reduceIte, Int.lt_irrefl, decide_false]
  · simp only [S17, go_sem, reduceIte, Nat.reduceEqDiff, Nat.reduceAdd, Nat.reduceSub, Nat.reduceMul, Nat.reduceDiv, Nat.reduceMod, Nat.reduceLT, Nat.reduceLeDiff, Nat.reduceBEq, Nat.reduceBNe, Int.reduceLE, Int.reduceLT, Int.reduceToNat, Int.reduceEq, Int.reduceBEq, Int.reduceBNe, Int.reduceNeg, Int.reduceSub, Int.reduceMul, Int.reduceAdd, BitVec.reduceOfInt, reduceCtorEq, ↓reduceIte, Int.lt_irrefl, decide_false, bytesAV_length]
end Go.Proofs.S02
