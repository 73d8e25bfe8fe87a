/-
  The check's further functions: what they compute. No condition.
-/
import Derived.Test.YtjbndhnfmhpjmaaDoorW02A
namespace Go.Proofs.S02
open Go Go.Ev Go.Proofs
variable {w : Bool}
set_option linter.unusedSimpArgs false
set_option linter.unusedVariables false
/-- A byte. -/
def ub (b : BitVec 8) : UInt8 := ⟨b⟩
theorem bytesAV_snoc (l : List UInt8) (b : BitVec 8) : bytesAV (l ++ [ub b]) = bytesAV l ++ [.int .u8 (b.toNat : Int)] := by
  simp [bytesAV, ub]
/-! ### Five bytes -/
def fiveF (x : BitVec 64) (k : Nat) : List UInt8 := (List.range k).map fun j => ub ((x.sshiftRight (32 - 8 * j)).setWidth 8)
theorem fiveF_succ (x : BitVec 64) (k : Nat) : fiveF x (k + 1) = fiveF x k ++ [ub ((x.sshiftRight (32 - 8 * k)).setWidth 8)] := by simp [fiveF, List.range_succ]
theorem fiveF_len (x : BitVec 64) (k : Nat) : (fiveF x k).length = k := by simp [fiveF]
def S42 (x : BitVec 64) (k : Nat) : St :=
  ⟨[.set 4 (.int .i64 k), .set 3 (.sl 5003 [] 0 k), .set 0 (i64 x.toInt)], [(5003, .grow .sc (bytesAV (fiveF x k)))]⟩
theorem bytesAV_take' {l : List UInt8} {n : Nat} (h : l.length = n) : (bytesAV l).take n = bytesAV l := by rw [← h, bytesAV_take]
theorem lim_of {n : Nat} (h : n < 2 ^ 36) : n + 1 ≤ LIM := by unfold LIM; omega
theorem five_ok (d : Nat) (x : BitVec 64) : call (gl w) tab (d+1) 42 [i64 x.toInt] [] = some (.lst false .sc (bytesAV (fiveF x 5)), [], []) := by
  rw [call_go (fd := fd42) rfl]
  simp only [fd42, m42, go_sem, reduceIte, Nat.reduceEqDiff, Nat.reduceAdd, Nat.reduceSub, Nat.reduceMul, Nat.reduceDiv, Nat.reduceMod, Nat.reduceLT, Nat.reduceLeDiff, Nat.reduceBEq, Nat.reduceBNe, Int.reduceLE, Int.reduceLT, Int.reduceToNat, Int.reduceEq, Int.reduceBEq, Int.reduceBNe, Int.reduceNeg, Int.reduceSub, Int.reduceMul, Int.reduceAdd, BitVec.reduceOfInt, reduceCtorEq, ↓reduceIte]
  rw [iter_to (S42 x) 5 (by unfold LF; omega)]
  · simp only [S42, go_sem, reduceIte, Nat.reduceEqDiff, Nat.reduceAdd, Nat.reduceSub, Nat.reduceMul, Nat.reduceDiv, Nat.reduceMod, Nat.reduceLT, Nat.reduceLeDiff, Nat.reduceBEq, Nat.reduceBNe, Int.reduceLE, Int.reduceLT, Int.reduceToNat, Int.reduceEq, Int.reduceBEq, Int.reduceBNe, Int.reduceNeg, Int.reduceSub, Int.reduceMul, Int.reduceAdd, BitVec.reduceOfInt, reduceCtorEq, ↓reduceIte, fiveF_len, bytesAV_take' (fiveF_len x 5)]
  · simp only [S42, go_sem, reduceIte, Nat.reduceEqDiff, Nat.reduceAdd, Nat.reduceSub, Nat.reduceMul, Nat.reduceDiv, Nat.reduceMod, Nat.reduceLT, Nat.reduceLeDiff, Nat.reduceBEq, Nat.reduceBNe, Int.reduceLE, Int.reduceLT, Int.reduceToNat, Int.reduceEq, Int.reduceBEq, Int.reduceBNe, Int.reduceNeg, Int.reduceSub, Int.reduceMul, Int.reduceAdd, BitVec.reduceOfInt, reduceCtorEq, ↓reduceIte]; rfl
  · intro k hk
    have hlt2 : ((k : Int) < 5) := by omega
    have hw1 : IntKind.wrap .i64 (8 * (k : Int)) = ((8 * k : Nat) : Int) := by rw [wrap_i64 (by omega) (by omega)]; omega
    have hw : IntKind.wrap .i64 (32 - ((8 * k : Nat) : Int)) = ((32 - 8 * k : Nat) : Int) := by rw [wrap_i64 (by omega) (by omega)]; omega
    simp only [S42, go_sem, reduceIte, Nat.reduceEqDiff, Nat.reduceAdd, Nat.reduceSub, Nat.reduceMul, Nat.reduceDiv, Nat.reduceMod, Nat.reduceLT, Nat.reduceLeDiff, Nat.reduceBEq, Nat.reduceBNe, Int.reduceLE, Int.reduceLT, Int.reduceToNat, Int.reduceEq, Int.reduceBEq, Int.reduceBNe, Int.reduceNeg, Int.reduceSub, Int.reduceMul, Int.reduceAdd, BitVec.reduceOfInt, reduceCtorEq, ↓reduceIte, hk, hw1, hw, wrap_succ (show k < 2 ^ 62 by omega), shr_i64, fiveF_succ, bytesAV_snoc, fiveF_len, lim_of (show k < 2 ^ 36 by omega)]
  · simp only [S42, go_sem, reduceIte, Nat.reduceEqDiff, Nat.reduceAdd, Nat.reduceSub, Nat.reduceMul, Nat.reduceDiv, Nat.reduceMod, Nat.reduceLT, Nat.reduceLeDiff, Nat.reduceBEq, Nat.reduceBNe, Int.reduceLE, Int.reduceLT, Int.reduceToNat, Int.reduceEq, Int.reduceBEq, Int.reduceBNe, Int.reduceNeg, Int.reduceSub, Int.reduceMul, Int.reduceAdd, BitVec.reduceOfInt, reduceCtorEq, ↓reduceIte]
/-! ### The bytes of a list of words -/
def intsAV (l : List (BitVec 64)) : List AV := l.map fun x => .int .i64 x.toInt
theorem intsAV_length (l : List (BitVec 64)) : (intsAV l).length = l.length := by simp [intsAV]
theorem intsAV_get {l : List (BitVec 64)} {i : Nat} (h : i < l.length) : (intsAV l)[i]? = some (.int .i64 l[i].toInt) := by
  rw [intsAV, List.getElem?_map, List.getElem?_eq_getElem h]; rfl
theorem intsAV_take (l : List (BitVec 64)) : (intsAV l).take l.length = intsAV l := by rw [← intsAV_length, List.take_length]
def wbytes (l : List (BitVec 64)) : List UInt8 := (l.map fun x => fiveF x 5).flatten
theorem wbytes_len (l : List (BitVec 64)) : (wbytes l).length = 5 * l.length := by
  induction l with
  | nil => rfl
  | cons x l ih => simp only [wbytes, List.map_cons, List.flatten_cons, List.length_append, fiveF_len, List.length_cons] at *; omega
theorem wbytes_snoc (l : List (BitVec 64)) (i : Nat) (h : i < l.length) : wbytes (l.take (i + 1)) = wbytes (l.take i) ++ fiveF l[i] 5 := by
  unfold wbytes; rw [List.take_succ_eq_append_getElem h, List.map_append, List.flatten_append]; simp only [List.map_cons, List.map_nil, List.flatten_cons, List.flatten_nil, List.append_nil]
theorem bytesAV_append (a b : List UInt8) : bytesAV (a ++ b) = bytesAV a ++ bytesAV b := by simp [bytesAV]
def S25 (nb : Bool) (l : List (BitVec 64)) (i : Nat) : St :=
  ⟨[.set 4 (.int .i64 i), .set 3 (.sl 5003 [] 0 (5 * i)), .set 0 (.lst nb .sc (intsAV l))], [(5003, .grow .sc (bytesAV (wbytes (l.take i))))]⟩
theorem rbytes_ok (d : Nat) (nb : Bool) (l : List (BitVec 64)) (hl : l.length < 2 ^ 30) : call (gl w) tab (d+2) 25 [.lst nb .sc (intsAV l)] [] = some (.lst false .sc (bytesAV (wbytes l)), [], []) := by
  rw [call_go (fd := fd25) rfl]
  simp only [fd25, m25, go_sem, reduceIte, Nat.reduceEqDiff, Nat.reduceAdd, Nat.reduceSub, Nat.reduceMul, Nat.reduceDiv, Nat.reduceMod, Nat.reduceLT, Nat.reduceLeDiff, Nat.reduceBEq, Nat.reduceBNe, Int.reduceLE, Int.reduceLT, Int.reduceToNat, Int.reduceEq, Int.reduceBEq, Int.reduceBNe, Int.reduceNeg, Int.reduceSub, Int.reduceMul, Int.reduceAdd, BitVec.reduceOfInt, reduceCtorEq, ↓reduceIte]
  rw [iter_to (S25 nb l) l.length (by unfold LF; omega)]
  · simp only [S25, go_sem, reduceIte, Nat.reduceEqDiff, Nat.reduceAdd, Nat.reduceSub, Nat.reduceMul, Nat.reduceDiv, Nat.reduceMod, Nat.reduceLT, Nat.reduceLeDiff, Nat.reduceBEq, Nat.reduceBNe, Int.reduceLE, Int.reduceLT, Int.reduceToNat, Int.reduceEq, Int.reduceBEq, Int.reduceBNe, Int.reduceNeg, Int.reduceSub, Int.reduceMul, Int.reduceAdd, BitVec.reduceOfInt, reduceCtorEq, ↓reduceIte, intsAV_length, List.take_length, wbytes_len, bytesAV_take' (wbytes_len l)]
  · simp only [S25, go_sem, reduceIte, Nat.reduceEqDiff, Nat.reduceAdd, Nat.reduceSub, Nat.reduceMul, Nat.reduceDiv, Nat.reduceMod, Nat.reduceLT, Nat.reduceLeDiff, Nat.reduceBEq, Nat.reduceBNe, Int.reduceLE, Int.reduceLT, Int.reduceToNat, Int.reduceEq, Int.reduceBEq, Int.reduceBNe, Int.reduceNeg, Int.reduceSub, Int.reduceMul, Int.reduceAdd, BitVec.reduceOfInt, reduceCtorEq, ↓reduceIte]; rfl
  · intro i hi
    have hm : (l.take i).length = i := by rw [List.length_take]; omega
    have h5 : 5 * i + 5 = 5 * (i + 1) := by omega
    have hle : 5 * (i + 1) ≤ LIM := by unfold LIM; omega
    simp only [S25, go_sem, reduceIte, Nat.reduceEqDiff, Nat.reduceAdd, Nat.reduceSub, Nat.reduceMul, Nat.reduceDiv, Nat.reduceMod, Nat.reduceLT, Nat.reduceLeDiff, Nat.reduceBEq, Nat.reduceBNe, Int.reduceLE, Int.reduceLT, Int.reduceToNat, Int.reduceEq, Int.reduceBEq, Int.reduceBNe, Int.reduceNeg, Int.reduceSub, Int.reduceMul, Int.reduceAdd, BitVec.reduceOfInt, reduceCtorEq, ↓reduceIte, hi, intsAV_length, intsAV_get hi, five_ok, wrap_succ (show i < 2 ^ 62 by omega), wbytes_snoc _ _ hi, bytesAV_append, wbytes_len, hm, fiveF_len, h5, hle, bytesAV_take' (fiveF_len l[i] 5)]
  · simp only [S25, go_sem, reduceIte, Nat.reduceEqDiff, Nat.reduceAdd, Nat.reduceSub, Nat.reduceMul, Nat.reduceDiv, Nat.reduceMod, Nat.reduceLT, Nat.reduceLeDiff, Nat.reduceBEq, Nat.reduceBNe, Int.reduceLE, Int.reduceLT, Int.reduceToNat, Int.reduceEq, Int.reduceBEq, Int.reduceBNe, Int.reduceNeg, Int.reduceSub, Int.reduceMul, Int.reduceAdd, BitVec.reduceOfInt, reduceCtorEq, ↓reduceIte, intsAV_length]
theorem rbytes_at {n : Nat} (h : 2 ≤ n) (nb : Bool) {l : List (BitVec 64)} (hl : l.length < 2 ^ 30) : call (gl w) tab n 25 [.lst nb .sc (intsAV l)] [] = some (.lst false .sc (bytesAV (wbytes l)), [], []) := by
  obtain ⟨d, rfl⟩ := Nat.exists_eq_add_of_le' h
  exact rbytes_ok d nb l hl
theorem rwords_ok {n : Nat} (h : 2 ≤ n) (nb : Bool) (l : List (BitVec 64)) (hl : l.length < 2 ^ 30) : call (gl w) tab (n + 1) 24 [.lst nb .sc (intsAV l)] [] = some (i64 (crcF (wbytes l)).toInt, [], []) := by
  have c25 := @rbytes_at w n h
  have c17 := @cref_at w n h
  have hw : (wbytes l).length < 2 ^ 36 := by rw [wbytes_len]; omega
  rw [call_go (fd := fd24) rfl]
  simp only [fd24, m24, go_sem, reduceIte, Nat.reduceEqDiff, Nat.reduceAdd, Nat.reduceSub, Nat.reduceMul, Nat.reduceDiv, Nat.reduceMod, Nat.reduceLT, Nat.reduceLeDiff, Nat.reduceBEq, Nat.reduceBNe, Int.reduceLE, Int.reduceLT, Int.reduceToNat, Int.reduceEq, Int.reduceBEq, Int.reduceBNe, Int.reduceNeg, Int.reduceSub, Int.reduceMul, Int.reduceAdd, BitVec.reduceOfInt, reduceCtorEq, ↓reduceIte, c25, hl, c17, hw]
/-! ### The program's check of words -/
def wordF (r x : BitVec 64) (k : Nat) : BitVec 64 := (List.range k).foldl (fun r j => nibF r (((x.sshiftRight (36 - 4 * j)) &&& 15#64).setWidth 8)) r
theorem wordF_succ (r x : BitVec 64) (k : Nat) : wordF r x (k + 1) = nibF (wordF r x k) (((x.sshiftRight (36 - 4 * k)) &&& 15#64).setWidth 8) := by
  simp only [wordF, List.range_succ, List.foldl_append, List.foldl_cons, List.foldl_nil]
def wordsF (r : BitVec 64) (l : List (BitVec 64)) : BitVec 64 := l.foldl (fun r x => wordF r x 10) r
theorem wordsF_snoc (r : BitVec 64) (l : List (BitVec 64)) (i : Nat) (h : i < l.length) : wordsF r (l.take (i + 1)) = wordF (wordsF r (l.take i)) l[i] 10 := by
  rw [List.take_succ_eq_append_getElem h]; simp only [wordsF, List.foldl_append, List.foldl_cons, List.foldl_nil]
def cell3 (r : BitVec 64) : Hp := [(3, .fix (.st [.sc]) (.agg [.int .u64 (r.toNat : Int)]))]
def S23 (nb : Bool) (l : List (BitVec 64)) (i : Nat) : St :=
  ⟨[.set 10 (.int .i64 i), .set 9 (.int .i64 l.length), .set 8 (.lst nb .sc (intsAV l)), .set 3 (.ptr 3 [])], cell3 (wordsF M40 (l.take i))⟩
def S23b (nb : Bool) (l : List (BitVec 64)) (i : Nat) (r x : BitVec 64) (k : Nat) : St :=
  ⟨[.set 10 (.int .i64 i), .set 9 (.int .i64 l.length), .set 8 (.lst nb .sc (intsAV l)), .set 6 (.int .i64 (36 - 4 * (k : Int))), .set 5 (i64 x.toInt), .set 3 (.ptr 3 [])], cell3 (wordF r x k)⟩
theorem words_ok (d : Nat) (nb : Bool) (l : List (BitVec 64)) (hl : l.length < 2 ^ 30) : call (gl w) tab (d+2) 23 [.lst nb .sc (intsAV l)] [] = some (i64 (wordsF M40 l ^^^ M40).toInt, [], []) := by
  rw [call_go (fd := fd23) rfl]
  simp only [fd23, m23, go_sem, reduceIte, Nat.reduceEqDiff, Nat.reduceAdd, Nat.reduceSub, Nat.reduceMul, Nat.reduceDiv, Nat.reduceMod, Nat.reduceLT, Nat.reduceLeDiff, Nat.reduceBEq, Nat.reduceBNe, Int.reduceLE, Int.reduceLT, Int.reduceToNat, Int.reduceEq, Int.reduceBEq, Int.reduceBNe, Int.reduceNeg, Int.reduceSub, Int.reduceMul, Int.reduceAdd, BitVec.reduceOfInt, reduceCtorEq, ↓reduceIte, begin_ok]
  rw [iter_to (S23 nb l) l.length (by unfold LF; omega)]
  · simp only [S23, cell3, go_sem, reduceIte, Nat.reduceEqDiff, Nat.reduceAdd, Nat.reduceSub, Nat.reduceMul, Nat.reduceDiv, Nat.reduceMod, Nat.reduceLT, Nat.reduceLeDiff, Nat.reduceBEq, Nat.reduceBNe, Int.reduceLE, Int.reduceLT, Int.reduceToNat, Int.reduceEq, Int.reduceBEq, Int.reduceBNe, Int.reduceNeg, Int.reduceSub, Int.reduceMul, Int.reduceAdd, BitVec.reduceOfInt, reduceCtorEq, ↓reduceIte, List.take_length, value_ok]
  · simp only [S23, cell3, go_sem, reduceIte, Nat.reduceEqDiff, Nat.reduceAdd, Nat.reduceSub, Nat.reduceMul, Nat.reduceDiv, Nat.reduceMod, Nat.reduceLT, Nat.reduceLeDiff, Nat.reduceBEq, Nat.reduceBNe, Int.reduceLE, Int.reduceLT, Int.reduceToNat, Int.reduceEq, Int.reduceBEq, Int.reduceBNe, Int.reduceNeg, Int.reduceSub, Int.reduceMul, Int.reduceAdd, BitVec.reduceOfInt, reduceCtorEq, ↓reduceIte, intsAV_length]; rfl
  · intro i hi
    simp only [S23, cell3, go_sem, reduceIte, Nat.reduceEqDiff, Nat.reduceAdd, Nat.reduceSub, Nat.reduceMul, Nat.reduceDiv, Nat.reduceMod, Nat.reduceLT, Nat.reduceLeDiff, Nat.reduceBEq, Nat.reduceBNe, Int.reduceLE, Int.reduceLT, Int.reduceToNat, Int.reduceEq, Int.reduceBEq, Int.reduceBNe, Int.reduceNeg, Int.reduceSub, Int.reduceMul, Int.reduceAdd, BitVec.reduceOfInt, reduceCtorEq, ↓reduceIte, hi, intsAV_length, intsAV_get hi]
    rw [iter_to (S23b nb l i (wordsF M40 (l.take i)) l[i]) 10 (by unfold LF; omega)]
    · simp only [S23b, cell3, go_sem, reduceIte, Nat.reduceEqDiff, Nat.reduceAdd, Nat.reduceSub, Nat.reduceMul, Nat.reduceDiv, Nat.reduceMod, Nat.reduceLT, Nat.reduceLeDiff, Nat.reduceBEq, Nat.reduceBNe, Int.reduceLE, Int.reduceLT, Int.reduceToNat, Int.reduceEq, Int.reduceBEq, Int.reduceBNe, Int.reduceNeg, Int.reduceSub, Int.reduceMul, Int.reduceAdd, BitVec.reduceOfInt, reduceCtorEq, ↓reduceIte, wrap_succ (show i < 2 ^ 62 by omega), wordsF_snoc _ _ _ hi]
    · simp only [S23b, cell3, go_sem, reduceIte, Nat.reduceEqDiff, Nat.reduceAdd, Nat.reduceSub, Nat.reduceMul, Nat.reduceDiv, Nat.reduceMod, Nat.reduceLT, Nat.reduceLeDiff, Nat.reduceBEq, Nat.reduceBNe, Int.reduceLE, Int.reduceLT, Int.reduceToNat, Int.reduceEq, Int.reduceBEq, Int.reduceBNe, Int.reduceNeg, Int.reduceSub, Int.reduceMul, Int.reduceAdd, BitVec.reduceOfInt, reduceCtorEq, ↓reduceIte]; rfl
    · intro k hk
      have hlt : (0 : Int) ≤ 36 - 4 * (k : Int) := by omega
      have hw : IntKind.wrap .i64 (36 - 4 * (k : Int) - 4) = 36 - 4 * ((k + 1 : Nat) : Int) := by rw [wrap_i64 (by omega) (by omega)]; omega
      have ht : (36 - 4 * (k : Int)).toNat = 36 - 4 * k := by omega
      simp only [S23b, cell3, go_sem, reduceIte, Nat.reduceEqDiff, Nat.reduceAdd, Nat.reduceSub, Nat.reduceMul, Nat.reduceDiv, Nat.reduceMod, Nat.reduceLT, Nat.reduceLeDiff, Nat.reduceBEq, Nat.reduceBNe, Int.reduceLE, Int.reduceLT, Int.reduceToNat, Int.reduceEq, Int.reduceBEq, Int.reduceBNe, Int.reduceNeg, Int.reduceSub, Int.reduceMul, Int.reduceAdd, BitVec.reduceOfInt, reduceCtorEq, ↓reduceIte, hlt, hw, shr_i64, ht, and_i64, nibble_ok, wordF_succ]
    · simp only [S23b, cell3, go_sem, reduceIte, Nat.reduceEqDiff, Nat.reduceAdd, Nat.reduceSub, Nat.reduceMul, Nat.reduceDiv, Nat.reduceMod, Nat.reduceLT, Nat.reduceLeDiff, Nat.reduceBEq, Nat.reduceBNe, Int.reduceLE, Int.reduceLT, Int.reduceToNat, Int.reduceEq, Int.reduceBEq, Int.reduceBNe, Int.reduceNeg, Int.reduceSub, Int.reduceMul, Int.reduceAdd, BitVec.reduceOfInt, reduceCtorEq, ↓reduceIte]
  · simp only [S23, cell3, go_sem, reduceIte, Nat.reduceEqDiff, Nat.reduceAdd, Nat.reduceSub, Nat.reduceMul, Nat.reduceDiv, Nat.reduceMod, Nat.reduceLT, Nat.reduceLeDiff, Nat.reduceBEq, Nat.reduceBNe, Int.reduceLE, Int.reduceLT, Int.reduceToNat, Int.reduceEq, Int.reduceBEq, Int.reduceBNe, Int.reduceNeg, Int.reduceSub, Int.reduceMul, Int.reduceAdd, BitVec.reduceOfInt, reduceCtorEq, ↓reduceIte]
/-! ### Products -/
def XF (r : BitVec 64) : BitVec 64 := stepF r 0
/-- So many rounds of the product: the bits from the highest on. -/
def timesF (a b : BitVec 64) : Nat → BitVec 64
  | 0 => 0
  | k + 1 => (if (timesF a b k <<< (1 : Nat)) >>> (40 : Nat) == 1#64 then (timesF a b k <<< (1 : Nat) &&& M40) ^^^ 0x04820009#64 else timesF a b k <<< (1 : Nat)) ^^^ (if (b >>> (39 - k : Nat) &&& 1#64) == 1#64 then a else 0#64)
def S43 (a b : BitVec 64) (k : Nat) : St :=
  ⟨[.set 6 (.int .i64 (39 - (k : Int))), .set 5 (u64 (timesF a b k)), .set 1 (u64 b), .set 0 (u64 a)], []⟩
theorem nibA_1 : nibA[1]? = some (.int .u64 ((0x04820009#64 : BitVec 64).toNat : Int)) := rfl
theorem beq0_39 (k : Nat) (h : k < 40) : (39 - (k : Int)).toNat = 39 - k := by omega
theorem times_ok (d : Nat) (a b : BitVec 64) : call (gl w) tab (d+1) 43 [u64 a, u64 b] [] = some (u64 (timesF a b 40), [], []) := by
  rw [call_go (fd := fd43) rfl]
  simp only [fd43, m43, go_sem, reduceIte, Nat.reduceEqDiff, Nat.reduceAdd, Nat.reduceSub, Nat.reduceMul, Nat.reduceDiv, Nat.reduceMod, Nat.reduceLT, Nat.reduceLeDiff, Nat.reduceBEq, Nat.reduceBNe, Int.reduceLE, Int.reduceLT, Int.reduceToNat, Int.reduceEq, Int.reduceBEq, Int.reduceBNe, Int.reduceNeg, Int.reduceSub, Int.reduceMul, Int.reduceAdd, BitVec.reduceOfInt, reduceCtorEq, ↓reduceIte]
  rw [iter_to (S43 a b) 40 (by unfold LF; omega)]
  · simp only [S43, go_sem, reduceIte, Nat.reduceEqDiff, Nat.reduceAdd, Nat.reduceSub, Nat.reduceMul, Nat.reduceDiv, Nat.reduceMod, Nat.reduceLT, Nat.reduceLeDiff, Nat.reduceBEq, Nat.reduceBNe, Int.reduceLE, Int.reduceLT, Int.reduceToNat, Int.reduceEq, Int.reduceBEq, Int.reduceBNe, Int.reduceNeg, Int.reduceSub, Int.reduceMul, Int.reduceAdd, BitVec.reduceOfInt, reduceCtorEq, ↓reduceIte]
  · simp only [S43, go_sem, reduceIte, Nat.reduceEqDiff, Nat.reduceAdd, Nat.reduceSub, Nat.reduceMul, Nat.reduceDiv, Nat.reduceMod, Nat.reduceLT, Nat.reduceLeDiff, Nat.reduceBEq, Nat.reduceBNe, Int.reduceLE, Int.reduceLT, Int.reduceToNat, Int.reduceEq, Int.reduceBEq, Int.reduceBNe, Int.reduceNeg, Int.reduceSub, Int.reduceMul, Int.reduceAdd, BitVec.reduceOfInt, reduceCtorEq, ↓reduceIte]; rfl
  · intro k hk
    have hlt : (0 : Int) ≤ 39 - (k : Int) := by omega
    have hw : IntKind.wrap .i64 (39 - (k : Int) - 1) = 39 - ((k + 1 : Nat) : Int) := by rw [wrap_i64 (by omega) (by omega)]; omega
    simp only [S43, go_sem, reduceIte, Nat.reduceEqDiff, Nat.reduceAdd, Nat.reduceSub, Nat.reduceMul, Nat.reduceDiv, Nat.reduceMod, Nat.reduceLT, Nat.reduceLeDiff, Nat.reduceBEq, Nat.reduceBNe, Int.reduceLE, Int.reduceLT, Int.reduceToNat, Int.reduceEq, Int.reduceBEq, Int.reduceBNe, Int.reduceNeg, Int.reduceSub, Int.reduceMul, Int.reduceAdd, BitVec.reduceOfInt, reduceCtorEq, ↓reduceIte, hlt, hw, beq0_39 k hk, gl_1, nibA_1, timesF]
    cases (timesF a b k <<< (1 : Nat)) >>> (40 : Nat) == 1#64 <;> cases hb : (b >>> (39 - k : Nat) &&& 1#64) == 1#64 <;>
      simp only [go_sem, reduceIte, Nat.reduceEqDiff, Nat.reduceAdd, Nat.reduceSub, Nat.reduceMul, Nat.reduceDiv, Nat.reduceMod, Nat.reduceLT, Nat.reduceLeDiff, Nat.reduceBEq, Nat.reduceBNe, Int.reduceLE, Int.reduceLT, Int.reduceToNat, Int.reduceEq, Int.reduceBEq, Int.reduceBNe, Int.reduceNeg, Int.reduceSub, Int.reduceMul, Int.reduceAdd, BitVec.reduceOfInt, reduceCtorEq, ↓reduceIte, hlt, hw, beq0_39 k hk, gl_1, nibA_1, BitVec.xor_zero, hb]
  · simp only [S43, go_sem, reduceIte, Nat.reduceEqDiff, Nat.reduceAdd, Nat.reduceSub, Nat.reduceMul, Nat.reduceDiv, Nat.reduceMod, Nat.reduceLT, Nat.reduceLeDiff, Nat.reduceBEq, Nat.reduceBNe, Int.reduceLE, Int.reduceLT, Int.reduceToNat, Int.reduceEq, Int.reduceBEq, Int.reduceBNe, Int.reduceNeg, Int.reduceSub, Int.reduceMul, Int.reduceAdd, BitVec.reduceOfInt, reduceCtorEq, ↓reduceIte]
end Go.Proofs.S02
namespace Go.Proofs.S02
open Go Go.Ev Go.Proofs
set_option linter.unusedVariables false
set_option linter.unusedSimpArgs false
set_option linter.unusedSimpArgs false
theorem and1 (x : BitVec 64) : x &&& 1#64 = 0#64 ∨ x &&& 1#64 = 1#64 := by
  have h : (x &&& 1#64).toNat = x.toNat % 2 := by rw [BitVec.toNat_and, show (1#64 : BitVec 64).toNat = 1 from rfl, Nat.and_one_is_mod]
  rcases Nat.mod_two_eq_zero_or_one x.toNat with e | e
  · left; apply BitVec.eq_of_toNat_eq; rw [h, e]; rfl
  · right; apply BitVec.eq_of_toNat_eq; rw [h, e]; rfl
def selP (f : BitVec 64) : BitVec 64 := if f == 1#64 then 0x04820009#64 else 0#64
theorem selP_xor {f g : BitVec 64} (hf : f = 0#64 ∨ f = 1#64) (hg : g = 0#64 ∨ g = 1#64) : selP (f ^^^ g) = selP f ^^^ selP g := by
  rcases hf with rfl | rfl <;> rcases hg with rfl | rfl <;> decide
theorem stepF_sel (r b : BitVec 64) : stepF r b = (r <<< (1 : Nat) &&& M40) ^^^ selP ((r >>> (39 : Nat) &&& 1#64) ^^^ b) := by rw [stepF_eq]; rfl
theorem bit_xor {f g : BitVec 64} (hf : f = 0#64 ∨ f = 1#64) (hg : g = 0#64 ∨ g = 1#64) : f ^^^ g = 0#64 ∨ f ^^^ g = 1#64 := by
  rcases hf with rfl | rfl <;> rcases hg with rfl | rfl <;> decide
theorem x4 (a b c d : BitVec 64) : (a ^^^ b) ^^^ (c ^^^ d) = (a ^^^ c) ^^^ (b ^^^ d) := by ac_rfl
theorem step_xor {r s b c : BitVec 64} (hb : b = 0#64 ∨ b = 1#64) (hc : c = 0#64 ∨ c = 1#64) : stepF (r ^^^ s) (b ^^^ c) = stepF r b ^^^ stepF s c := by
  rw [stepF_sel, stepF_sel, stepF_sel, shl_xor, and_xor, shr_xor, and_xor, x4, selP_xor (bit_xor (and1 _) hb) (bit_xor (and1 _) hc), x4]
theorem XF_xor (r s : BitVec 64) : XF (r ^^^ s) = XF r ^^^ XF s := by
  have := step_xor (r := r) (s := s) (b := 0#64) (c := 0#64) (Or.inl rfl) (Or.inl rfl)
  rw [BitVec.xor_self] at this; exact this
theorem step_split (r s : BitVec 64) {b : BitVec 64} (hb : b = 0#64 ∨ b = 1#64) : stepF (r ^^^ s) b = stepF r b ^^^ XF s := by
  have := step_xor (r := r) (s := s) hb (c := 0#64) (Or.inl rfl)
  rw [BitVec.xor_zero] at this; exact this
theorem XF_zero : XF 0#64 = 0#64 := by decide
theorem w40_XF (r : BitVec 64) : W40 (XF r) := w40_step r 0
def Xn : Nat → BitVec 64 → BitVec 64
  | 0, r => r
  | n + 1, r => XF (Xn n r)
theorem Xn_zero (r : BitVec 64) : Xn 0 r = r := by rw [Xn]
theorem Xn_succ (n : Nat) (r : BitVec 64) : Xn (n + 1) r = XF (Xn n r) := by rw [Xn]
theorem Xn_xor (n : Nat) (r s : BitVec 64) : Xn n (r ^^^ s) = Xn n r ^^^ Xn n s := by
  induction n with
  | zero => rw [Xn_zero, Xn_zero, Xn_zero]
  | succ n ih => rw [Xn_succ, Xn_succ, Xn_succ, ih, XF_xor]
theorem Xn_add (m n : Nat) (r : BitVec 64) : Xn (m + n) r = Xn m (Xn n r) := by
  induction m with
  | zero => rw [Nat.zero_add, Xn_zero]
  | succ m ih => rw [Nat.succ_add, Xn_succ, Xn_succ, ih]
theorem Xn_zer (n : Nat) : Xn n 0#64 = 0#64 := by
  induction n with
  | zero => rw [Xn_zero]
  | succ n ih => rw [Xn_succ, ih, XF_zero]
theorem Xn_comm (n : Nat) (r : BitVec 64) : Xn n (XF r) = XF (Xn n r) := by
  have h1 : Xn 1 r = XF r := by rw [show (1 : Nat) = 0 + 1 from rfl, Xn_succ, Xn_zero]
  rw [← h1, ← Xn_add, Xn_succ]
theorem w40_Xn {r : BitVec 64} (h : W40 r) (n : Nat) : W40 (Xn n r) := by
  cases n with
  | zero => rw [Xn_zero]; exact h
  | succ n => rw [Xn_succ]; exact w40_XF _
theorem w40_zero : W40 0#64 := by unfold W40; decide
/-! ### The product, from the highest bit on -/
def selA (a b : BitVec 64) (k : Nat) : BitVec 64 := if (b >>> (39 - k) &&& 1#64) == 1#64 then a else 0#64
theorem w40_sel {a b : BitVec 64} (h : W40 a) (k : Nat) : W40 (selA a b k) := by
  unfold selA
  by_cases hc : (b >>> (39 - k) &&& 1#64 == 1#64) = true
  · rw [if_pos hc]; exact h
  · rw [if_neg hc]; exact w40_zero
theorem top_bit {t : BitVec 64} (h : W40 t) : (t <<< (1 : Nat)) >>> (40 : Nat) = t >>> (39 : Nat) := by
  rw [← h]
  apply BitVec.eq_of_getLsbD_eq; intro i hi
  simp only [BitVec.getLsbD_ushiftRight, BitVec.getLsbD_shiftLeft, BitVec.getLsbD_and]
  have e (k : Nat) (hk : 40 ≤ k) : (M40 : BitVec 64).getLsbD k = false := by
    by_cases h64 : k < 64
    · have : ∀ i : Fin 64, (M40 : BitVec 64).getLsbD i.val = decide (i.val < 40) := by decide
      rw [this ⟨k, h64⟩]; simp; omega
    · exact BitVec.getLsbD_of_ge _ _ (by omega)
  rcases Nat.eq_zero_or_pos i with rfl | h0
  · simp
  · rw [e (39 + i) (by omega), e (40 + i - 1) (by omega)]; simp
theorem hi_bit {t : BitVec 64} (h : W40 t) : t >>> (39 : Nat) &&& 1#64 = t >>> (39 : Nat) := by
  rw [← h, shr_and, BitVec.and_assoc]; congr 1
theorem timesF_succ (a b : BitVec 64) (k : Nat) (h : W40 (timesF a b k)) : timesF a b (k + 1) = XF (timesF a b k) ^^^ selA a b k := by
  rw [timesF, top_bit h, XF, stepF_sel, hi_bit h]
  have e0 : (0 : BitVec 64) = 0#64 := rfl
  rw [e0, BitVec.xor_zero]
  unfold selP selA
  by_cases h1 : (timesF a b k >>> (39 : Nat) == 1#64) = true
  · rw [if_pos h1, if_pos h1]
  · rw [if_neg h1, if_neg h1, BitVec.xor_zero]
    congr 1
    have hz : timesF a b k >>> (39 : Nat) = 0#64 := by
      have := and1 (timesF a b k >>> (39 : Nat)); rw [hi_bit h] at this
      rcases this with e | e
      · exact e
      · rw [e] at h1; exact absurd rfl h1
    have : timesF a b k <<< (1 : Nat) >>> (40 : Nat) = 0#64 := by rw [top_bit h, hz]
    apply BitVec.eq_of_getLsbD_eq; intro i hi
    rw [BitVec.getLsbD_and]
    have hM : ∀ i : Fin 64, (M40 : BitVec 64).getLsbD i.val = decide (i.val < 40) := by decide
    rw [hM ⟨i, hi⟩]
    by_cases h40 : i < 40
    · simp [h40]
    · have := congrArg (fun x => x.getLsbD (i - 40)) this
      simp only [BitVec.getLsbD_ushiftRight, show 40 + (i - 40) = i by omega] at this
      rw [this]; simp
theorem w40_times {a : BitVec 64} (b : BitVec 64) (h : W40 a) (k : Nat) : W40 (timesF a b k) := by
  induction k with
  | zero => rw [timesF]; exact w40_zero
  | succ k ih => rw [timesF_succ a b k ih]; exact w40_xor (w40_XF _) (w40_sel h k)
theorem selA_xor (a a' b : BitVec 64) (k : Nat) : selA (a ^^^ a') b k = selA a b k ^^^ selA a' b k := by unfold selA; split <;> simp
theorem times_xor {a a' : BitVec 64} (b : BitVec 64) (h : W40 a) (h' : W40 a') (k : Nat) : timesF (a ^^^ a') b k = timesF a b k ^^^ timesF a' b k := by
  induction k with
  | zero => rw [timesF, timesF, timesF]; decide
  | succ k ih => rw [timesF_succ _ b k (w40_times b (w40_xor h h') k), timesF_succ _ b k (w40_times b h k), timesF_succ _ b k (w40_times b h' k), ih, XF_xor, selA_xor, x4]
theorem times_X {a : BitVec 64} (b : BitVec 64) (h : W40 a) (k : Nat) : timesF (XF a) b k = XF (timesF a b k) := by
  induction k with
  | zero => rw [timesF, timesF]; decide
  | succ k ih =>
    rw [timesF_succ _ b k (w40_times b (w40_XF a) k), timesF_succ _ b k (w40_times b h k), ih, XF_xor]
    congr 1
    unfold selA; split
    · rfl
    · exact XF_zero.symm
theorem times_Xn {a : BitVec 64} (b : BitVec 64) (h : W40 a) (k n : Nat) : timesF (Xn n a) b k = Xn n (timesF a b k) := by
  induction n with
  | zero => rw [Xn_zero, Xn_zero]
  | succ n ih => rw [Xn_succ, Xn_succ, times_X b (w40_Xn h n), ih]
theorem w40_one : W40 1#64 := by unfold W40; decide
end Go.Proofs.S02
namespace Go.Proofs.S02
open Go Go.Ev Go.Proofs
variable {w : Bool}
set_option linter.unusedSimpArgs false
set_option linter.unusedVariables false
theorem one_shl : ∀ j : Fin 40, Xn j.val 1#64 = 1#64 <<< j.val := by decide +kernel
theorem bitM : ∀ i : Fin 64, (M40 : BitVec 64).getLsbD i.val = decide (i.val < 40) := by decide
/-- What holds of the basis and of sums, holds. -/
theorem basis {P : BitVec 64 → Prop} (h0 : P 0#64) (hj : ∀ j, j < 40 → P (Xn j 1#64)) (hx : ∀ a b, W40 a → W40 b → P a → P b → P (a ^^^ b)) (a : BitVec 64) (ha : W40 a) : P a := by
  let low (k : Nat) : BitVec 64 := BitVec.ofNat 64 (a.toNat % 2 ^ k)
  have hlt : ∀ k, k ≤ 40 → a.toNat % 2 ^ k < 2 ^ 40 := fun k hk => Nat.lt_of_lt_of_le (Nat.mod_lt _ (Nat.pow_pos (by omega))) (Nat.pow_le_pow_right (by omega) hk)
  have bits : ∀ k i, i < 64 → (low k).getLsbD i = (decide (i < k) && a.getLsbD i) := fun k i hi => by
    show (BitVec.ofNat 64 (a.toNat % 2 ^ k)).getLsbD i = _
    rw [BitVec.getLsbD_ofNat, Nat.testBit_mod_two_pow]
    simp [hi, BitVec.getLsbD]
  have w40l : ∀ k, k ≤ 40 → W40 (low k) := fun k hk => by
    unfold W40
    apply BitVec.eq_of_getLsbD_eq; intro i hi
    rw [BitVec.getLsbD_and, bitM ⟨i, hi⟩, bits k i hi]
    by_cases h : i < k
    · simp [h, show i < 40 by omega]
    · simp [h]
  have key : ∀ k, k ≤ 40 → P (low k) := by
    intro k
    induction k with
    | zero => intro _; show P (BitVec.ofNat 64 (a.toNat % 2 ^ 0)); rw [Nat.pow_zero, Nat.mod_one]; exact h0
    | succ k ih =>
      intro hk
      by_cases hb : a.getLsbD k = true
      · have e : low (k + 1) = low k ^^^ Xn k 1#64 := by
          apply BitVec.eq_of_getLsbD_eq; intro i hi
          rw [BitVec.getLsbD_xor, bits _ _ hi, bits _ _ hi, one_shl ⟨k, by omega⟩, BitVec.getLsbD_shiftLeft]
          by_cases hik : i = k
          · subst hik; simp [hb, hi]
          · by_cases hlt : i < k
            · simp [hlt, show i < k + 1 by omega]
            · have : (1#64 : BitVec 64).getLsbD (i - k) = false := bit1 (by omega)
              simp [hlt, show ¬ i < k + 1 by omega, this]
        rw [e]
        exact hx _ _ (w40l k (by omega)) (w40_Xn w40_one k) (ih (by omega)) (hj k (by omega))
      · have e : low (k + 1) = low k := by
          apply BitVec.eq_of_getLsbD_eq; intro i hi
          rw [bits _ _ hi, bits _ _ hi]
          by_cases hik : i = k
          · subst hik; simp [hb]
          · by_cases hlt : i < k
            · simp [hlt, show i < k + 1 by omega]
            · simp [hlt, show ¬ i < k + 1 by omega]
        rw [e]; exact ih (by omega)
  have e : low 40 = a := by
    apply BitVec.eq_of_getLsbD_eq; intro i hi
    rw [bits 40 i hi]
    have := congrArg (fun x => x.getLsbD i) ha
    simp only [BitVec.getLsbD_and, bitM ⟨i, hi⟩] at this
    rw [← this]
    by_cases h : i < 40 <;> simp [h]
  rw [← e]; exact key 40 (by omega)
theorem times_zero (b : BitVec 64) (k : Nat) : timesF 0#64 b k = 0#64 := by
  induction k with
  | zero => rw [timesF]; rfl
  | succ k ih => rw [timesF_succ _ b k (w40_times b w40_zero k), ih, XF_zero]; unfold selA; split <;> rfl
/-- One times a product is it. -/
theorem one_times {b : BitVec 64} (h : W40 b) : timesF 1#64 b 40 = b := by
  have key : ∀ k, k ≤ 40 → timesF 1#64 b k = b >>> (40 - k) := by
    intro k
    induction k with
    | zero =>
      intro _
      rw [timesF]
      apply BitVec.eq_of_getLsbD_eq; intro i hi
      rw [← h, BitVec.getLsbD_ushiftRight, BitVec.getLsbD_and]
      by_cases h64 : 40 + i < 64
      · rw [bitM ⟨40 + i, h64⟩]; simp
      · rw [BitVec.getLsbD_of_ge b _ (by omega)]; simp
    | succ k ih =>
      intro hk
      rw [timesF_succ _ b k (w40_times b w40_one k), ih (by omega)]
      have h39 : (b >>> (40 - k)) >>> (39 : Nat) &&& 1#64 = 0#64 := by
        apply BitVec.eq_of_getLsbD_eq; intro i hi
        rw [← h, BitVec.getLsbD_and, BitVec.getLsbD_ushiftRight, BitVec.getLsbD_ushiftRight, BitVec.getLsbD_and]
        by_cases h0 : i = 0
        · subst h0
          by_cases h64 : 40 - k + (39 + 0) < 64
          · rw [bitM ⟨_, h64⟩]; simp; omega
          · rw [BitVec.getLsbD_of_ge b _ (by omega)]; simp
        · simp [bit1 h0]
      rw [XF, stepF_sel, h39]
      have e0 : (0#64 : BitVec 64) ^^^ (0 : BitVec 64) = 0#64 := by decide
      rw [e0, show selP 0#64 = 0#64 by decide, BitVec.xor_zero]
      apply BitVec.eq_of_getLsbD_eq; intro i hi
      rw [BitVec.getLsbD_xor, BitVec.getLsbD_and, bitM ⟨i, hi⟩, BitVec.getLsbD_shiftLeft, BitVec.getLsbD_ushiftRight, BitVec.getLsbD_ushiftRight]
      have hs : (selA 1#64 b k).getLsbD i = (decide (i = 0) && b.getLsbD (39 - k)) := by
        unfold selA
        have hb : (b >>> (39 - k) &&& 1#64 == 1#64) = b.getLsbD (39 - k) := by
          rcases and1 (b >>> (39 - k)) with e | e <;> rw [e]
          · have := congrArg (fun x => x.getLsbD 0) e
            simp at this; rw [this]; rfl
          · have := congrArg (fun x => x.getLsbD 0) e
            simp at this; rw [this]; rfl
        rw [hb]
        cases b.getLsbD (39 - k)
        · simp
        · by_cases h0 : i = 0
          · subst h0; simp
          · simp [h0, bit1 h0]
      rw [hs]
      by_cases h0 : i = 0
      · subst h0; simp [show 40 - (k + 1) + 0 = 39 - k by omega]
      · by_cases h40 : i < 40
        · simp [h0, h40, hi, show ¬ i < 1 by omega, show 40 - k + (i - 1) = 40 - (k + 1) + i by omega]
        · have : b.getLsbD (40 - (k + 1) + i) = false := by
            by_cases h64 : 40 - (k + 1) + i < 64
            · rw [← h, BitVec.getLsbD_and, bitM ⟨_, h64⟩]; simp; omega
            · exact BitVec.getLsbD_of_ge _ _ (by omega)
          rw [show 40 - (k + 1) + i = 39 - k + i by omega] at this
          simp [h0, h40, this]
  have := key 40 (by omega)
  rw [this]; simp
theorem times_one {a : BitVec 64} (h : W40 a) : timesF a 1#64 40 = a := by
  refine basis (P := fun a => timesF a 1#64 40 = a) (times_zero _ _) (fun j _ => ?_) (fun a b ha hb h1 h2 => ?_) a h
  · rw [times_Xn _ w40_one, one_times w40_one]
  · show timesF (a ^^^ b) 1#64 40 = _; rw [times_xor _ ha hb, h1, h2]
theorem times_XR {a q : BitVec 64} (h : W40 a) (hq : W40 q) : timesF a (XF q) 40 = XF (timesF a q 40) := by
  refine basis (P := fun a => timesF a (XF q) 40 = XF (timesF a q 40)) ?_ (fun j _ => ?_) (fun a b ha hb h1 h2 => ?_) a h
  · show timesF 0#64 _ 40 = _; rw [times_zero, times_zero, XF_zero]
  · show timesF (Xn j 1#64) _ 40 = _
    rw [times_Xn _ w40_one, times_Xn _ w40_one, one_times (w40_XF _), one_times hq, Xn_comm]
  · show timesF (a ^^^ b) _ 40 = _
    rw [times_xor _ ha hb, times_xor _ ha hb, XF_xor, h1, h2]
/-- A product with a power is a shift. -/
theorem times_pow {a : BitVec 64} (h : W40 a) (m : Nat) : timesF a (Xn m 1#64) 40 = Xn m a := by
  induction m with
  | zero => rw [Xn_zero, Xn_zero]; exact times_one h
  | succ m ih => rw [Xn_succ, times_XR h (w40_Xn w40_one m), ih, Xn_succ]
def joinF (a b : BitVec 64) (n : Nat) : BitVec 64 := Xn (8 * n) (a &&& M40) ^^^ (b &&& M40)
theorem w40_join (a b : BitVec 64) (n : Nat) : W40 (joinF a b n) := w40_xor (w40_Xn (w40_and _) _) (w40_and _)
/-! ### What the program computes -/
theorem and1_nat (m : Nat) (h : m < 2 ^ 63) : binInt .and .i64 (m : Int) 1 = some (.int .i64 ((m % 2 : Nat) : Int)) := by
  rw [and_i64, BitVec.ofInt_natCast, show BitVec.ofInt 64 1 = 1#64 by decide]
  congr 2
  have e : (BitVec.ofNat 64 m &&& 1#64).toNat = m % 2 := by
    rw [BitVec.toNat_and, show (1#64 : BitVec 64).toNat = 1 from rfl, Nat.and_one_is_mod, BitVec.toNat_ofNat, Nat.mod_eq_of_lt (show m < 2 ^ 64 by omega)]
  rw [BitVec.toInt_eq_toNat_of_lt (by rw [e]; omega), e]
theorem shr1_nat (m : Nat) : binShift .shr .i64 (m : Int) 1 = some (.int .i64 ((m / 2 : Nat) : Int)) := by
  simp only [binShift, IntKind.bits]
  have : (m : Int).fdiv (2 ^ min (1 : Int).toNat 64) = ((m / 2 : Nat) : Int) := by
    rw [show min (1 : Int).toNat 64 = 1 by decide, Int.fdiv_eq_ediv_of_nonneg _ (by decide)]; omega
  rw [this]; rfl
def S26 (a b : BitVec 64) (N : Nat) (i : Nat) : St :=
  ⟨[.set 8 (u64 (Xn (8 * 2 ^ i) 1#64)), .set 7 (u64 (Xn (8 * (N % 2 ^ i)) (a &&& M40))), .set 2 (.int .i64 ((N / 2 ^ i : Nat) : Int)), .set 1 (i64 b.toInt)], []⟩
def rounds (N : Nat) : Nat := if N = 0 then 0 else N.log2 + 1
theorem rounds_lt {N i : Nat} (h : i < rounds N) : 0 < N / 2 ^ i := by
  unfold rounds at h
  split at h
  · omega
  · rename_i hN
    have h1 : 2 ^ i ≤ 2 ^ N.log2 := Nat.pow_le_pow_right (by omega) (by omega)
    have h2 := Nat.log2_self_le hN
    exact Nat.div_pos (by omega) (Nat.pow_pos (by omega))
theorem rounds_end (N : Nat) : N < 2 ^ rounds N := by
  unfold rounds
  split
  · rename_i h; rw [h]; decide
  · exact Nat.lt_log2_self
theorem rounds_le {N : Nat} (h : N < 2 ^ 62) : rounds N < 64 := by
  rcases Nat.lt_or_ge (rounds N) 64 with h1 | h1
  · exact h1
  · have := rounds_lt (N := N) (i := 63) (by omega)
    rw [Nat.div_eq_of_lt (by omega)] at this
    omega
theorem pow_dbl (i : Nat) : Xn (8 * 2 ^ i) (Xn (8 * 2 ^ i) 1#64) = Xn (8 * 2 ^ (i + 1)) 1#64 := by
  rw [← Xn_add]; congr 1; rw [Nat.pow_succ]; omega
theorem mod_even {N i : Nat} (h : N / 2 ^ i % 2 = 0) : N % 2 ^ (i + 1) = N % 2 ^ i := by rw [Nat.mod_pow_succ, h]; simp
theorem mod_odd {N i : Nat} (h : N / 2 ^ i % 2 = 1) (a : BitVec 64) : Xn (8 * 2 ^ i) (Xn (8 * (N % 2 ^ i)) a) = Xn (8 * (N % 2 ^ (i + 1))) a := by
  rw [← Xn_add]; congr 1; rw [Nat.mod_pow_succ, h]; omega
theorem div_succ (N i : Nat) : N / 2 ^ i / 2 = N / 2 ^ (i + 1) := by rw [Nat.div_div_eq_div_mul, Nat.pow_succ]
theorem one8 : Xn (8 * 2 ^ 0) 1#64 = 256#64 := by decide
theorem join_ok (d : Nat) (a b : BitVec 64) (N : Nat) (hN : N < 2 ^ 62) : call (gl w) tab (d+2) 26 [i64 a.toInt, i64 b.toInt, .int .i64 (N : Int)] [] = some (i64 (joinF a b N).toInt, [], []) := by
  rw [call_go (fd := fd26) rfl]
  simp only [fd26, m26, go_sem, reduceIte, Nat.reduceEqDiff, Nat.reduceAdd, Nat.reduceSub, Nat.reduceMul, Nat.reduceDiv, Nat.reduceMod, Nat.reduceLT, Nat.reduceLeDiff, Nat.reduceBEq, Nat.reduceBNe, Int.reduceLE, Int.reduceLT, Int.reduceToNat, Int.reduceEq, Int.reduceBEq, Int.reduceBNe, Int.reduceNeg, Int.reduceSub, Int.reduceMul, Int.reduceAdd, BitVec.reduceOfInt, reduceCtorEq, ↓reduceIte, Nat.not_lt_zero]
  rw [iter_to (S26 a b N) (rounds N) (by have := rounds_le hN; unfold LF; omega)]
  · have e1 : N / 2 ^ rounds N = 0 := Nat.div_eq_of_lt (rounds_end N)
    have e2 : N % 2 ^ rounds N = N := Nat.mod_eq_of_lt (rounds_end N)
    simp only [S26, go_sem, reduceIte, Nat.reduceEqDiff, Nat.reduceAdd, Nat.reduceSub, Nat.reduceMul, Nat.reduceDiv, Nat.reduceMod, Nat.reduceLT, Nat.reduceLeDiff, Nat.reduceBEq, Nat.reduceBNe, Int.reduceLE, Int.reduceLT, Int.reduceToNat, Int.reduceEq, Int.reduceBEq, Int.reduceBNe, Int.reduceNeg, Int.reduceSub, Int.reduceMul, Int.reduceAdd, BitVec.reduceOfInt, reduceCtorEq, ↓reduceIte, e1, e2, joinF]
  · simp only [S26, go_sem, reduceIte, Nat.reduceEqDiff, Nat.reduceAdd, Nat.reduceSub, Nat.reduceMul, Nat.reduceDiv, Nat.reduceMod, Nat.reduceLT, Nat.reduceLeDiff, Nat.reduceBEq, Nat.reduceBNe, Int.reduceLE, Int.reduceLT, Int.reduceToNat, Int.reduceEq, Int.reduceBEq, Int.reduceBNe, Int.reduceNeg, Int.reduceSub, Int.reduceMul, Int.reduceAdd, BitVec.reduceOfInt, reduceCtorEq, ↓reduceIte, one8, Nat.pow_zero, Nat.mod_one, Nat.mul_zero, Xn_zero, Nat.div_one]; rfl
  · intro i hi
    have hp := rounds_lt hi
    have hlt : N / 2 ^ i < 2 ^ 63 := Nat.lt_of_le_of_lt (Nat.div_le_self _ _) (by omega)
    have ho := times_pow (w40_Xn (w40_and a) (8 * (N % 2 ^ i))) (8 * 2 ^ i)
    have hq := times_pow (w40_Xn w40_one (8 * 2 ^ i)) (8 * 2 ^ i)
    rcases Nat.mod_two_eq_zero_or_one (N / 2 ^ i) with e | e
    · simp only [S26, go_sem, reduceIte, Nat.reduceEqDiff, Nat.reduceAdd, Nat.reduceSub, Nat.reduceMul, Nat.reduceDiv, Nat.reduceMod, Nat.reduceLT, Nat.reduceLeDiff, Nat.reduceBEq, Nat.reduceBNe, Int.reduceLE, Int.reduceLT, Int.reduceToNat, Int.reduceEq, Int.reduceBEq, Int.reduceBNe, Int.reduceNeg, Int.reduceSub, Int.reduceMul, Int.reduceAdd, BitVec.reduceOfInt, reduceCtorEq, ↓reduceIte, hp, and1_nat _ hlt, shr1_nat, e, times_ok, hq, pow_dbl, mod_even e, div_succ]
    · simp only [S26, go_sem, reduceIte, Nat.reduceEqDiff, Nat.reduceAdd, Nat.reduceSub, Nat.reduceMul, Nat.reduceDiv, Nat.reduceMod, Nat.reduceLT, Nat.reduceLeDiff, Nat.reduceBEq, Nat.reduceBNe, Int.reduceLE, Int.reduceLT, Int.reduceToNat, Int.reduceEq, Int.reduceBEq, Int.reduceBNe, Int.reduceNeg, Int.reduceSub, Int.reduceMul, Int.reduceAdd, BitVec.reduceOfInt, reduceCtorEq, ↓reduceIte, hp, and1_nat _ hlt, shr1_nat, e, times_ok, ho, hq, pow_dbl, mod_odd e, div_succ]
  · have e1 : N / 2 ^ rounds N = 0 := Nat.div_eq_of_lt (rounds_end N)
    simp only [S26, go_sem, reduceIte, Nat.reduceEqDiff, Nat.reduceAdd, Nat.reduceSub, Nat.reduceMul, Nat.reduceDiv, Nat.reduceMod, Nat.reduceLT, Nat.reduceLeDiff, Nat.reduceBEq, Nat.reduceBNe, Int.reduceLE, Int.reduceLT, Int.reduceToNat, Int.reduceEq, Int.reduceBEq, Int.reduceBNe, Int.reduceNeg, Int.reduceSub, Int.reduceMul, Int.reduceAdd, BitVec.reduceOfInt, reduceCtorEq, ↓reduceIte, e1]
theorem join_neg (d : Nat) (a b : BitVec 64) (n : Int) (h : n < 0) : call (gl w) tab (d+2) 26 [i64 a.toInt, i64 b.toInt, .int .i64 n] [] = some (.int .i64 0, [], []) := by
  rw [call_go (fd := fd26) rfl]
  simp only [fd26, m26, go_sem, reduceIte, Nat.reduceEqDiff, Nat.reduceAdd, Nat.reduceSub, Nat.reduceMul, Nat.reduceDiv, Nat.reduceMod, Nat.reduceLT, Nat.reduceLeDiff, Nat.reduceBEq, Nat.reduceBNe, Int.reduceLE, Int.reduceLT, Int.reduceToNat, Int.reduceEq, Int.reduceBEq, Int.reduceBNe, Int.reduceNeg, Int.reduceSub, Int.reduceMul, Int.reduceAdd, BitVec.reduceOfInt, reduceCtorEq, ↓reduceIte, h]
def S27 (a b : BitVec 64) (N : Nat) (i : Nat) : St :=
  ⟨[.set 8 (.int .i64 i), .set 7 (u64 (Xn i (a &&& M40))), .set 2 (.int .i64 (N : Int)), .set 1 (i64 b.toInt)], []⟩
theorem step0 (d : Nat) (r : BitVec 64) : call (gl w) tab (d+1) 40 [u64 r, .int .u64 0] [] = some (u64 (XF r), [], []) := step_ok d r 0#64
theorem rjoin_ok (d : Nat) (a b : BitVec 64) (N : Nat) (hN : N < 2 ^ 40) : call (gl w) tab (d+2) 27 [i64 a.toInt, i64 b.toInt, .int .i64 (N : Int)] [] = some (i64 (joinF a b N).toInt, [], []) := by
  have h8 : IntKind.wrap .i64 (8 * (N : Int)) = ((8 * N : Nat) : Int) := by rw [wrap_i64 (by omega) (by omega)]; omega
  rw [call_go (fd := fd27) rfl]
  simp only [fd27, m27, go_sem, reduceIte, Nat.reduceEqDiff, Nat.reduceAdd, Nat.reduceSub, Nat.reduceMul, Nat.reduceDiv, Nat.reduceMod, Nat.reduceLT, Nat.reduceLeDiff, Nat.reduceBEq, Nat.reduceBNe, Int.reduceLE, Int.reduceLT, Int.reduceToNat, Int.reduceEq, Int.reduceBEq, Int.reduceBNe, Int.reduceNeg, Int.reduceSub, Int.reduceMul, Int.reduceAdd, BitVec.reduceOfInt, reduceCtorEq, ↓reduceIte, Nat.not_lt_zero]
  rw [iter_to (S27 a b N) (8 * N) (by unfold LF; omega)]
  · simp only [S27, go_sem, reduceIte, Nat.reduceEqDiff, Nat.reduceAdd, Nat.reduceSub, Nat.reduceMul, Nat.reduceDiv, Nat.reduceMod, Nat.reduceLT, Nat.reduceLeDiff, Nat.reduceBEq, Nat.reduceBNe, Int.reduceLE, Int.reduceLT, Int.reduceToNat, Int.reduceEq, Int.reduceBEq, Int.reduceBNe, Int.reduceNeg, Int.reduceSub, Int.reduceMul, Int.reduceAdd, BitVec.reduceOfInt, reduceCtorEq, ↓reduceIte, h8, joinF]
  · simp only [S27, go_sem, reduceIte, Nat.reduceEqDiff, Nat.reduceAdd, Nat.reduceSub, Nat.reduceMul, Nat.reduceDiv, Nat.reduceMod, Nat.reduceLT, Nat.reduceLeDiff, Nat.reduceBEq, Nat.reduceBNe, Int.reduceLE, Int.reduceLT, Int.reduceToNat, Int.reduceEq, Int.reduceBEq, Int.reduceBNe, Int.reduceNeg, Int.reduceSub, Int.reduceMul, Int.reduceAdd, BitVec.reduceOfInt, reduceCtorEq, ↓reduceIte, Xn_zero]
  · intro i hi
    simp only [S27, go_sem, reduceIte, Nat.reduceEqDiff, Nat.reduceAdd, Nat.reduceSub, Nat.reduceMul, Nat.reduceDiv, Nat.reduceMod, Nat.reduceLT, Nat.reduceLeDiff, Nat.reduceBEq, Nat.reduceBNe, Int.reduceLE, Int.reduceLT, Int.reduceToNat, Int.reduceEq, Int.reduceBEq, Int.reduceBNe, Int.reduceNeg, Int.reduceSub, Int.reduceMul, Int.reduceAdd, BitVec.reduceOfInt, reduceCtorEq, ↓reduceIte, h8, hi, step0, wrap_succ (show i < 2 ^ 62 by omega), Xn_succ]
  · simp only [S27, go_sem, reduceIte, Nat.reduceEqDiff, Nat.reduceAdd, Nat.reduceSub, Nat.reduceMul, Nat.reduceDiv, Nat.reduceMod, Nat.reduceLT, Nat.reduceLeDiff, Nat.reduceBEq, Nat.reduceBNe, Int.reduceLE, Int.reduceLT, Int.reduceToNat, Int.reduceEq, Int.reduceBEq, Int.reduceBNe, Int.reduceNeg, Int.reduceSub, Int.reduceMul, Int.reduceAdd, BitVec.reduceOfInt, reduceCtorEq, ↓reduceIte, h8]
theorem rjoin_neg (d : Nat) (a b : BitVec 64) (n : Int) (h : n < 0) : call (gl w) tab (d+2) 27 [i64 a.toInt, i64 b.toInt, .int .i64 n] [] = some (.int .i64 0, [], []) := by
  rw [call_go (fd := fd27) rfl]
  simp only [fd27, m27, go_sem, reduceIte, Nat.reduceEqDiff, Nat.reduceAdd, Nat.reduceSub, Nat.reduceMul, Nat.reduceDiv, Nat.reduceMod, Nat.reduceLT, Nat.reduceLeDiff, Nat.reduceBEq, Nat.reduceBNe, Int.reduceLE, Int.reduceLT, Int.reduceToNat, Int.reduceEq, Int.reduceBEq, Int.reduceBNe, Int.reduceNeg, Int.reduceSub, Int.reduceMul, Int.reduceAdd, BitVec.reduceOfInt, reduceCtorEq, ↓reduceIte, h]
end Go.Proofs.S02
