/-
  The check's further functions: what they compute. No condition.
-/
import Derived.Test.YtjbndhnfmhpjmaaDoorV02b
namespace Go.Proofs.S02
open Go Go.Ev Go.Proofs
variable {w : Bool}
set_option linter.unusedSimpArgs false
set_option linter.unusedVariables false
/-- A byte. -/
def ub (b : BitVec 8) : UInt8 := ⟨b⟩
theorem bytesAV_snoc (l : List UInt8) (b : BitVec 8) : bytesAV (l ++ [ub b]) = bytesAV l ++ [.int .u8 (b.toNat : Int)] := by
  simp [bytesAV, ub]
/-! ### Five bytes -/
def fiveF (x : BitVec 64) (k : Nat) : List UInt8 := (List.range k).map fun j => ub ((x.sshiftRight (32 - 8 * j)).setWidth 8)
theorem fiveF_succ (x : BitVec 64) (k : Nat) : fiveF x (k + 1) = fiveF x k ++ [ub ((x.sshiftRight (32 - 8 * k)).setWidth 8)] := by simp [fiveF, List.range_succ]
theorem fiveF_len (x : BitVec 64) (k : Nat) : (fiveF x k).length = k := by simp [fiveF]
def S42 (x : BitVec 64) (k : Nat) : St :=
  ⟨[.set 4 (.int .i64 k), .set 3 (.sl 5003 [] 0 k), .set 0 (i64 x.toInt)], [(5003, .grow .sc (bytesAV (fiveF x k)))]⟩
theorem bytesAV_take' {l : List UInt8} {n : Nat} (h : l.length = n) : (bytesAV l).take n = bytesAV l := by rw [← h, bytesAV_take]
theorem lim_of {n : Nat} (h : n < 2 ^ 36) : n + 1 ≤ LIM := by unfold LIM; omega
theorem five_ok (d : Nat) (x : BitVec 64) : call (gl w) tab (d+1) 42 [i64 x.toInt] [] = some (.lst false .sc (bytesAV (fiveF x 5)), [], []) := by
  rw [call_go (fd := fd42) rfl]
  simp only [fd42, m42, go_sem, reduceIte, Nat.reduceEqDiff, Nat.reduceAdd, Nat.reduceSub, Nat.reduceMul, Nat.reduceDiv, Nat.reduceMod, Nat.reduceLT, Nat.reduceLeDiff, Nat.reduceBEq, Nat.reduceBNe, Int.reduceLE, Int.reduceLT, Int.reduceToNat, Int.reduceEq, Int.reduceBEq, Int.reduceBNe, Int.reduceNeg, Int.reduceSub, Int.reduceMul, Int.reduceAdd, BitVec.reduceOfInt, reduceCtorEq, ↓reduceIte]
  rw [iter_to (S42 x) 5 (by unfold LF; omega)]
  · simp only [S42, go_sem, reduceIte, Nat.reduceEqDiff, Nat.reduceAdd, Nat.reduceSub, Nat.reduceMul, Nat.reduceDiv, Nat.reduceMod, Nat.reduceLT, Nat.reduceLeDiff, Nat.reduceBEq, Nat.reduceBNe, Int.reduceLE, Int.reduceLT, Int.reduceToNat, Int.reduceEq, Int.reduceBEq, Int.reduceBNe, Int.reduceNeg, Int.reduceSub, Int.reduceMul, Int.reduceAdd, BitVec.reduceOfInt, reduceCtorEq, ↓reduceIte, fiveF_len, bytesAV_take' (fiveF_len x 5)]
  · simp only [S42, go_sem, reduceIte, Nat.reduceEqDiff, Nat.reduceAdd, Nat.reduceSub, Nat.reduceMul, Nat.reduceDiv, Nat.reduceMod, Nat.reduceLT, Nat.reduceLeDiff, Nat.reduceBEq, Nat.reduceBNe, Int.reduceLE, Int.reduceLT, Int.reduceToNat, Int.reduceEq, Int.reduceBEq, Int.reduceBNe, Int.reduceNeg, Int.reduceSub, Int.reduceMul, Int.reduceAdd, BitVec.reduceOfInt, reduceCtorEq, ↓reduceIte]; rfl
  · intro k hk
    have hlt2 : ((k : Int) < 5) := by omega
    have hw1 : IntKind.wrap .i64 (8 * (k : Int)) = ((8 * k : Nat) : Int) := by rw [wrap_i64 (by omega) (by omega)]; omega
    have hw : IntKind.wrap .i64 (32 - ((8 * k : Nat) : Int)) = ((32 - 8 * k : Nat) : Int) := by rw [wrap_i64 (by omega) (by omega)]; omega
    simp only [S42, go_sem, reduceIte, Nat.reduceEqDiff, Nat.reduceAdd, Nat.reduceSub, Nat.reduceMul, Nat.reduceDiv, Nat.reduceMod, Nat.reduceLT, Nat.reduceLeDiff, Nat.reduceBEq, Nat.reduceBNe, Int.reduceLE, Int.reduceLT, Int.reduceToNat, Int.reduceEq, Int.reduceBEq, Int.reduceBNe, Int.reduceNeg, Int.reduceSub, Int.reduceMul, Int.reduceAdd, BitVec.reduceOfInt, reduceCtorEq, ↓reduceIte, hk, hw1, hw, wrap_succ (show k < 2 ^ 62 by omega), shr_i64, fiveF_succ, bytesAV_snoc, fiveF_len, lim_of (show k < 2 ^ 36 by omega)]
  · simp only [S42, go_sem, reduceIte, Nat.reduceEqDiff, Nat.reduceAdd, Nat.reduceSub, Nat.reduceMul, Nat.reduceDiv, Nat.reduceMod, Nat.reduceLT, Nat.reduceLeDiff, Nat.reduceBEq, Nat.reduceBNe, Int.reduceLE, Int.reduceLT, Int.reduceToNat, Int.reduceEq, Int.reduceBEq, Int.reduceBNe, Int.reduceNeg, Int.reduceSub, Int.reduceMul, Int.reduceAdd, BitVec.reduceOfInt, reduceCtorEq, ↓reduceIte]
/-! ### The bytes of a list of words -/
def intsAV (l : List (BitVec 64)) : List AV := l.map fun x => .int .i64 x.toInt
theorem intsAV_length (l : List (BitVec 64)) : (intsAV l).length = l.length := by simp [intsAV]
theorem intsAV_get {l : List (BitVec 64)} {i : Nat} (h : i < l.length) : (intsAV l)[i]? = some (.int .i64 l[i].toInt) := by
  rw [intsAV, List.getElem?_map, List.getElem?_eq_getElem h]; rfl
theorem intsAV_take (l : List (BitVec 64)) : (intsAV l).take l.length = intsAV l := by rw [← intsAV_length, List.take_length]
def wbytes (l : List (BitVec 64)) : List UInt8 := (l.map fun x => fiveF x 5).flatten
theorem wbytes_len (l : List (BitVec 64)) : (wbytes l).length = 5 * l.length := by
  induction l with
  | nil => rfl
  | cons x l ih => simp only [wbytes, List.map_cons, List.flatten_cons, List.length_append, fiveF_len, List.length_cons] at *; omega
theorem wbytes_snoc (l : List (BitVec 64)) (i : Nat) (h : i < l.length) : wbytes (l.take (i + 1)) = wbytes (l.take i) ++ fiveF l[i] 5 := by
  unfold wbytes; rw [List.take_succ_eq_append_getElem h, List.map_append, List.flatten_append]; simp only [List.map_cons, List.map_nil, List.flatten_cons, List.flatten_nil, List.append_nil]
theorem bytesAV_append (a b : List UInt8) : bytesAV (a ++ b) = bytesAV a ++ bytesAV b := by simp [bytesAV]
def S25 (nb : Bool) (l : List (BitVec 64)) (i : Nat) : St :=
  ⟨[.set 4 (.int .i64 i), .set 3 (.sl 5003 [] 0 (5 * i)), .set 0 (.lst nb .sc (intsAV l))], [(5003, .grow .sc (bytesAV (wbytes (l.take i))))]⟩
theorem rbytes_ok (d : Nat) (nb : Bool) (l : List (BitVec 64)) (hl : l.length < 2 ^ 30) : call (gl w) tab (d+2) 25 [.lst nb .sc (intsAV l)] [] = some (.lst false .sc (bytesAV (wbytes l)), [], []) := by
  rw [call_go (fd := fd25) rfl]
  simp only [fd25, m25, go_sem, reduceIte, Nat.reduceEqDiff, Nat.reduceAdd, Nat.reduceSub, Nat.reduceMul, Nat.reduceDiv, Nat.reduceMod, Nat.reduceLT, Nat.reduceLeDiff, Nat.reduceBEq, Nat.reduceBNe, Int.reduceLE, Int.reduceLT, Int.reduceToNat, Int.reduceEq, Int.reduceBEq, Int.reduceBNe, Int.reduceNeg, Int.reduceSub, Int.reduceMul, Int.reduceAdd, BitVec.reduceOfInt, reduceCtorEq, ↓reduceIte]
  rw [iter_to (S25 nb l) l.length (by unfold LF; omega)]
  · simp only [S25, go_sem, reduceIte, Nat.reduceEqDiff, Nat.reduceAdd, Nat.reduceSub, Nat.reduceMul, Nat.reduceDiv, Nat.reduceMod, Nat.reduceLT, Nat.reduceLeDiff, Nat.reduceBEq, Nat.reduceBNe, Int.reduceLE, Int.reduceLT, Int.reduceToNat, Int.reduceEq, Int.reduceBEq, Int.reduceBNe, Int.reduceNeg, Int.reduceSub, Int.reduceMul, Int.reduceAdd, BitVec.reduceOfInt, reduceCtorEq, ↓reduceIte, intsAV_length, List.take_length, wbytes_len, bytesAV_take' (wbytes_len l)]
  · simp only [S25, go_sem, reduceIte, Nat.reduceEqDiff, Nat.reduceAdd, Nat.reduceSub, Nat.reduceMul, Nat.reduceDiv, Nat.reduceMod, Nat.reduceLT, Nat.reduceLeDiff, Nat.reduceBEq, Nat.reduceBNe, Int.reduceLE, Int.reduceLT, Int.reduceToNat, Int.reduceEq, Int.reduceBEq, Int.reduceBNe, Int.reduceNeg, Int.reduceSub, Int.reduceMul, Int.reduceAdd, BitVec.reduceOfInt, reduceCtorEq, ↓reduceIte]; rfl
  · intro i hi
    have hm : (l.take i).length = i := by rw [List.length_take]; omega
    have h5 : 5 * i + 5 = 5 * (i + 1) := by omega
    have hle : 5 * (i + 1) ≤ LIM := by unfold LIM; omega
    simp only [S25, go_sem, reduceIte, Nat.reduceEqDiff, Nat.reduceAdd, Nat.reduceSub, Nat.reduceMul, Nat.reduceDiv, Nat.reduceMod, Nat.reduceLT, Nat.reduceLeDiff, Nat.reduceBEq, Nat.reduceBNe, Int.reduceLE, Int.reduceLT, Int.reduceToNat, Int.reduceEq, Int.reduceBEq, Int.reduceBNe, Int.reduceNeg, Int.reduceSub, Int.reduceMul, Int.reduceAdd, BitVec.reduceOfInt, reduceCtorEq, ↓reduceIte, hi, intsAV_length, intsAV_get hi, five_ok, wrap_succ (show i < 2 ^ 62 by omega), wbytes_snoc _ _ hi, bytesAV_append, wbytes_len, hm, fiveF_len, h5, hle, bytesAV_take' (fiveF_len l[i] 5)]
  · simp only [S25, go_sem, reduceIte, Nat.reduceEqDiff, Nat.reduceAdd, Nat.reduceSub, Nat.reduceMul, Nat.reduceDiv, Nat.reduceMod, Nat.reduceLT, Nat.reduceLeDiff, Nat.reduceBEq, Nat.reduceBNe, Int.reduceLE, Int.reduceLT, Int.reduceToNat, Int.reduceEq, Int.reduceBEq, Int.reduceBNe, Int.reduceNeg, Int.reduceSub, Int.reduceMul, Int.reduceAdd, BitVec.reduceOfInt, reduceCtorEq, ↓reduceIte, intsAV_length]
theorem rbytes_at {n : Nat} (h : 2 ≤ n) (nb : Bool) {l : List (BitVec 64)} (hl : l.length < 2 ^ 30) : call (gl w) tab n 25 [.lst nb .sc (intsAV l)] [] = some (.lst false .sc (bytesAV (wbytes l)), [], []) := by
  obtain ⟨d, rfl⟩ := Nat.exists_eq_add_of_le' h
  exact rbytes_ok d nb l hl
theorem rwords_ok {n : Nat} (h : 2 ≤ n) (nb : Bool) (l : List (BitVec 64)) (hl : l.length < 2 ^ 30) : call (gl w) tab (n + 1) 24 [.lst nb .sc (intsAV l)] [] = some (i64 (crcF (wbytes l)).toInt, [], []) := by
  have c25 := @rbytes_at w n h
  have c17 := @cref_at w n h
  have hw : (wbytes l).length < 2 ^ 36 := by rw [wbytes_len]; omega
  rw [call_go (fd := fd24) rfl]
  simp only [fd24, m24, go_sem, reduceIte, Nat.reduceEqDiff, Nat.reduceAdd, Nat.reduceSub, Nat.reduceMul, Nat.reduceDiv, Nat.reduceMod, Nat.reduceLT, Nat.reduceLeDiff, Nat.reduceBEq, Nat.reduceBNe, Int.reduceLE, Int.reduceLT, Int.reduceToNat, Int.reduceEq, Int.reduceBEq, Int.reduceBNe, Int.reduceNeg, Int.reduceSub, Int.reduceMul, Int.reduceAdd, BitVec.reduceOfInt, reduceCtorEq, ↓reduceIte, c25, hl, c17, hw]
/-! ### The program's check of words -/
def wordF (r x : BitVec 64) (k : Nat) : BitVec 64 := (List.range k).foldl (fun r j => nibF r (((x.sshiftRight (36 - 4 * j)) &&& 15#64).setWidth 8)) r
theorem wordF_succ (r x : BitVec 64) (k : Nat) : wordF r x (k + 1) = nibF (wordF r x k) (((x.sshiftRight (36 - 4 * k)) &&& 15#64).setWidth 8) := by
  simp only [wordF, List.range_succ, List.foldl_append, List.foldl_cons, List.foldl_nil]
def wordsF (r : BitVec 64) (l : List (BitVec 64)) : BitVec 64 := l.foldl (fun r x => wordF r x 10) r
theorem wordsF_snoc (r : BitVec 64) (l : List (BitVec 64)) (i : Nat) (h : i < l.length) : wordsF r (l.take (i + 1)) = wordF (wordsF r (l.take i)) l[i] 10 := by
  rw [List.take_succ_eq_append_getElem h]; simp only [wordsF, List.foldl_append, List.foldl_cons, List.foldl_nil]
def cell3 (r : BitVec 64) : Hp := [(3, .fix (.st [.sc]) (.agg [.int .u64 (r.toNat : Int)]))]
def S23 (nb : Bool) (l : List (BitVec 64)) (i : Nat) : St :=
  ⟨[.set 10 (.int .i64 i), .set 9 (.int .i64 l.length), .set 8 (.lst nb .sc (intsAV l)), .set 3 (.ptr 3 [])], cell3 (wordsF M40 (l.take i))⟩
def S23b (nb : Bool) (l : List (BitVec 64)) (i : Nat) (r x : BitVec 64) (k : Nat) : St :=
  ⟨[.set 10 (.int .i64 i), .set 9 (.int .i64 l.length), .set 8 (.lst nb .sc (intsAV l)), .set 6 (.int .i64 (36 - 4 * (k : Int))), .set 5 (i64 x.toInt), .set 3 (.ptr 3 [])], cell3 (wordF r x k)⟩
theorem words_ok (d : Nat) (nb : Bool) (l : List (BitVec 64)) (hl : l.length < 2 ^ 30) : call (gl w) tab (d+2) 23 [.lst nb .sc (intsAV l)] [] = some (i64 (wordsF M40 l ^^^ M40).toInt, [], []) := by
  rw [call_go (fd := fd23) rfl]
  simp only [fd23, m23, go_sem, reduceIte, Nat.reduceEqDiff, Nat.reduceAdd, Nat.reduceSub, Nat.reduceMul, Nat.reduceDiv, Nat.reduceMod, Nat.reduceLT, Nat.reduceLeDiff, Nat.reduceBEq, Nat.reduceBNe, Int.reduceLE, Int.reduceLT, Int.reduceToNat, Int.reduceEq, Int.reduceBEq, Int.reduceBNe, Int.reduceNeg, Int.reduceSub, Int.reduceMul, Int.reduceAdd, BitVec.reduceOfInt, reduceCtorEq, ↓reduceIte, begin_ok]
  rw [iter_to (S23 nb l) l.length (by unfold LF; omega)]
  · simp only [S23, cell3, go_sem, reduceIte, Nat.reduceEqDiff, Nat.reduceAdd, Nat.reduceSub, Nat.reduceMul, Nat.reduceDiv, Nat.reduceMod, Nat.reduceLT, Nat.reduceLeDiff, Nat.reduceBEq, Nat.reduceBNe, Int.reduceLE, Int.reduceLT, Int.reduceToNat, Int.reduceEq, Int.reduceBEq, Int.reduceBNe, Int.reduceNeg, Int.reduceSub, Int.reduceMul, Int.reduceAdd, BitVec.reduceOfInt, reduceCtorEq, ↓reduceIte, List.take_length, value_ok]
  · simp only [S23, cell3, go_sem, reduceIte, Nat.reduceEqDiff, Nat.reduceAdd, Nat.reduceSub, Nat.reduceMul, Nat.reduceDiv, Nat.reduceMod, Nat.reduceLT, Nat.reduceLeDiff, Nat.reduceBEq, Nat.reduceBNe, Int.reduceLE, Int.reduceLT, Int.reduceToNat, Int.reduceEq, Int.reduceBEq, Int.reduceBNe, Int.reduceNeg, Int.reduceSub, Int.reduceMul, Int.reduceAdd, BitVec.reduceOfInt, reduceCtorEq, ↓reduceIte, intsAV_length]; rfl
  · intro i hi
    simp only [S23, cell3, go_sem, reduceIte, Nat.reduceEqDiff, Nat.reduceAdd, Nat.reduceSub, Nat.reduceMul, Nat.reduceDiv, Nat.reduceMod, Nat.reduceLT, Nat.reduceLeDiff, Nat.reduceBEq, Nat.reduceBNe, Int.reduceLE, Int.reduceLT, Int.reduceToNat, Int.reduceEq, Int.reduceBEq, Int.reduceBNe, Int.reduceNeg, Int.reduceSub, Int.reduceMul, Int.reduceAdd, BitVec.reduceOfInt, reduceCtorEq, ↓reduceIte, hi, intsAV_length, intsAV_get hi]
    rw [iter_to (S23b nb l i (wordsF M40 (l.take i)) l[i]) 10 (by unfold LF; omega)]
    · simp only [S23b, cell3, go_sem, reduceIte, Nat.reduceEqDiff, Nat.reduceAdd, Nat.reduceSub, Nat.reduceMul, Nat.reduceDiv, Nat.reduceMod, Nat.reduceLT, Nat.reduceLeDiff, Nat.reduceBEq, Nat.reduceBNe, Int.reduceLE, Int.reduceLT, Int.reduceToNat, Int.reduceEq, Int.reduceBEq, Int.reduceBNe, Int.reduceNeg, Int.reduceSub, Int.reduceMul, Int.reduceAdd, BitVec.reduceOfInt, reduceCtorEq, ↓reduceIte, wrap_succ (show i < 2 ^ 62 by omega), wordsF_snoc _ _ _ hi]
    · simp only [S23b, cell3, go_sem, reduceIte, Nat.reduceEqDiff, Nat.reduceAdd, Nat.reduceSub, Nat.reduceMul, Nat.reduceDiv, Nat.reduceMod, Nat.reduceLT, Nat.reduceLeDiff, Nat.reduceBEq, Nat.reduceBNe, Int.reduceLE, Int.reduceLT, Int.reduceToNat, Int.reduceEq, Int.reduceBEq, Int.reduceBNe, Int.reduceNeg, Int.reduceSub, Int.reduceMul, Int.reduceAdd, BitVec.reduceOfInt, reduceCtorEq, ↓reduceIte]; rfl
    · intro k hk
      have hlt : (0 : Int) ≤ 36 - 4 * (k : Int) := by omega
      have hw : IntKind.wrap .i64 (36 - 4 * (k : Int) - 4) = 36 - 4 * ((k + 1 : Nat) : Int) := by rw [wrap_i64 (by omega) (by omega)]; omega
      have ht : (36 - 4 * (k : Int)).toNat = 36 - 4 * k := by omega
      simp only [S23b, cell3, go_sem, reduceIte, Nat.reduceEqDiff, Nat.reduceAdd, Nat.reduceSub, Nat.reduceMul, Nat.reduceDiv, Nat.reduceMod, Nat.reduceLT, Nat.reduceLeDiff, Nat.reduceBEq, Nat.reduceBNe, Int.reduceLE, Int.reduceLT, Int.reduceToNat, Int.reduceEq, Int.reduceBEq, Int.reduceBNe, Int.reduceNeg, Int.reduceSub, Int.reduceMul, Int.reduceAdd, BitVec.reduceOfInt, reduceCtorEq, ↓reduceIte, hlt, hw, shr_i64, ht, and_i64, nibble_ok, wordF_succ]
    · simp only [S23b, cell3, go_sem, reduceIte, Nat.reduceEqDiff, Nat.reduceAdd, Nat.reduceSub, Nat.reduceMul, Nat.reduceDiv, Nat.reduceMod, Nat.reduceLT, Nat.reduceLeDiff, Nat.reduceBEq, Nat.reduceBNe, Int.reduceLE, Int.reduceLT, Int.reduceToNat, Int.reduceEq, Int.reduceBEq, Int.reduceBNe, Int.reduceNeg, Int.reduceSub, Int.reduceMul, Int.reduceAdd, BitVec.reduceOfInt, reduceCtorEq, ↓reduceIte]
  · simp only [S23, cell3, go_sem, reduceIte, Nat.reduceEqDiff, Nat.reduceAdd, Nat.reduceSub, Nat.reduceMul, Nat.reduceDiv, Nat.reduceMod, Nat.reduceLT, Nat.reduceLeDiff, Nat.reduceBEq, Nat.reduceBNe, Int.reduceLE, Int.reduceLT, Int.reduceToNat, Int.reduceEq, Int.reduceBEq, Int.reduceBNe, Int.reduceNeg, Int.reduceSub, Int.reduceMul, Int.reduceAdd, BitVec.reduceOfInt, reduceCtorEq, ↓reduceIte]
/-! ### Products -/
def XF (r : BitVec 64) : BitVec 64 := stepF r 0
/-- So many rounds of the product: the bits from the highest on. -/
def timesF (a b : BitVec 64) : Nat → BitVec 64
  | 0 => 0
  | k + 1 => (if (timesF a b k <<< (1 : Nat)) >>> (40 : Nat) == 1#64 then (timesF a b k <<< (1 : Nat) &&& M40) ^^^ 0x04820009#64 else timesF a b k <<< (1 : Nat)) ^^^ (if (b >>> (39 - k : Nat) &&& 1#64) == 1#64 then a else 0#64)
def S43 (a b : BitVec 64) (k : Nat) : St :=
  ⟨[.set 6 (.int .i64 (39 - (k : Int))), .set 5 (u64 (timesF a b k)), .set 1 (u64 b), .set 0 (u64 a)], []⟩
theorem nibA_1 : nibA[1]? = some (.int .u64 ((0x04820009#64 : BitVec 64).toNat : Int)) := rfl
theorem beq0_39 (k : Nat) (h : k < 40) : (39 - (k : Int)).toNat = 39 - k := by omega
theorem times_ok (d : Nat) (a b : BitVec 64) : call (gl w) tab (d+1) 43 [u64 a, u64 b] [] = some (u64 (timesF a b 40), [], []) := by
  rw [call_go (fd := fd43) rfl]
  simp only [fd43, m43, go_sem, reduceIte, Nat.reduceEqDiff, Nat.reduceAdd, Nat.reduceSub, Nat.reduceMul, Nat.reduceDiv, Nat.reduceMod, Nat.reduceLT, Nat.reduceLeDiff, Nat.reduceBEq, Nat.reduceBNe, Int.reduceLE, Int.reduceLT, Int.reduceToNat, Int.reduceEq, Int.reduceBEq, Int.reduceBNe, Int.reduceNeg, Int.reduceSub, Int.reduceMul, Int.reduceAdd, BitVec.reduceOfInt, reduceCtorEq, ↓reduceIte]
  rw [iter_to (S43 a b) 40 (by unfold LF; omega)]
  · simp only [S43, go_sem, reduceIte, Nat.reduceEqDiff, Nat.reduceAdd, Nat.reduceSub, Nat.reduceMul, Nat.reduceDiv, Nat.reduceMod, Nat.reduceLT, Nat.reduceLeDiff, Nat.reduceBEq, Nat.reduceBNe, Int.reduceLE, Int.reduceLT, Int.reduceToNat, Int.reduceEq, Int.reduceBEq, Int.reduceBNe, Int.reduceNeg, Int.reduceSub, Int.reduceMul, Int.reduceAdd, BitVec.reduceOfInt, reduceCtorEq, ↓reduceIte]
  · simp only [S43, go_sem, reduceIte, Nat.reduceEqDiff, Nat.reduceAdd, Nat.reduceSub, Nat.reduceMul, Nat.reduceDiv, Nat.reduceMod, Nat.reduceLT, Nat.reduceLeDiff, Nat.reduceBEq, Nat.reduceBNe, Int.reduceLE, Int.reduceLT, Int.reduceToNat, Int.reduceEq, Int.reduceBEq, Int.reduceBNe, Int.reduceNeg, Int.reduceSub, Int.reduceMul, Int.reduceAdd, BitVec.reduceOfInt, reduceCtorEq, ↓reduceIte]; rfl
  · intro k hk
    have hlt : (0 : Int) ≤ 39 - (k : Int) := by omega
    have hw : IntKind.wrap .i64 (39 - (k : Int) - 1) = 39 - ((k + 1 : Nat) : Int) := by rw [wrap_i64 (by omega) (by omega)]; omega
    simp only [S43, go_sem, reduceIte, Nat.reduceEqDiff, Nat.reduceAdd, Nat.reduceSub, Nat.reduceMul, Nat.reduceDiv, Nat.reduceMod, Nat.reduceLT, Nat.reduceLeDiff, Nat.reduceBEq, Nat.reduceBNe, Int.reduceLE, Int.reduceLT, Int.reduceToNat, Int.reduceEq, Int.reduceBEq, Int.reduceBNe, Int.reduceNeg, Int.reduceSub, Int.reduceMul, Int.reduceAdd, BitVec.reduceOfInt, reduceCtorEq, ↓reduceIte, hlt, hw, beq0_39 k hk, gl_1, nibA_1, timesF]
    cases (timesF a b k <<< (1 : Nat)) >>> (40 : Nat) == 1#64 <;> cases hb : (b >>> (39 - k : Nat) &&& 1#64) == 1#64 <;>
      simp only [go_sem, reduceIte, Nat.reduceEqDiff, Nat.reduceAdd, Nat.reduceSub, Nat.reduceMul, Nat.reduceDiv, Nat.reduceMod, Nat.reduceLT, Nat.reduceLeDiff, Nat.reduceBEq, Nat.reduceBNe, Int.reduceLE, Int.reduceLT, Int.reduceToNat, Int.reduceEq, Int.reduceBEq, Int.reduceBNe, Int.reduceNeg, Int.reduceSub, Int.reduceMul, Int.reduceAdd, BitVec.reduceOfInt, reduceCtorEq, ↓reduceIte, hlt, hw, beq0_39 k hk, gl_1, nibA_1, BitVec.xor_zero, hb]
  · simp only [S43, go_sem, reduceIte, Nat.reduceEqDiff, Nat.reduceAdd, Nat.reduceSub, Nat.reduceMul, Nat.reduceDiv, Nat.reduceMod, Nat.reduceLT, Nat.reduceLeDiff, Nat.reduceBEq, Nat.reduceBNe, Int.reduceLE, Int.reduceLT, Int.reduceToNat, Int.reduceEq, Int.reduceBEq, Int.reduceBNe, Int.reduceNeg, Int.reduceSub, Int.reduceMul, Int.reduceAdd, BitVec.reduceOfInt, reduceCtorEq, ↓reduceIte]
end Go.Proofs.S02
