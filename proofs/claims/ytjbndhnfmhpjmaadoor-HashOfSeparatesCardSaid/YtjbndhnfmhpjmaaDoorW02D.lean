/-
  The laws of Join. No condition.
-/
import Derived.Test.YtjbndhnfmhpjmaaDoorW02C
namespace Go.Proofs.S02
open Go Go.Ev Go.Proofs
variable {w : Bool}
set_option linter.unusedSimpArgs false
set_option linter.unusedVariables false
theorem join_at {n : Nat} (h : 2 ≤ n) (a b : BitVec 64) {N : Nat} (hN : N < 2 ^ 62) : call (gl w) tab n 26 [i64 a.toInt, i64 b.toInt, .int .i64 (N : Int)] [] = some (i64 (joinF a b N).toInt, [], []) := by
  obtain ⟨d, rfl⟩ := Nat.exists_eq_add_of_le' h
  exact join_ok d a b N hN
theorem rjoin_at {n : Nat} (h : 2 ≤ n) (a b : BitVec 64) {N : Nat} (hN : N < 2 ^ 40) : call (gl w) tab n 27 [i64 a.toInt, i64 b.toInt, .int .i64 (N : Int)] [] = some (i64 (joinF a b N).toInt, [], []) := by
  obtain ⟨d, rfl⟩ := Nat.exists_eq_add_of_le' h
  exact rjoin_ok d a b N hN
theorem joinn_at {n : Nat} (h : 2 ≤ n) (a b : BitVec 64) {m : Int} (hm : m < 0) : call (gl w) tab n 26 [i64 a.toInt, i64 b.toInt, .int .i64 m] [] = some (.int .i64 0, [], []) := by
  obtain ⟨d, rfl⟩ := Nat.exists_eq_add_of_le' h
  exact join_neg d a b m hm
theorem rjoinn_at {n : Nat} (h : 2 ≤ n) (a b : BitVec 64) {m : Int} (hm : m < 0) : call (gl w) tab n 27 [i64 a.toInt, i64 b.toInt, .int .i64 m] [] = some (.int .i64 0, [], []) := by
  obtain ⟨d, rfl⟩ := Nat.exists_eq_add_of_le' h
  exact rjoin_neg d a b m hm
theorem int_of {a : AV} (h : HasKd (.int .i64) a) : ∃ x : BitVec 64, a = .int .i64 x.toInt := by
  obtain ⟨n, rfl, h1, h2⟩ := h
  obtain ⟨x, rfl⟩ := int_bv (n := n) (by simpa [IntKind.min, IntKind.signed, IntKind.bits] using h1) (by simpa [IntKind.max, IntKind.signed, IntKind.bits] using h2)
  exact ⟨x, rfl⟩
theorem law6 {n : Nat} (hn : 20 ≤ n) (c15 : call (gl w) tab n 15 [] [] = some (.bool true, [], [])) (ar : List AV) (h : HasKds [.int .i64, .int .i64, .int .i64] ar) : call (gl w) tab (n + 1) 6 ar [] = some (.bool true, [], []) := by
  obtain ⟨a, r, rfl, ha, b, r, rfl, hb, c, r, rfl, hc, rfl⟩ := h
  obtain ⟨a, rfl⟩ := int_of ha
  obtain ⟨b, rfl⟩ := int_of hb
  obtain ⟨m, rfl, -, -⟩ := hc
  have c26 := @join_at w n (by omega)
  have c27 := @rjoin_at w n (by omega)
  have c26' := @joinn_at w n (by omega)
  have c27' := @rjoinn_at w n (by omega)
  rw [call_go (fd := fd6) rfl]
  by_cases h : (300 : Int) < m
  · simp only [fd6, m6, go_sem, reduceIte, Nat.reduceEqDiff, Nat.reduceAdd, Nat.reduceSub, Nat.reduceMul, Nat.reduceDiv, Nat.reduceMod, Nat.reduceLT, Nat.reduceLeDiff, Nat.reduceBEq, Nat.reduceBNe, Int.reduceLE, Int.reduceLT, Int.reduceToNat, Int.reduceEq, Int.reduceBEq, Int.reduceBNe, Int.reduceNeg, Int.reduceSub, Int.reduceMul, Int.reduceAdd, BitVec.reduceOfInt, reduceCtorEq, ↓reduceIte, c15, h]
  · by_cases h0 : m < 0
    · simp only [fd6, m6, go_sem, reduceIte, Nat.reduceEqDiff, Nat.reduceAdd, Nat.reduceSub, Nat.reduceMul, Nat.reduceDiv, Nat.reduceMod, Nat.reduceLT, Nat.reduceLeDiff, Nat.reduceBEq, Nat.reduceBNe, Int.reduceLE, Int.reduceLT, Int.reduceToNat, Int.reduceEq, Int.reduceBEq, Int.reduceBNe, Int.reduceNeg, Int.reduceSub, Int.reduceMul, Int.reduceAdd, BitVec.reduceOfInt, reduceCtorEq, ↓reduceIte, c15, h, c26' a b h0, c27' a b h0]
    · obtain ⟨N, rfl⟩ : ∃ N : Nat, m = (N : Int) := ⟨m.toNat, by omega⟩
      have h300 : ¬ 300 < N := by omega
      simp only [fd6, m6, go_sem, reduceIte, Nat.reduceEqDiff, Nat.reduceAdd, Nat.reduceSub, Nat.reduceMul, Nat.reduceDiv, Nat.reduceMod, Nat.reduceLT, Nat.reduceLeDiff, Nat.reduceBEq, Nat.reduceBNe, Int.reduceLE, Int.reduceLT, Int.reduceToNat, Int.reduceEq, Int.reduceBEq, Int.reduceBNe, Int.reduceNeg, Int.reduceSub, Int.reduceMul, Int.reduceAdd, BitVec.reduceOfInt, reduceCtorEq, ↓reduceIte, c15, h300, c26 a b (show N < 2 ^ 62 by omega), c27 a b (show N < 2 ^ 40 by omega)]
/-! ### The check of what is put together -/
theorem bits_split (r s : BitVec 64) (b : BitVec 8) : ∀ k, bitsF (r ^^^ s) b k = bitsF r b k ^^^ Xn k s := by
  intro k
  induction k with
  | zero => rw [bitsF, bitsF, Xn_zero]
  | succ k ih => rw [bitsF, bitsF, ih, step_split _ _ (and1 _), Xn_succ]
theorem ref_split (l : List UInt8) : ∀ r s : BitVec 64, refF (r ^^^ s) l = refF r l ^^^ Xn (8 * l.length) s := by
  induction l with
  | nil => intro r s; rw [List.length_nil, Nat.mul_zero, Xn_zero]; rfl
  | cons b l ih =>
    intro r s
    show refF (bitsF (r ^^^ s) _ 8) l = refF (bitsF r _ 8) l ^^^ _
    rw [bits_split, ih, ← Xn_add, List.length_cons, Nat.mul_succ]
theorem refF_app (r : BitVec 64) (a b : List UInt8) : refF r (a ++ b) = refF (refF r a) b := by simp only [refF, List.foldl_append]
theorem w40M : W40 M40 := by unfold W40; decide
theorem xor_M (a : BitVec 64) : a = M40 ^^^ (a ^^^ M40) := by
  rw [BitVec.xor_comm a M40, ← BitVec.xor_assoc, BitVec.xor_self, BitVec.zero_xor]
/-- The check of what is put together is the checks' Join. -/
theorem crc_app (a b : List UInt8) : crcF (a ++ b) = joinF (crcF a) (crcF b) b.length := by
  unfold joinF
  rw [show crcF a &&& M40 = crcF a from w40_crc a, show crcF b &&& M40 = crcF b from w40_crc b]
  unfold crcF
  rw [refF_app]
  conv => lhs; rw [xor_M (refF M40 a), ref_split]
  rw [BitVec.xor_comm (Xn _ _), xrc]
theorem bytesAV_app_len (a b : List UInt8) : bytesAV a ++ bytesAV b = bytesAV (a ++ b) := (bytesAV_append a b).symm
theorem join_join (a b c : BitVec 64) (n m : Nat) (ha : W40 a) (hb : W40 b) (hc : W40 c) : joinF (joinF a b n) c m = joinF a (joinF b c m) (n + m) := by
  rw [joinF, w40_join, joinF, joinF, w40_join, joinF, Xn_xor, ← Xn_add, show 8 * m + 8 * n = 8 * (n + m) by omega, hb, BitVec.xor_assoc]
theorem law7 {n : Nat} (hn : 20 ≤ n) (c15 : call (gl w) tab n 15 [] [] = some (.bool true, [], [])) (ar : List AV) (h : HasKds [.sl (.int .u8), .sl (.int .u8), .sl (.int .u8)] ar) : call (gl w) tab (n + 1) 7 ar [] = some (.bool true, [], []) := by
  obtain ⟨_, _, rfl, ⟨x, rfl, -, ha⟩, _, _, rfl, ⟨y, rfl, -, hb⟩, _, _, rfl, ⟨z, rfl, -, hc⟩, rfl⟩ := h
  obtain ⟨a, rfl⟩ := bytes_of ha
  obtain ⟨b, rfl⟩ := bytes_of hb
  obtain ⟨c, rfl⟩ := bytes_of hc
  clear ha hb hc
  have c16 := @crc_at w n (by omega)
  have c26 := @join_at w n (by omega)
  rw [call_go (fd := fd7) rfl]
  simp only [Kd.sh, fd7, m7, go_sem, reduceIte, Nat.reduceEqDiff, Nat.reduceAdd, Nat.reduceSub, Nat.reduceMul, Nat.reduceDiv, Nat.reduceMod, Nat.reduceLT, Nat.reduceLeDiff, Nat.reduceBEq, Nat.reduceBNe, Int.reduceLE, Int.reduceLT, Int.reduceToNat, Int.reduceEq, Int.reduceBEq, Int.reduceBNe, Int.reduceNeg, Int.reduceSub, Int.reduceMul, Int.reduceAdd, BitVec.reduceOfInt, reduceCtorEq, ↓reduceIte, c15, bytesAV_length]
  by_cases h1 : 400 < a.length
  · simp only [go_sem, reduceIte, Nat.reduceEqDiff, Nat.reduceAdd, Nat.reduceSub, Nat.reduceMul, Nat.reduceDiv, Nat.reduceMod, Nat.reduceLT, Nat.reduceLeDiff, Nat.reduceBEq, Nat.reduceBNe, Int.reduceLE, Int.reduceLT, Int.reduceToNat, Int.reduceEq, Int.reduceBEq, Int.reduceBNe, Int.reduceNeg, Int.reduceSub, Int.reduceMul, Int.reduceAdd, BitVec.reduceOfInt, reduceCtorEq, ↓reduceIte, h1]
  by_cases h2 : 400 < b.length
  · simp only [go_sem, reduceIte, Nat.reduceEqDiff, Nat.reduceAdd, Nat.reduceSub, Nat.reduceMul, Nat.reduceDiv, Nat.reduceMod, Nat.reduceLT, Nat.reduceLeDiff, Nat.reduceBEq, Nat.reduceBNe, Int.reduceLE, Int.reduceLT, Int.reduceToNat, Int.reduceEq, Int.reduceBEq, Int.reduceBNe, Int.reduceNeg, Int.reduceSub, Int.reduceMul, Int.reduceAdd, BitVec.reduceOfInt, reduceCtorEq, ↓reduceIte, h1, h2]
  by_cases h3 : 400 < c.length
  · simp only [go_sem, reduceIte, Nat.reduceEqDiff, Nat.reduceAdd, Nat.reduceSub, Nat.reduceMul, Nat.reduceDiv, Nat.reduceMod, Nat.reduceLT, Nat.reduceLeDiff, Nat.reduceBEq, Nat.reduceBNe, Int.reduceLE, Int.reduceLT, Int.reduceToNat, Int.reduceEq, Int.reduceBEq, Int.reduceBNe, Int.reduceNeg, Int.reduceSub, Int.reduceMul, Int.reduceAdd, BitVec.reduceOfInt, reduceCtorEq, ↓reduceIte, h1, h2, h3]
  have l1 : a.length ≤ LIM := by unfold LIM; omega
  have l2 : a.length + b.length ≤ LIM := by unfold LIM; omega
  have l3 : a.length + b.length + c.length ≤ LIM := by unfold LIM; omega
  have hab : IntKind.wrap .i64 ((b.length : Int) + (c.length : Int)) = ((b.length + c.length : Nat) : Int) := by rw [wrap_i64 (by omega) (by omega)]; omega
  have e1 : joinF (joinF (crcF a) (crcF b) b.length) (crcF c) c.length = crcF (a ++ b ++ c) := by rw [crc_app, crc_app]
  have e2 : joinF (crcF a) (joinF (crcF b) (crcF c) c.length) (b.length + c.length) = crcF (a ++ b ++ c) := by rw [← e1, join_join _ _ _ _ _ (w40_crc a) (w40_crc b) (w40_crc c)]
  have ht : List.take (a.length + b.length + c.length) (bytesAV (a ++ b ++ c)) = bytesAV (a ++ b ++ c) := bytesAV_take' (by simp [Nat.add_assoc])
  have hl : a.length + b.length + c.length < 2 ^ 36 := by omega
  simp only [go_sem, reduceIte, Nat.reduceEqDiff, Nat.reduceAdd, Nat.reduceSub, Nat.reduceMul, Nat.reduceDiv, Nat.reduceMod, Nat.reduceLT, Nat.reduceLeDiff, Nat.reduceBEq, Nat.reduceBNe, Int.reduceLE, Int.reduceLT, Int.reduceToNat, Int.reduceEq, Int.reduceBEq, Int.reduceBNe, Int.reduceNeg, Int.reduceSub, Int.reduceMul, Int.reduceAdd, BitVec.reduceOfInt, reduceCtorEq, ↓reduceIte, h1, h2, h3, l1, l2, l3, bytesAV_length, c16, c26, show a.length < 2 ^ 36 by omega, show b.length < 2 ^ 36 by omega, show c.length < 2 ^ 36 by omega, show b.length < 2 ^ 62 by omega, show c.length < 2 ^ 62 by omega, hab, show b.length + c.length < 2 ^ 62 by omega, e1, e2, bytesAV_app_len, ht, hl]
theorem and_xor3 (a b c : BitVec 64) : (a &&& c) ^^^ (b &&& c) = (a ^^^ b) &&& c := (and_xor a b c).symm
theorem join_shift (a : BitVec 64) (n m : Nat) : joinF (joinF a 0#64 n) 0#64 m = joinF a 0#64 (n + m) := by
  have h0 : (0#64 : BitVec 64) &&& M40 = 0#64 := by decide
  rw [joinF, w40_join, joinF, joinF, h0, BitVec.xor_zero, BitVec.xor_zero, BitVec.xor_zero, ← Xn_add, show 8 * m + 8 * n = 8 * (n + m) by omega]
theorem join_with (a b : BitVec 64) (n : Nat) : joinF a 0#64 n ^^^ (b &&& M40) = joinF a b n := by
  have h0 : (0#64 : BitVec 64) &&& M40 = 0#64 := by decide
  rw [joinF, joinF, h0, BitVec.xor_zero]
theorem join_zero (b : BitVec 64) (n : Nat) : joinF 0#64 b n = b &&& M40 := by
  have h0 : (0#64 : BitVec 64) &&& M40 = 0#64 := by decide
  rw [joinF, h0, Xn_zer, BitVec.zero_xor]
theorem low_int (x : BitVec 64) : (x &&& M40).toInt = (((x &&& M40).toNat : Nat) : Int) := by
  have := w40_lt (w40_and x)
  rw [BitVec.toInt_eq_toNat_of_lt (by omega)]
theorem law8 {n : Nat} (hn : 20 ≤ n) (c15 : call (gl w) tab n 15 [] [] = some (.bool true, [], [])) (ar : List AV) (h : HasKds [.int .i64, .int .i64, .int .i64, .int .i64] ar) : call (gl w) tab (n + 1) 8 ar [] = some (.bool true, [], []) := by
  obtain ⟨a, r, rfl, ha, b, r, rfl, hb, c, r, rfl, hc, d, r, rfl, hd, rfl⟩ := h
  obtain ⟨a, rfl⟩ := int_of ha
  obtain ⟨b, rfl⟩ := int_of hb
  obtain ⟨x, rfl⟩ := int_of hc
  obtain ⟨y, rfl⟩ := int_of hd
  clear ha hb hc hd
  have hN := w40_lt (w40_and x)
  have hM := w40_lt (w40_and y)
  have hx := low_int x
  have hy := low_int y
  generalize (x &&& M40).toNat = N at *
  generalize (y &&& M40).toNat = M at *
  have c26 := @join_at w n (by omega)
  have c26a (a : BitVec 64) {N : Nat} (hN : N < 2 ^ 62) : call (gl w) tab n 26 [i64 a.toInt, .int .i64 0, .int .i64 (N : Int)] [] = some (i64 (joinF a 0#64 N).toInt, [], []) := @join_at w n (by omega) a 0#64 N hN
  have c26b (b : BitVec 64) {N : Nat} (hN : N < 2 ^ 62) : call (gl w) tab n 26 [.int .i64 0, i64 b.toInt, .int .i64 (N : Int)] [] = some (i64 (joinF 0#64 b N).toInt, [], []) := @join_at w n (by omega) 0#64 b N hN
  have hab : IntKind.wrap .i64 ((N : Int) + (M : Int)) = ((N + M : Nat) : Int) := by rw [wrap_i64 (by omega) (by omega)]; omega
  rw [call_go (fd := fd8) rfl]
  simp only [fd8, m8, go_sem, reduceIte, Nat.reduceEqDiff, Nat.reduceAdd, Nat.reduceSub, Nat.reduceMul, Nat.reduceDiv, Nat.reduceMod, Nat.reduceLT, Nat.reduceLeDiff, Nat.reduceBEq, Nat.reduceBNe, Int.reduceLE, Int.reduceLT, Int.reduceToNat, Int.reduceEq, Int.reduceBEq, Int.reduceBNe, Int.reduceNeg, Int.reduceSub, Int.reduceMul, Int.reduceAdd, BitVec.reduceOfInt, reduceCtorEq, ↓reduceIte, c15, and_i64, hx, hy, hab, c26a, c26b, c26, show N + M < 2 ^ 62 by omega, show N < 2 ^ 62 by omega, show M < 2 ^ 62 by omega, join_shift, xor_i64, join_with, join_zero]
end Go.Proofs.S02
namespace Go.Proofs.S02
open Go Go.Ev Go.Proofs
variable {w : Bool}
set_option linter.unusedSimpArgs false
set_option linter.unusedVariables false
theorem noImms_bytesAV : ∀ l : List UInt8, noImms (bytesAV l) = true
  | [] => rfl
  | b :: l => by
    show (noImm (.int .u8 (b.toNat : Int)) && noImms (bytesAV l)) = true
    rw [noImms_bytesAV l]; rfl
def ubx (a b : UInt8) : UInt8 := ⟨a.toBitVec ^^^ b.toBitVec⟩
/-- The bytewise exclusive or, of the first one's length. -/
def xorL : List UInt8 → List UInt8 → List UInt8
  | [], _ => []
  | a :: l, [] => a :: l
  | a :: l, b :: m => ubx a b :: xorL l m
theorem xorL_nil (l : List UInt8) : xorL l [] = l := by cases l <;> rfl
theorem xorL_len : ∀ l m : List UInt8, (xorL l m).length = l.length
  | [], _ => rfl
  | _ :: _, [] => rfl
  | _ :: l, _ :: m => by simp [xorL, xorL_len l m]
theorem xorL_snoc1 : ∀ (l m : List UInt8) (i : Nat) (hi : i < l.length) (hm : i < m.length), (xorL l m).take (i + 1) = (xorL l m).take i ++ [ubx l[i] m[i]]
  | [], _, _, hi, _ => by simp at hi
  | _ :: _, [], _, _, hm => by simp at hm
  | a :: l, b :: m, 0, _, _ => by simp [xorL]
  | a :: l, b :: m, i + 1, hi, hm => by
    have := xorL_snoc1 l m i (by simpa using hi) (by simpa using hm)
    simp [xorL, this]
theorem xorL_snoc2 : ∀ (l m : List UInt8) (i : Nat) (hi : i < l.length), m.length ≤ i → (xorL l m).take (i + 1) = (xorL l m).take i ++ [l[i]]
  | [], _, _, hi, _ => by simp at hi
  | a :: l, [], i, hi, _ => by rw [xorL_nil]; exact List.take_succ_eq_append_getElem hi
  | a :: l, b :: m, 0, _, hm => by simp at hm
  | a :: l, b :: m, i + 1, hi, hm => by
    have := xorL_snoc2 l m i (by simpa using hi) (by simpa using hm)
    simp [xorL, this]
def S28 (na nb : Bool) (l m : List UInt8) (i : Nat) : St :=
  ⟨[.set 6 (.int .i64 i), .set 5 (.sl 5005 [] 0 i), .set 1 (.lst nb .sc (bytesAV m)), .set 0 (.lst na .sc (bytesAV l))], [(5005, .grow .sc (bytesAV ((xorL l m).take i)))]⟩
theorem xor_ok (d : Nat) (na nb : Bool) (l m : List UInt8) (hl : l.length < 2 ^ 36) : call (gl w) tab (d+1) 28 [.lst na .sc (bytesAV l), .lst nb .sc (bytesAV m)] [] = some (.sl 20000 [] 0 l.length, [], [.grow .sc (bytesAV (xorL l m))]) := by
  rw [call_go (fd := fd28) rfl]
  simp only [fd28, m28, go_sem, reduceIte, Nat.reduceEqDiff, Nat.reduceAdd, Nat.reduceSub, Nat.reduceMul, Nat.reduceDiv, Nat.reduceMod, Nat.reduceLT, Nat.reduceLeDiff, Nat.reduceBEq, Nat.reduceBNe, Int.reduceLE, Int.reduceLT, Int.reduceToNat, Int.reduceEq, Int.reduceBEq, Int.reduceBNe, Int.reduceNeg, Int.reduceSub, Int.reduceMul, Int.reduceAdd, BitVec.reduceOfInt, reduceCtorEq, ↓reduceIte]
  rw [iter_to (S28 na nb l m) l.length (by unfold LF; omega)]
  · have ht : (xorL l m).take l.length = xorL l m := by rw [← xorL_len l m, List.take_length]
    simp only [S28, go_sem, reduceIte, Nat.reduceEqDiff, Nat.reduceAdd, Nat.reduceSub, Nat.reduceMul, Nat.reduceDiv, Nat.reduceMod, Nat.reduceLT, Nat.reduceLeDiff, Nat.reduceBEq, Nat.reduceBNe, Int.reduceLE, Int.reduceLT, Int.reduceToNat, Int.reduceEq, Int.reduceBEq, Int.reduceBNe, Int.reduceNeg, Int.reduceSub, Int.reduceMul, Int.reduceAdd, BitVec.reduceOfInt, reduceCtorEq, ↓reduceIte, pack1_own, bytesAV_length, ht, xorL_len, bytesAV_take' (xorL_len l m)]
  · simp only [S28, go_sem, reduceIte, Nat.reduceEqDiff, Nat.reduceAdd, Nat.reduceSub, Nat.reduceMul, Nat.reduceDiv, Nat.reduceMod, Nat.reduceLT, Nat.reduceLeDiff, Nat.reduceBEq, Nat.reduceBNe, Int.reduceLE, Int.reduceLT, Int.reduceToNat, Int.reduceEq, Int.reduceBEq, Int.reduceBNe, Int.reduceNeg, Int.reduceSub, Int.reduceMul, Int.reduceAdd, BitVec.reduceOfInt, reduceCtorEq, ↓reduceIte]; rfl
  · intro i hi
    have hlen : ((xorL l m).take i).length = i := by rw [List.length_take, xorL_len]; omega
    by_cases hm : i < m.length
    · have hs : bytesAV ((xorL l m).take (i + 1)) = bytesAV ((xorL l m).take i) ++ [.int .u8 (((l[i].toBitVec ^^^ m[i].toBitVec).toNat : Nat) : Int)] := by
        rw [xorL_snoc1 l m i hi hm, bytesAV_append]; rfl
      simp only [S28, go_sem, reduceIte, Nat.reduceEqDiff, Nat.reduceAdd, Nat.reduceSub, Nat.reduceMul, Nat.reduceDiv, Nat.reduceMod, Nat.reduceLT, Nat.reduceLeDiff, Nat.reduceBEq, Nat.reduceBNe, Int.reduceLE, Int.reduceLT, Int.reduceToNat, Int.reduceEq, Int.reduceBEq, Int.reduceBNe, Int.reduceNeg, Int.reduceSub, Int.reduceMul, Int.reduceAdd, BitVec.reduceOfInt, reduceCtorEq, ↓reduceIte, hi, hm, bytesAV_length, bytesAV_get hi, bytesAV_get hm, hlen, hs, lim_of (show i < 2 ^ 36 by omega), wrap_succ (show i < 2 ^ 62 by omega)]
    · have hs : bytesAV ((xorL l m).take (i + 1)) = bytesAV ((xorL l m).take i) ++ [.int .u8 ((l[i].toBitVec.toNat : Nat) : Int)] := by
        rw [xorL_snoc2 l m i hi (by omega), bytesAV_append]; rfl
      simp only [S28, go_sem, reduceIte, Nat.reduceEqDiff, Nat.reduceAdd, Nat.reduceSub, Nat.reduceMul, Nat.reduceDiv, Nat.reduceMod, Nat.reduceLT, Nat.reduceLeDiff, Nat.reduceBEq, Nat.reduceBNe, Int.reduceLE, Int.reduceLT, Int.reduceToNat, Int.reduceEq, Int.reduceBEq, Int.reduceBNe, Int.reduceNeg, Int.reduceSub, Int.reduceMul, Int.reduceAdd, BitVec.reduceOfInt, reduceCtorEq, ↓reduceIte, hi, hm, bytesAV_length, bytesAV_get hi, hlen, hs, lim_of (show i < 2 ^ 36 by omega), wrap_succ (show i < 2 ^ 62 by omega)]
  · simp only [S28, go_sem, reduceIte, Nat.reduceEqDiff, Nat.reduceAdd, Nat.reduceSub, Nat.reduceMul, Nat.reduceDiv, Nat.reduceMod, Nat.reduceLT, Nat.reduceLeDiff, Nat.reduceBEq, Nat.reduceBNe, Int.reduceLE, Int.reduceLT, Int.reduceToNat, Int.reduceEq, Int.reduceBEq, Int.reduceBNe, Int.reduceNeg, Int.reduceSub, Int.reduceMul, Int.reduceAdd, BitVec.reduceOfInt, reduceCtorEq, ↓reduceIte, bytesAV_length]
theorem xor_at {n : Nat} (h : 1 ≤ n) (na nb : Bool) {l m : List UInt8} (hl : l.length < 2 ^ 36) : call (gl w) tab n 28 [.lst na .sc (bytesAV l), .lst nb .sc (bytesAV m)] [] = some (.sl 20000 [] 0 l.length, [], [.grow .sc (bytesAV (xorL l m))]) := by
  obtain ⟨d, rfl⟩ := Nat.exists_eq_add_of_le' h
  exact xor_ok d na nb l m hl
/-! ### Linear -/
theorem bitsF_xor (r s : BitVec 64) (a b : BitVec 8) : ∀ k, bitsF (r ^^^ s) (a ^^^ b) k = bitsF r a k ^^^ bitsF s b k := by
  intro k
  induction k with
  | zero => rw [bitsF, bitsF, bitsF]
  | succ k ih => rw [bitsF, bitsF, bitsF, ih, BitVec.setWidth_xor, shr_xor, and_xor, step_xor (and1 _) (and1 _)]
theorem refF_xor : ∀ (l m : List UInt8), l.length = m.length → ∀ r s, refF (r ^^^ s) (xorL l m) = refF r l ^^^ refF s m
  | [], [], _, r, s => rfl
  | [], _ :: _, h, _, _ => by simp at h
  | _ :: _, [], h, _, _ => by simp at h
  | a :: l, b :: m, h, r, s => by
    show refF (bitsF (r ^^^ s) (a.toBitVec ^^^ b.toBitVec) 8) (xorL l m) = refF (bitsF r a.toBitVec 8) l ^^^ refF (bitsF s b.toBitVec 8) m
    rw [bitsF_xor, refF_xor l m (by simpa using h)]
theorem crc_linear (a y z : List UInt8) (h1 : a.length = y.length) (h2 : a.length = z.length) : crcF (xorL (xorL a y) z) = crcF a ^^^ crcF y ^^^ crcF z := by
  have e : (M40 : BitVec 64) = (M40 ^^^ M40) ^^^ M40 := by decide
  unfold crcF
  conv => lhs; rw [e]
  rw [refF_xor _ _ (by rw [xorL_len]; exact h2), refF_xor _ _ h1]
  have e2 : (M40 ^^^ M40) ^^^ M40 = M40 := by decide
  rw [e2]
  generalize refF M40 a = p
  generalize refF M40 y = q
  generalize refF M40 z = r
  have e3 : ∀ p q r m : BitVec 64, p ^^^ m ^^^ (q ^^^ m) ^^^ (r ^^^ m) = (p ^^^ q ^^^ r ^^^ m) ^^^ (m ^^^ m) := by intro p q r m; ac_rfl
  rw [e3, BitVec.xor_self, BitVec.xor_zero]
theorem law9 {n : Nat} (hn : 20 ≤ n) (c15 : call (gl w) tab n 15 [] [] = some (.bool true, [], [])) (ar : List AV) (h : HasKds [.sl (.int .u8), .sl (.int .u8), .sl (.int .u8)] ar) : call (gl w) tab (n + 1) 9 ar [] = some (.bool true, [], []) := by
  obtain ⟨_, _, rfl, ⟨x, rfl, -, ha⟩, _, _, rfl, ⟨y, rfl, -, hb⟩, _, _, rfl, ⟨z, rfl, -, hc⟩, rfl⟩ := h
  obtain ⟨a, rfl⟩ := bytes_of ha
  obtain ⟨b, rfl⟩ := bytes_of hb
  obtain ⟨c, rfl⟩ := bytes_of hc
  clear ha hb hc
  have c16 := @crc_at w n (by omega)
  have c28 := @xor_at w n (by omega)
  rw [call_go (fd := fd9) rfl]
  by_cases h1 : 400 < a.length
  · simp only [Kd.sh, fd9, m9, go_sem, reduceIte, Nat.reduceEqDiff, Nat.reduceAdd, Nat.reduceSub, Nat.reduceMul, Nat.reduceDiv, Nat.reduceMod, Nat.reduceLT, Nat.reduceLeDiff, Nat.reduceBEq, Nat.reduceBNe, Int.reduceLE, Int.reduceLT, Int.reduceToNat, Int.reduceEq, Int.reduceBEq, Int.reduceBNe, Int.reduceNeg, Int.reduceSub, Int.reduceMul, Int.reduceAdd, BitVec.reduceOfInt, reduceCtorEq, ↓reduceIte, c15, bytesAV_length, h1]
  have hz : List.replicate a.length (AV.int .u8 0) = bytesAV (List.replicate a.length 0) := by simp [bytesAV]
  have hzl : (List.replicate a.length (0 : UInt8)).length = a.length := List.length_replicate
  have hL : a.length ≤ LIM := by unfold LIM; omega
  have hl : a.length < 2 ^ 36 := by omega
  have hlz : (List.replicate a.length (0 : UInt8)).length < 2 ^ 36 := by rw [hzl]; omega
  have hlin := crc_linear a (xorL (List.replicate a.length 0) b) (xorL (List.replicate a.length 0) c) (by rw [xorL_len, hzl]) (by rw [xorL_len, hzl])
  have ht : (bytesAV (List.replicate a.length (0 : UInt8))).take a.length = bytesAV (List.replicate a.length 0) := bytesAV_take' hzl
  generalize List.replicate a.length (0 : UInt8) = Z at *
  have ht9 : (bytesAV (xorL Z b)).take a.length = bytesAV (xorL Z b) := bytesAV_take' (by rw [xorL_len, hzl])
  have ht10 : (bytesAV (xorL Z c)).take a.length = bytesAV (xorL Z c) := bytesAV_take' (by rw [xorL_len, hzl])
  have ht11 : (bytesAV (xorL (xorL a (xorL Z b)) (xorL Z c))).take a.length = bytesAV (xorL (xorL a (xorL Z b)) (xorL Z c)) := bytesAV_take' (by rw [xorL_len, xorL_len])
  have ht12 : (bytesAV (xorL a (xorL Z b))).take a.length = bytesAV (xorL a (xorL Z b)) := bytesAV_take' (by rw [xorL_len])
  simp only [Kd.sh, fd9, m9, go_sem, reduceIte, Nat.reduceEqDiff, Nat.reduceAdd, Nat.reduceSub, Nat.reduceMul, Nat.reduceDiv, Nat.reduceMod, Nat.reduceLT, Nat.reduceLeDiff, Nat.reduceBEq, Nat.reduceBNe, Int.reduceLE, Int.reduceLT, Int.reduceToNat, Int.reduceEq, Int.reduceBEq, Int.reduceBNe, Int.reduceNeg, Int.reduceSub, Int.reduceMul, Int.reduceAdd, BitVec.reduceOfInt, reduceCtorEq, ↓reduceIte, noImms_bytesAV, noImmOB, ht9, ht10, ht11, ht12, c15, bytesAV_length, h1, hz, hL, ht, c28, hl, hlz, c16, xorL_len, hzl, xor_i64, hlin]
end Go.Proofs.S02
