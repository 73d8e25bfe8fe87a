/-
  The check is linear. No condition.
-/
import Derived.Test.YtjbndhnfmhpjmaaDoorV02L6
namespace Go.Proofs.S02
open Go Go.Ev Go.Proofs
variable {w : Bool}
set_option linter.unusedSimpArgs false
set_option linter.unusedVariables false
theorem pack1_own {hp hp' : Hp} {j k n : Nat} {sh : Sh} : pack1 hp hp' j (.sl k [] 0 n) (.own sh) = (match hp.get k with
    | some (.grow sh' els) => if Sh.beq sh sh' && decide (n = els.length) then some (.sl (20000 + j) [] 0 n, [.grow sh els]) else none
    | _ => none) := rfl
theorem noImms_bytesAV : ∀ l : List UInt8, noImms (bytesAV l) = true
  | [] => rfl
  | b :: l => by
    show (noImm (.int .u8 (b.toNat : Int)) && noImms (bytesAV l)) = true
    rw [noImms_bytesAV l]; rfl
def ubx (a b : UInt8) : UInt8 := ⟨a.toBitVec ^^^ b.toBitVec⟩
/-- The bytewise exclusive or, of the first one's length. -/
def xorL : List UInt8 → List UInt8 → List UInt8
  | [], _ => []
  | a :: l, [] => a :: l
  | a :: l, b :: m => ubx a b :: xorL l m
theorem xorL_nil (l : List UInt8) : xorL l [] = l := by cases l <;> rfl
theorem xorL_len : ∀ l m : List UInt8, (xorL l m).length = l.length
  | [], _ => rfl
  | _ :: _, [] => rfl
  | _ :: l, _ :: m => by simp [xorL, xorL_len l m]
theorem xorL_snoc1 : ∀ (l m : List UInt8) (i : Nat) (hi : i < l.length) (hm : i < m.length), (xorL l m).take (i + 1) = (xorL l m).take i ++ [ubx l[i] m[i]]
  | [], _, _, hi, _ => by simp at hi
  | _ :: _, [], _, _, hm => by simp at hm
  | a :: l, b :: m, 0, _, _ => by simp [xorL]
  | a :: l, b :: m, i + 1, hi, hm => by
    have := xorL_snoc1 l m i (by simpa using hi) (by simpa using hm)
    simp [xorL, this]
theorem xorL_snoc2 : ∀ (l m : List UInt8) (i : Nat) (hi : i < l.length), m.length ≤ i → (xorL l m).take (i + 1) = (xorL l m).take i ++ [l[i]]
  | [], _, _, hi, _ => by simp at hi
  | a :: l, [], i, hi, _ => by rw [xorL_nil]; exact List.take_succ_eq_append_getElem hi
  | a :: l, b :: m, 0, _, hm => by simp at hm
  | a :: l, b :: m, i + 1, hi, hm => by
    have := xorL_snoc2 l m i (by simpa using hi) (by simpa using hm)
    simp [xorL, this]
def S28 (na nb : Bool) (l m : List UInt8) (i : Nat) : St :=
  ⟨[.set 6 (.int .i64 i), .set 5 (.sl 5005 [] 0 i), .set 1 (.lst nb .sc (bytesAV m)), .set 0 (.lst na .sc (bytesAV l))], [(5005, .grow .sc (bytesAV ((xorL l m).take i)))]⟩
theorem xor_ok (d : Nat) (na nb : Bool) (l m : List UInt8) (hl : l.length < 2 ^ 36) : call (gl w) tab (d+1) 28 [.lst na .sc (bytesAV l), .lst nb .sc (bytesAV m)] [] = some (.sl 20000 [] 0 l.length, [], [.grow .sc (bytesAV (xorL l m))]) := by
  rw [call_go (fd := fd28) rfl]
  simp only [fd28, m28, go_sem, reduceIte, Nat.reduceEqDiff, Nat.reduceAdd, Nat.reduceSub, Nat.reduceMul, Nat.reduceDiv, Nat.reduceMod, Nat.reduceLT, Nat.reduceLeDiff, Nat.reduceBEq, Nat.reduceBNe, Int.reduceLE, Int.reduceLT, Int.reduceToNat, Int.reduceEq, Int.reduceBEq, Int.reduceBNe, Int.reduceNeg, Int.reduceSub, Int.reduceMul, Int.reduceAdd, BitVec.reduceOfInt, reduceCtorEq, ↓reduceIte]
  rw [iter_to (S28 na nb l m) l.length (by unfold LF; omega)]
  · have ht : (xorL l m).take l.length = xorL l m := by rw [← xorL_len l m, List.take_length]
    simp only [S28, go_sem, reduceIte, Nat.reduceEqDiff, Nat.reduceAdd, Nat.reduceSub, Nat.reduceMul, Nat.reduceDiv, Nat.reduceMod, Nat.reduceLT, Nat.reduceLeDiff, Nat.reduceBEq, Nat.reduceBNe, Int.reduceLE, Int.reduceLT, Int.reduceToNat, Int.reduceEq, Int.reduceBEq, Int.reduceBNe, Int.reduceNeg, Int.reduceSub, Int.reduceMul, Int.reduceAdd, BitVec.reduceOfInt, reduceCtorEq, ↓reduceIte, pack1_own, bytesAV_length, ht, xorL_len, bytesAV_take' (xorL_len l m)]
  · simp only [S28, go_sem, reduceIte, Nat.reduceEqDiff, Nat.reduceAdd, Nat.reduceSub, Nat.reduceMul, Nat.reduceDiv, Nat.reduceMod, Nat.reduceLT, Nat.reduceLeDiff, Nat.reduceBEq, Nat.reduceBNe, Int.reduceLE, Int.reduceLT, Int.reduceToNat, Int.reduceEq, Int.reduceBEq, Int.reduceBNe, Int.reduceNeg, Int.reduceSub, Int.reduceMul, Int.reduceAdd, BitVec.reduceOfInt, reduceCtorEq, ↓reduceIte]; rfl
  · intro i hi
    have hlen : ((xorL l m).take i).length = i := by rw [List.length_take, xorL_len]; omega
    by_cases hm : i < m.length
    · have hs : bytesAV ((xorL l m).take (i + 1)) = bytesAV ((xorL l m).take i) ++ [.int .u8 (((l[i].toBitVec ^^^ m[i].toBitVec).toNat : Nat) : Int)] := by
        rw [xorL_snoc1 l m i hi hm, bytesAV_append]; rfl
      simp only [S28, go_sem, reduceIte, Nat.reduceEqDiff, Nat.reduceAdd, Nat.reduceSub, Nat.reduceMul, Nat.reduceDiv, Nat.reduceMod, Nat.reduceLT, Nat.reduceLeDiff, Nat.reduceBEq, Nat.reduceBNe, Int.reduceLE, Int.reduceLT, Int.reduceToNat, Int.reduceEq, Int.reduceBEq, Int.reduceBNe, Int.reduceNeg, Int.reduceSub, Int.reduceMul, Int.reduceAdd, BitVec.reduceOfInt, reduceCtorEq, ↓reduceIte, hi, hm, bytesAV_length, bytesAV_get hi, bytesAV_get hm, hlen, hs, lim_of (show i < 2 ^ 36 by omega), wrap_succ (show i < 2 ^ 62 by omega)]
    · have hs : bytesAV ((xorL l m).take (i + 1)) = bytesAV ((xorL l m).take i) ++ [.int .u8 ((l[i].toBitVec.toNat : Nat) : Int)] := by
        rw [xorL_snoc2 l m i hi (by omega), bytesAV_append]; rfl
      simp only [S28, go_sem, reduceIte, Nat.reduceEqDiff, Nat.reduceAdd, Nat.reduceSub, Nat.reduceMul, Nat.reduceDiv, Nat.reduceMod, Nat.reduceLT, Nat.reduceLeDiff, Nat.reduceBEq, Nat.reduceBNe, Int.reduceLE, Int.reduceLT, Int.reduceToNat, Int.reduceEq, Int.reduceBEq, Int.reduceBNe, Int.reduceNeg, Int.reduceSub, Int.reduceMul, Int.reduceAdd, BitVec.reduceOfInt, reduceCtorEq, ↓reduceIte, hi, hm, bytesAV_length, bytesAV_get hi, hlen, hs, lim_of (show i < 2 ^ 36 by omega), wrap_succ (show i < 2 ^ 62 by omega)]
  · simp only [S28, go_sem, reduceIte, Nat.reduceEqDiff, Nat.reduceAdd, Nat.reduceSub, Nat.reduceMul, Nat.reduceDiv, Nat.reduceMod, Nat.reduceLT, Nat.reduceLeDiff, Nat.reduceBEq, Nat.reduceBNe, Int.reduceLE, Int.reduceLT, Int.reduceToNat, Int.reduceEq, Int.reduceBEq, Int.reduceBNe, Int.reduceNeg, Int.reduceSub, Int.reduceMul, Int.reduceAdd, BitVec.reduceOfInt, reduceCtorEq, ↓reduceIte, bytesAV_length]
theorem xor_at {n : Nat} (h : 1 ≤ n) (na nb : Bool) {l m : List UInt8} (hl : l.length < 2 ^ 36) : call (gl w) tab n 28 [.lst na .sc (bytesAV l), .lst nb .sc (bytesAV m)] [] = some (.sl 20000 [] 0 l.length, [], [.grow .sc (bytesAV (xorL l m))]) := by
  obtain ⟨d, rfl⟩ := Nat.exists_eq_add_of_le' h
  exact xor_ok d na nb l m hl
/-! ### Linear -/
theorem bitsF_xor (r s : BitVec 64) (a b : BitVec 8) : ∀ k, bitsF (r ^^^ s) (a ^^^ b) k = bitsF r a k ^^^ bitsF s b k := by
  intro k
  induction k with
  | zero => rw [bitsF, bitsF, bitsF]
  | succ k ih => rw [bitsF, bitsF, bitsF, ih, BitVec.setWidth_xor, shr_xor, and_xor, step_xor (and1 _) (and1 _)]
theorem refF_xor : ∀ (l m : List UInt8), l.length = m.length → ∀ r s, refF (r ^^^ s) (xorL l m) = refF r l ^^^ refF s m
  | [], [], _, r, s => rfl
  | [], _ :: _, h, _, _ => by simp at h
  | _ :: _, [], h, _, _ => by simp at h
  | a :: l, b :: m, h, r, s => by
    show refF (bitsF (r ^^^ s) (a.toBitVec ^^^ b.toBitVec) 8) (xorL l m) = refF (bitsF r a.toBitVec 8) l ^^^ refF (bitsF s b.toBitVec 8) m
    rw [bitsF_xor, refF_xor l m (by simpa using h)]
theorem crc_linear (a y z : List UInt8) (h1 : a.length = y.length) (h2 : a.length = z.length) : crcF (xorL (xorL a y) z) = crcF a ^^^ crcF y ^^^ crcF z := by
  have e : (M40 : BitVec 64) = (M40 ^^^ M40) ^^^ M40 := by decide
  unfold crcF
  conv => lhs; rw [e]
  rw [refF_xor _ _ (by rw [xorL_len]; exact h2), refF_xor _ _ h1]
  have e2 : (M40 ^^^ M40) ^^^ M40 = M40 := by decide
  rw [e2]
  generalize refF M40 a = p
  generalize refF M40 y = q
  generalize refF M40 z = r
  have e3 : ∀ p q r m : BitVec 64, p ^^^ m ^^^ (q ^^^ m) ^^^ (r ^^^ m) = (p ^^^ q ^^^ r ^^^ m) ^^^ (m ^^^ m) := by intro p q r m; ac_rfl
  rw [e3, BitVec.xor_self, BitVec.xor_zero]
theorem law9 {n : Nat} (hn : 20 ≤ n) (c15 : call (gl w) tab n 15 [] [] = some (.bool true, [], [])) (ar : List AV) (h : HasKds [.sl (.int .u8), .sl (.int .u8), .sl (.int .u8)] ar) : call (gl w) tab (n + 1) 9 ar [] = some (.bool true, [], []) := by
  obtain ⟨_, _, rfl, ⟨x, rfl, -, ha⟩, _, _, rfl, ⟨y, rfl, -, hb⟩, _, _, rfl, ⟨z, rfl, -, hc⟩, rfl⟩ := h
  obtain ⟨a, rfl⟩ := bytes_of ha
  obtain ⟨b, rfl⟩ := bytes_of hb
  obtain ⟨c, rfl⟩ := bytes_of hc
  clear ha hb hc
  have c16 := @crc_at w n (by omega)
  have c28 := @xor_at w n (by omega)
  rw [call_go (fd := fd9) rfl]
  by_cases h1 : 400 < a.length
  · simp only [Kd.sh, fd9, m9, go_sem, reduceIte, Nat.reduceEqDiff, Nat.reduceAdd, Nat.reduceSub, Nat.reduceMul, Nat.reduceDiv, Nat.reduceMod, Nat.reduceLT, Nat.reduceLeDiff, Nat.reduceBEq, Nat.reduceBNe, Int.reduceLE, Int.reduceLT, Int.reduceToNat, Int.reduceEq, Int.reduceBEq, Int.reduceBNe, Int.reduceNeg, Int.reduceSub, Int.reduceMul, Int.reduceAdd, BitVec.reduceOfInt, reduceCtorEq, ↓reduceIte, c15, bytesAV_length, h1]
  have hz : List.replicate a.length (AV.int .u8 0) = bytesAV (List.replicate a.length 0) := by simp [bytesAV]
  have hzl : (List.replicate a.length (0 : UInt8)).length = a.length := List.length_replicate
  have hL : a.length ≤ LIM := by unfold LIM; omega
  have hl : a.length < 2 ^ 36 := by omega
  have hlz : (List.replicate a.length (0 : UInt8)).length < 2 ^ 36 := by rw [hzl]; omega
  have hlin := crc_linear a (xorL (List.replicate a.length 0) b) (xorL (List.replicate a.length 0) c) (by rw [xorL_len, hzl]) (by rw [xorL_len, hzl])
  have ht : (bytesAV (List.replicate a.length (0 : UInt8))).take a.length = bytesAV (List.replicate a.length 0) := bytesAV_take' hzl
  generalize List.replicate a.length (0 : UInt8) = Z at *
  have ht9 : (bytesAV (xorL Z b)).take a.length = bytesAV (xorL Z b) := bytesAV_take' (by rw [xorL_len, hzl])
  have ht10 : (bytesAV (xorL Z c)).take a.length = bytesAV (xorL Z c) := bytesAV_take' (by rw [xorL_len, hzl])
  have ht11 : (bytesAV (xorL (xorL a (xorL Z b)) (xorL Z c))).take a.length = bytesAV (xorL (xorL a (xorL Z b)) (xorL Z c)) := bytesAV_take' (by rw [xorL_len, xorL_len])
  have ht12 : (bytesAV (xorL a (xorL Z b))).take a.length = bytesAV (xorL a (xorL Z b)) := bytesAV_take' (by rw [xorL_len])
  simp only [Kd.sh, fd9, m9, go_sem, reduceIte, Nat.reduceEqDiff, Nat.reduceAdd, Nat.reduceSub, Nat.reduceMul, Nat.reduceDiv, Nat.reduceMod, Nat.reduceLT, Nat.reduceLeDiff, Nat.reduceBEq, Nat.reduceBNe, Int.reduceLE, Int.reduceLT, Int.reduceToNat, Int.reduceEq, Int.reduceBEq, Int.reduceBNe, Int.reduceNeg, Int.reduceSub, Int.reduceMul, Int.reduceAdd, BitVec.reduceOfInt, reduceCtorEq, ↓reduceIte, noImms_bytesAV, noImmOB, ht9, ht10, ht11, ht12, c15, bytesAV_length, h1, hz, hL, ht, c28, hl, hlz, c16, xorL_len, hzl, xor_i64, hlin]
end Go.Proofs.S02
