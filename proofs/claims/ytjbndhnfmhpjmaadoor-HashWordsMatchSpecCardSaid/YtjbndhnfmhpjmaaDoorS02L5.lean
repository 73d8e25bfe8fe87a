/-
  The law of the words' check. No condition.
-/
import Derived.Test.YtjbndhnfmhpjmaaDoorS02c
namespace Go.Proofs.S02
open Go Go.Ev Go.Proofs
variable {w : Bool}
set_option linter.unusedSimpArgs false
set_option linter.unusedVariables false
theorem nib15 (r : BitVec 64) (n : BitVec 8) : nibF r (n &&& 15#8) = nibF r n := by unfold nibF; rw [and15]
theorem nib_of {r : BitVec 64} {n m : BitVec 8} (h : n &&& 15#8 = m &&& 15#8) : nibF r n = nibF r m := by rw [← nib15 r n, h, nib15]
theorem bit15_8 : ∀ i : Fin 8, (15#8 : BitVec 8).getLsbD i.val = decide (i.val < 4) := by decide
theorem bit15_64 : ∀ i : Fin 64, (15#64 : BitVec 64).getLsbD i.val = decide (i.val < 4) := by decide
theorem bitM40 : ∀ i : Fin 64, (M40 : BitVec 64).getLsbD i.val = decide (i.val < 40) := by decide
theorem ssr_bit (x : BitVec 64) (s i : Nat) (h : s + i < 64) : (x.sshiftRight s).getLsbD i = x.getLsbD (s + i) := by
  rw [BitVec.getLsbD_sshiftRight]; simp [h, show ¬ 64 ≤ i by omega]
theorem hi_nib (x : BitVec 64) (s : Nat) (h : s ≤ 32) : (((x.sshiftRight (s + 4)) &&& 15#64).setWidth 8) &&& 15#8 = (((x.sshiftRight s).setWidth 8) >>> (4 : Nat)) &&& 15#8 := by
  apply BitVec.eq_of_getLsbD_eq; intro i hi
  simp only [BitVec.getLsbD_and, BitVec.getLsbD_setWidth, BitVec.getLsbD_ushiftRight]
  rw [bit15_8 ⟨i, hi⟩, bit15_64 ⟨i, by omega⟩]
  by_cases h4 : i < 4
  · rw [ssr_bit _ _ _ (by omega), ssr_bit _ _ _ (by omega)]
    simp [h4, show 4 + i < 8 by omega, show i < 8 by omega, Nat.add_assoc]
  · simp [h4]
theorem lo_nib (x : BitVec 64) (s : Nat) (h : s ≤ 32) : (((x.sshiftRight s) &&& 15#64).setWidth 8) &&& 15#8 = ((x.sshiftRight s).setWidth 8) &&& 15#8 := by
  apply BitVec.eq_of_getLsbD_eq; intro i hi
  simp only [BitVec.getLsbD_and, BitVec.getLsbD_setWidth]
  rw [bit15_8 ⟨i, hi⟩, bit15_64 ⟨i, by omega⟩]
  by_cases h4 : i < 4 <;> simp [h4]
theorem and_bit (x M : BitVec 64) (k : Nat) (h : M.getLsbD k = true) : (x &&& M).getLsbD k = x.getLsbD k := by rw [BitVec.getLsbD_and, h, Bool.and_true]
theorem low_nib' (x M : BitVec 64) (hM : ∀ i : Fin 64, M.getLsbD i.val = decide (i.val < 40)) (s : Nat) (h : s ≤ 36) : ((((x &&& M).sshiftRight s) &&& 15#64).setWidth 8) &&& 15#8 = (((x.sshiftRight s) &&& 15#64).setWidth 8) &&& 15#8 := by
  apply BitVec.eq_of_getLsbD_eq; intro i hi
  by_cases h4 : i < 4
  · have e : ((x &&& M).sshiftRight s).getLsbD i = (x.sshiftRight s).getLsbD i := by
      have h40 : s + i < 40 := by omega
      rw [ssr_bit _ _ _ (by omega), ssr_bit _ _ _ (by omega)]
      exact and_bit x M (s + i) ((hM ⟨s + i, by omega⟩).trans (decide_eq_true h40))
    simp only [BitVec.getLsbD_and, BitVec.getLsbD_setWidth] at e ⊢
    rw [e]
  · rw [BitVec.getLsbD_and, BitVec.getLsbD_and, bit15_8 ⟨i, hi⟩]
    simp [h4]
theorem low_nib (x : BitVec 64) (s : Nat) (h : s ≤ 36) : ((((x &&& M40).sshiftRight s) &&& 15#64).setWidth 8) &&& 15#8 = (((x.sshiftRight s) &&& 15#64).setWidth 8) &&& 15#8 := low_nib' x M40 bitM40 s h
theorem word_low (r x : BitVec 64) (k : Nat) : k ≤ 10 → wordF r (x &&& M40) k = wordF r x k := by
  induction k with
  | zero => intro _; simp only [wordF, List.range_zero, List.foldl_nil]
  | succ k ih => intro h; rw [wordF_succ, wordF_succ, ih (by omega)]; exact nib_of (low_nib x (36 - 4 * k) (by omega))
theorem words_low (r : BitVec 64) (l : List (BitVec 64)) : wordsF r (l.map fun x => x &&& M40) = wordsF r l := by
  induction l generalizing r with
  | nil => rfl
  | cons x l ih => show wordsF (wordF r _ 10) _ = wordsF (wordF r x 10) l; rw [word_low r x 10 (by omega)]; exact ih _
theorem word_five (r x : BitVec 64) : ∀ k, k ≤ 5 → wordF r x (2 * k) = addF r (fiveF x k)
  | 0, _ => rfl
  | k + 1, h => by
    rw [show 2 * (k + 1) = 2 * k + 1 + 1 by omega, wordF_succ, wordF_succ, word_five r x k (by omega), fiveF_succ]
    simp only [addF, List.foldl_append, List.foldl_cons, List.foldl_nil]
    have e1 : 36 - 4 * (2 * k) = (32 - 8 * k) + 4 := by omega
    have e2 : 36 - 4 * (2 * k + 1) = 32 - 8 * k := by omega
    rw [e1, e2, nib_of (lo_nib x (32 - 8 * k) (by omega)), nib_of (hi_nib x (32 - 8 * k) (by omega))]
    rfl
theorem addF_app (r : BitVec 64) (a b : List UInt8) : addF r (a ++ b) = addF (addF r a) b := by simp only [addF, List.foldl_append]
theorem words_five (r : BitVec 64) (l : List (BitVec 64)) : wordsF r l = addF r (wbytes l) := by
  induction l generalizing r with
  | nil => rfl
  | cons x l ih =>
    have e : wbytes (x :: l) = fiveF x 5 ++ wbytes l := by simp [wbytes]
    rw [e, addF_app, ← word_five r x 5 (by omega)]
    exact ih _
theorem words_crc (l : List (BitVec 64)) : wordsF M40 l ^^^ M40 = crcF (wbytes l) := by
  rw [words_five, add_ref _ (by unfold W40; decide)]; rfl
theorem words_at {n : Nat} (h : 2 ≤ n) (nb : Bool) {l : List (BitVec 64)} (hl : l.length < 2 ^ 30) : call (gl w) tab n 23 [.lst nb .sc (intsAV l)] [] = some (i64 (crcF (wbytes l)).toInt, [], []) := by
  obtain ⟨d, rfl⟩ := Nat.exists_eq_add_of_le' h
  rw [words_ok d nb l hl, words_crc]
theorem words_at_low {n : Nat} (h : 2 ≤ n) (nb : Bool) {l : List (BitVec 64)} (hl : l.length < 2 ^ 30) : call (gl w) tab n 23 [.lst nb .sc (intsAV (l.map fun x => x &&& M40))] [] = some (i64 (crcF (wbytes l)).toInt, [], []) := by
  obtain ⟨d, rfl⟩ := Nat.exists_eq_add_of_le' h
  rw [words_ok d nb _ (by simpa using hl), words_low, words_crc]
theorem rwords_at {n : Nat} (h : 3 ≤ n) (nb : Bool) {l : List (BitVec 64)} (hl : l.length < 2 ^ 30) : call (gl w) tab n 24 [.lst nb .sc (intsAV l)] [] = some (i64 (crcF (wbytes l)).toInt, [], []) := by
  obtain ⟨d, rfl⟩ := Nat.exists_eq_add_of_le' h
  exact rwords_ok (n := d + 2) (by omega) nb l hl
theorem ints_of : ∀ {l : List AV}, (∀ x ∈ l, HasKd (.int .i64) x) → ∃ b : List (BitVec 64), l = intsAV b
  | [], _ => ⟨[], rfl⟩
  | a :: l, h => by
    obtain ⟨n, rfl, h1, h2⟩ := h a (by simp)
    obtain ⟨b, rfl⟩ := ints_of (l := l) fun x hx => h x (by simp [hx])
    obtain ⟨x, rfl⟩ := int_bv (n := n) (by simpa [IntKind.min, IntKind.signed, IntKind.bits] using h1) (by simpa [IntKind.max, IntKind.signed, IntKind.bits] using h2)
    exact ⟨x :: b, rfl⟩
def lowAV (l : List (BitVec 64)) : List AV := intsAV (l.map fun x => x &&& M40)
theorem lowAV_snoc (l : List (BitVec 64)) (i : Nat) (h : i < l.length) : lowAV (l.take (i + 1)) = lowAV (l.take i) ++ [.int .i64 (l[i] &&& M40).toInt] := by
  rw [List.take_succ_eq_append_getElem h, lowAV, intsAV, List.map_append, List.map_append]; rfl
theorem lowAV_len (l : List (BitVec 64)) : (lowAV l).length = l.length := by simp [lowAV, intsAV]
def S5 (nb : Bool) (l : List (BitVec 64)) (i : Nat) : St :=
  ⟨[.set 5 (.int .i64 i), .set 4 (.sl 5004 [] 0 i), .set 3 (.bool true), .set 0 (.lst nb .sc (intsAV l))], [(5004, .grow .sc (lowAV (l.take i)))]⟩
theorem law5 {n : Nat} (hn : 20 ≤ n) (c15 : call (gl w) tab n 15 [] [] = some (.bool true, [], [])) (ar : List AV) (h : HasKds [.sl (.int .i64)] ar) : call (gl w) tab (n + 1) 5 ar [] = some (.bool true, [], []) := by
  obtain ⟨a, r, rfl, ⟨x, rfl, hx, hb⟩, rfl⟩ := h
  obtain ⟨l, rfl⟩ := ints_of hb
  clear hx hb
  have c16 := @crc_at w n (by omega)
  have c23 := @words_at w n (by omega)
  have c23' := @words_at_low w n (by omega)
  have c24 := @rwords_at w n (by omega)
  have c25 := @rbytes_at w n (by omega)
  rw [call_go (fd := fd5) rfl]
  simp only [Kd.sh, fd5, m5, go_sem, reduceIte, Nat.reduceEqDiff, Nat.reduceAdd, Nat.reduceSub, Nat.reduceMul, Nat.reduceDiv, Nat.reduceMod, Nat.reduceLT, Nat.reduceLeDiff, Nat.reduceBEq, Nat.reduceBNe, Int.reduceLE, Int.reduceLT, Int.reduceToNat, Int.reduceEq, Int.reduceBEq, Int.reduceBNe, Int.reduceNeg, Int.reduceSub, Int.reduceMul, Int.reduceAdd, BitVec.reduceOfInt, reduceCtorEq, ↓reduceIte, c15, intsAV_length]
  by_cases h : 80 < l.length
  · simp only [go_sem, reduceIte, Nat.reduceEqDiff, Nat.reduceAdd, Nat.reduceSub, Nat.reduceMul, Nat.reduceDiv, Nat.reduceMod, Nat.reduceLT, Nat.reduceLeDiff, Nat.reduceBEq, Nat.reduceBNe, Int.reduceLE, Int.reduceLT, Int.reduceToNat, Int.reduceEq, Int.reduceBEq, Int.reduceBNe, Int.reduceNeg, Int.reduceSub, Int.reduceMul, Int.reduceAdd, BitVec.reduceOfInt, reduceCtorEq, ↓reduceIte, h]
  · have hl : l.length < 2 ^ 30 := by omega
    have hw : (wbytes l).length < 2 ^ 36 := by rw [wbytes_len]; omega
    simp only [go_sem, reduceIte, Nat.reduceEqDiff, Nat.reduceAdd, Nat.reduceSub, Nat.reduceMul, Nat.reduceDiv, Nat.reduceMod, Nat.reduceLT, Nat.reduceLeDiff, Nat.reduceBEq, Nat.reduceBNe, Int.reduceLE, Int.reduceLT, Int.reduceToNat, Int.reduceEq, Int.reduceBEq, Int.reduceBNe, Int.reduceNeg, Int.reduceSub, Int.reduceMul, Int.reduceAdd, BitVec.reduceOfInt, reduceCtorEq, ↓reduceIte, h]
    rw [iter_to (S5 false l) l.length (by unfold LF; omega)]
    · have ht : (lowAV l).take l.length = lowAV l := by rw [← lowAV_len, List.take_length]
      simp only [S5, go_sem, reduceIte, Nat.reduceEqDiff, Nat.reduceAdd, Nat.reduceSub, Nat.reduceMul, Nat.reduceDiv, Nat.reduceMod, Nat.reduceLT, Nat.reduceLeDiff, Nat.reduceBEq, Nat.reduceBNe, Int.reduceLE, Int.reduceLT, Int.reduceToNat, Int.reduceEq, Int.reduceBEq, Int.reduceBNe, Int.reduceNeg, Int.reduceSub, Int.reduceMul, Int.reduceAdd, BitVec.reduceOfInt, reduceCtorEq, ↓reduceIte, intsAV_length, List.take_length, c23, hl, c24, lowAV_len, ht]
      simp only [lowAV, go_sem, reduceIte, Nat.reduceEqDiff, Nat.reduceAdd, Nat.reduceSub, Nat.reduceMul, Nat.reduceDiv, Nat.reduceMod, Nat.reduceLT, Nat.reduceLeDiff, Nat.reduceBEq, Nat.reduceBNe, Int.reduceLE, Int.reduceLT, Int.reduceToNat, Int.reduceEq, Int.reduceBEq, Int.reduceBNe, Int.reduceNeg, Int.reduceSub, Int.reduceMul, Int.reduceAdd, BitVec.reduceOfInt, reduceCtorEq, ↓reduceIte, c23', c25, c16, hl, hw]
    · simp only [S5, go_sem, reduceIte, Nat.reduceEqDiff, Nat.reduceAdd, Nat.reduceSub, Nat.reduceMul, Nat.reduceDiv, Nat.reduceMod, Nat.reduceLT, Nat.reduceLeDiff, Nat.reduceBEq, Nat.reduceBNe, Int.reduceLE, Int.reduceLT, Int.reduceToNat, Int.reduceEq, Int.reduceBEq, Int.reduceBNe, Int.reduceNeg, Int.reduceSub, Int.reduceMul, Int.reduceAdd, BitVec.reduceOfInt, reduceCtorEq, ↓reduceIte]; rfl
    · intro i hi
      have hm : (l.take i).length = i := by rw [List.length_take]; omega
      simp only [S5, go_sem, reduceIte, Nat.reduceEqDiff, Nat.reduceAdd, Nat.reduceSub, Nat.reduceMul, Nat.reduceDiv, Nat.reduceMod, Nat.reduceLT, Nat.reduceLeDiff, Nat.reduceBEq, Nat.reduceBNe, Int.reduceLE, Int.reduceLT, Int.reduceToNat, Int.reduceEq, Int.reduceBEq, Int.reduceBNe, Int.reduceNeg, Int.reduceSub, Int.reduceMul, Int.reduceAdd, BitVec.reduceOfInt, reduceCtorEq, ↓reduceIte, hi, intsAV_length, intsAV_get hi, and_i64, lowAV_len, lowAV_snoc _ _ hi, hm, lim_of (show i < 2 ^ 36 by omega), wrap_succ (show i < 2 ^ 62 by omega)]
    · simp only [S5, go_sem, reduceIte, Nat.reduceEqDiff, Nat.reduceAdd, Nat.reduceSub, Nat.reduceMul, Nat.reduceDiv, Nat.reduceMod, Nat.reduceLT, Nat.reduceLeDiff, Nat.reduceBEq, Nat.reduceBNe, Int.reduceLE, Int.reduceLT, Int.reduceToNat, Int.reduceEq, Int.reduceBEq, Int.reduceBNe, Int.reduceNeg, Int.reduceSub, Int.reduceMul, Int.reduceAdd, BitVec.reduceOfInt, reduceCtorEq, ↓reduceIte, intsAV_length]
end Go.Proofs.S02
