/-
  The laws of hashes and digests that match the specification. No condition.
-/
import Derived.Test.YtjbndhnfmhpjmaaDoorW02Q
namespace Go.Proofs.S02
open Go Go.Ev Go.Proofs
set_option linter.unusedSimpArgs false
set_option linter.unusedVariables false
theorem eqAll_bytes : ∀ (x y : List UInt8), x.length = y.length → eqAll ((bytesAV x).zip (bytesAV y)) (fun p => eqAV .it p.1 p.2) = some (x == y)
  | [], [], _ => rfl
  | a :: x, b :: y, h => by
    have ih := eqAll_bytes x y (by simpa using h)
    have e : (bytesAV (a :: x)).zip (bytesAV (b :: y)) = (.int .u8 a.toNat, .int .u8 b.toNat) :: (bytesAV x).zip (bytesAV y) := rfl
    rw [e, eqAll, ih, eqAV, if_pos rfl, Option.bind_some, List.cons_beq_cons]
    have hab : ((a.toNat : Int) == (b.toNat : Int)) = (a == b) := by
      rw [Bool.eq_iff_iff, beq_iff_eq, beq_iff_eq, Int.natCast_inj, UInt8.toNat_inj]
    rw [hab]
    cases a == b <;> rfl
  | [], _ :: _, h => by simp at h
  | _ :: _, [], h => by simp at h
theorem eq_bytes {n : Nat} {x y : List UInt8} (hx : x.length = n) (hy : y.length = n) : eqAV (.ar n .it) (.agg (bytesAV x)) (.agg (bytesAV y)) = some (x == y) := by
  rw [eqAV, if_pos ⟨by rw [bytesAV_length, hx], by rw [bytesAV_length, hy]⟩, eqAll_bytes x y (by omega)]
theorem hsum_at {w : Bool} {n : Nat} (h : 6 ≤ n) (nb : Bool) (m : List UInt8) (hm : m.length < 2 ^ 36) : call (gl w) tab n 29 [.lst nb .sc (bytesAV m)] [] = some (.agg (bytesAV (hashL m)), [], []) := by
  obtain ⟨d, rfl⟩ := Nat.exists_eq_add_of_le' (show 1 ≤ n by omega)
  exact hsum_ok (by omega) nb m hm
theorem pof_at {w : Bool} {n : Nat} (h : 6 ≤ n) (t : Int) (nb : Bool) (l : List (List UInt8)) (hl : Sml l) : call (gl w) tab n 34 [.int .i64 t, .lst nb .sc (strsAV l)] [] = some (.agg (bytesAV (dig (inp t l))), [], []) := by
  obtain ⟨d, rfl⟩ := Nat.exists_eq_add_of_le' (show 1 ≤ n by omega)
  exact of_at (by omega) t nb l hl
theorem sof_at {n : Nat} (h : 5 ≤ n) (t : Int) (nb : Bool) (l : List (List UInt8)) (hl : Sml l) : call (gl true) tab n 35 [.int .i64 t, .lst nb .sc (strsAV l)] [] = some (.agg (bytesAV (dig (inp t l))), [], []) := by
  obtain ⟨d, rfl⟩ := Nat.exists_eq_add_of_le' (show 2 ≤ n by omega)
  exact rof_at (by omega) t nb l hl
theorem law11 {n : Nat} (hn : 20 ≤ n) (c15 : call (gl true) tab n 15 [] [] = some (.bool true, [], [])) (ar : List AV) (h : HasKds [.sl (.int .u8)] ar) : call (gl true) tab (n + 1) 11 ar [] = some (.bool true, [], []) := by
  obtain ⟨a, r, rfl, ⟨x, rfl, hx, hb⟩, rfl⟩ := h
  obtain ⟨l, rfl⟩ := bytes_of hb
  rw [bytesAV_length] at hx
  clear hb
  rw [call_go (fd := fd11) rfl]
  by_cases h6 : 600 < l.length
  · simp (disch := ((fail_if_success (intro _)); omega)) only [go_sem, reduceIte, Nat.reduceEqDiff, Nat.reduceAdd, Nat.reduceSub, Nat.reduceMul, Nat.reduceDiv, Nat.reduceMod, Nat.reduceLT, Nat.reduceLeDiff, Nat.reduceBEq, Nat.reduceBNe, Int.reduceLE, Int.reduceLT, Int.reduceToNat, Int.reduceEq, Int.reduceBEq, Int.reduceBNe, Int.reduceNeg, Int.reduceSub, Int.reduceMul, Int.reduceAdd, BitVec.reduceOfInt, reduceCtorEq, ↓reduceIte, tn_add, tn_mul, tn_sub, tn_one, tn_zero, w64, ltN_t, ltN_f, leN_t, leN_f, ltI_t, ltI_f, leI_t, leI_f, eqN_t, eqN_f, eqI_t, eqI_f, beq_t, beq_f, bne_t, bne_f, cast_add, Kd.sh, fd11, m11, c15, bytesAV_length]
  · have c29 := fun nb => @hsum_at true n (by omega) nb l (by omega)
    have c30 := fun nb => @rsum_at n (by omega) nb l (by omega)
    have hl := hashL_len l
    have he := eq_bytes hl hl
    have hL : l.length ≤ LIM := by unfold LIM; omega
    have hbt : bytesAV_take l = bytesAV_take l := rfl
    generalize hashL l = D at *
    simp (disch := ((fail_if_success (intro _)); omega)) only [go_sem, reduceIte, Nat.reduceEqDiff, Nat.reduceAdd, Nat.reduceSub, Nat.reduceMul, Nat.reduceDiv, Nat.reduceMod, Nat.reduceLT, Nat.reduceLeDiff, Nat.reduceBEq, Nat.reduceBNe, Int.reduceLE, Int.reduceLT, Int.reduceToNat, Int.reduceEq, Int.reduceBEq, Int.reduceBNe, Int.reduceNeg, Int.reduceSub, Int.reduceMul, Int.reduceAdd, BitVec.reduceOfInt, reduceCtorEq, ↓reduceIte, tn_add, tn_mul, tn_sub, tn_one, tn_zero, w64, ltN_t, ltN_f, leN_t, leN_f, ltI_t, ltI_f, leI_t, leI_f, eqN_t, eqN_f, eqI_t, eqI_f, beq_t, beq_f, bne_t, bne_f, cast_add, Kd.sh, fd11, m11, c15, c29, c30, bytesAV_length, bytes_all, ↓z32_def, hl, he, hL, noImms_bytesAV]
theorem tag_and (x : BitVec 64) : BitVec.ofInt 8 (x &&& 255#64).toInt = BitVec.ofInt 8 x.toInt := by
  rw [sw8, sw8]
  apply BitVec.eq_of_getLsbD_eq
  intro i hi
  have h255 : ∀ i : Fin 8, (255#64).getLsbD i.val = true := by decide
  rw [BitVec.getLsbD_setWidth, BitVec.getLsbD_and, h255 ⟨i, hi⟩, BitVec.getLsbD_setWidth, Bool.and_true]
theorem inp_tag {t u : Int} (h : BitVec.ofInt 8 t = BitVec.ofInt 8 u) (l : List (List UInt8)) : inp t l = inp u l := by unfold inp; rw [h]
theorem law13 {n : Nat} (hn : 20 ≤ n) (c15 : call (gl true) tab n 15 [] [] = some (.bool true, [], [])) (ar : List AV) (h : HasKds [.int .i64, .sl .str] ar) : call (gl true) tab (n + 1) 13 ar [] = some (.bool true, [], []) := by
  obtain ⟨_, _, rfl, ⟨t, rfl, h1, h2⟩, _, _, rfl, ⟨x, rfl, -, ha⟩, rfl⟩ := h
  obtain ⟨l, rfl⟩ := strs_of ha
  clear ha
  obtain ⟨y, rfl⟩ := int_bv h1 h2
  have c18f := @few_f true n (by omega)
  have c18t := @few_t true n (by omega)
  rw [call_go (fd := fd13) rfl]
  by_cases hf : Few l
  case neg => simp (disch := ((fail_if_success (intro _)); omega)) only [go_sem, reduceIte, Nat.reduceEqDiff, Nat.reduceAdd, Nat.reduceSub, Nat.reduceMul, Nat.reduceDiv, Nat.reduceMod, Nat.reduceLT, Nat.reduceLeDiff, Nat.reduceBEq, Nat.reduceBNe, Int.reduceLE, Int.reduceLT, Int.reduceToNat, Int.reduceEq, Int.reduceBEq, Int.reduceBNe, Int.reduceNeg, Int.reduceSub, Int.reduceMul, Int.reduceAdd, BitVec.reduceOfInt, reduceCtorEq, ↓reduceIte, tn_add, tn_mul, tn_sub, tn_one, tn_zero, w64, ltN_t, ltN_f, leN_t, leN_f, ltI_t, ltI_f, leI_t, leI_f, eqN_t, eqN_f, eqI_t, eqI_f, beq_t, beq_f, bne_t, bne_f, cast_add, Kd.sh, fd13, m13, c15, c18f false hf]
  have c34 := fun t nb => @pof_at true n (by omega) t nb l (few_sml hf)
  have c35 := fun t nb => @sof_at n (by omega) t nb l (few_sml hf)
  have hl := dig_len (inp y.toInt l)
  have he := eq_bytes hl hl
  have hi := inp_tag (tag_and y) l
  have c18 := c18t false hf
  clear c18f c18t hf
  simp (disch := ((fail_if_success (intro _)); omega)) only [go_sem, reduceIte, Nat.reduceEqDiff, Nat.reduceAdd, Nat.reduceSub, Nat.reduceMul, Nat.reduceDiv, Nat.reduceMod, Nat.reduceLT, Nat.reduceLeDiff, Nat.reduceBEq, Nat.reduceBNe, Int.reduceLE, Int.reduceLT, Int.reduceToNat, Int.reduceEq, Int.reduceBEq, Int.reduceBNe, Int.reduceNeg, Int.reduceSub, Int.reduceMul, Int.reduceAdd, BitVec.reduceOfInt, reduceCtorEq, ↓reduceIte, tn_add, tn_mul, tn_sub, tn_one, tn_zero, w64, ltN_t, ltN_f, leN_t, leN_f, ltI_t, ltI_f, leI_t, leI_f, eqN_t, eqN_f, eqI_t, eqI_f, beq_t, beq_f, bne_t, bne_f, cast_add, Kd.sh, fd13, m13, c15, c18, c34, c35, bytesAV_length, bytes_all, ↓out16_def, out16_len, and_i64, hi, hl, he, noImms_bytesAV]
end Go.Proofs.S02
