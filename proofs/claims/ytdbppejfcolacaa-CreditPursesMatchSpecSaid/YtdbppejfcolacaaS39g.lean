/-
  Chapter 39: the specification's credits dealt and given back; and the program's given back. No condition.
-/
import Derived.Test.YtdbppejfcolacaaS39f
namespace Go.Proofs.S39
open Go Go.Ev Go.Proofs
set_option linter.unusedSimpArgs false
set_option linter.unusedVariables false
set_option linter.unusedSectionVars false
variable {gl : Gl} {n : Nat}
section
variable {c len : Int} {f : Bool} {sh : Sh} {l : List Q4} {w g m : Int} {k : Nat} (hs : Shp l sh) (hl : l.length < 2 ^ 30)
include hs hl
theorem rdeal_inv (h : 5 ≤ n) (hv : ¬ VB c len l) : call gl tab n 14 [bank c len f sh l, i64 w, i64 g, i64 m] [] = some (.agg [bank0, i64 1], [], []) := by
  obtain ⟨d, rfl⟩ := Nat.exists_eq_add_of_le' h
  have c17 := @nvb18 gl (d + 4) (by omega) c len f sh l hs hl hv
  have c43 := @rwindow_at gl (d + 4) (by omega)
  have c44 := @rgate_at gl (d + 4) (by omega)
  simp only [bank] at c17
  rw [call_go (fd := fd14) rfl]
  simp (disch := ((fail_if_success (intro _)); omega)) only [go_sem, reduceIte, Nat.reduceEqDiff, Nat.reduceAdd, Nat.reduceSub, Nat.reduceMul, Nat.reduceDiv, Nat.reduceMod, Nat.reduceLT, Nat.reduceLeDiff, Nat.reduceBEq, Nat.reduceBNe, Int.reduceLE, Int.reduceLT, Int.reduceToNat, Int.reduceEq, Int.reduceBEq, Int.reduceBNe, Int.reduceNeg, Int.reduceSub, Int.reduceMul, Int.reduceAdd, BitVec.reduceOfInt, reduceCtorEq, ↓reduceIte, tn_add, tn_mul, tn_sub, tn_one, tn_zero, w64, ltN_t, ltN_f, leN_t, leN_f, ltI_t, ltI_f, leI_t, leI_f, eqN_t, eqN_f, eqI_t, eqI_f, beq_t, beq_f, bne_t, bne_f, cast_add, fd14, m14, bank, c17, c43, c44, rows_nil]
theorem rdeal_arg (h : 5 ≤ n) (hv : VB c len l) (ha : ¬ DArg w g m) : call gl tab n 14 [bank c len f sh l, i64 w, i64 g, i64 m] [] = some (.agg [bank0, i64 1], [], []) := by
  obtain ⟨d, rfl⟩ := Nat.exists_eq_add_of_le' h
  have c17 := @vb18 gl (d + 4) (by omega) c len f sh l hs hv
  have c43 := @rwindow_at gl (d + 4) (by omega)
  have c44 := @rgate_at gl (d + 4) (by omega)
  simp only [bank] at c17
  rw [call_go (fd := fd14) rfl]
  cases hA : (decide (0 ≤ w) && decide (w ≤ 1099511627776))
  · simp (disch := ((fail_if_success (intro _)); omega)) only [go_sem, reduceIte, Nat.reduceEqDiff, Nat.reduceAdd, Nat.reduceSub, Nat.reduceMul, Nat.reduceDiv, Nat.reduceMod, Nat.reduceLT, Nat.reduceLeDiff, Nat.reduceBEq, Nat.reduceBNe, Int.reduceLE, Int.reduceLT, Int.reduceToNat, Int.reduceEq, Int.reduceBEq, Int.reduceBNe, Int.reduceNeg, Int.reduceSub, Int.reduceMul, Int.reduceAdd, BitVec.reduceOfInt, reduceCtorEq, ↓reduceIte, tn_add, tn_mul, tn_sub, tn_one, tn_zero, w64, ltN_t, ltN_f, leN_t, leN_f, ltI_t, ltI_f, leI_t, leI_f, eqN_t, eqN_f, eqI_t, eqI_f, beq_t, beq_f, bne_t, bne_f, cast_add, fd14, m14, bank, c17, c43, c44, hA, rows_nil]
  cases hB : (decide (1 ≤ g) && decide (g ≤ 1073741824))
  · simp (disch := ((fail_if_success (intro _)); omega)) only [go_sem, reduceIte, Nat.reduceEqDiff, Nat.reduceAdd, Nat.reduceSub, Nat.reduceMul, Nat.reduceDiv, Nat.reduceMod, Nat.reduceLT, Nat.reduceLeDiff, Nat.reduceBEq, Nat.reduceBNe, Int.reduceLE, Int.reduceLT, Int.reduceToNat, Int.reduceEq, Int.reduceBEq, Int.reduceBNe, Int.reduceNeg, Int.reduceSub, Int.reduceMul, Int.reduceAdd, BitVec.reduceOfInt, reduceCtorEq, ↓reduceIte, tn_add, tn_mul, tn_sub, tn_one, tn_zero, w64, ltN_t, ltN_f, leN_t, leN_f, ltI_t, ltI_f, leI_t, leI_f, eqN_t, eqN_f, eqI_t, eqI_f, beq_t, beq_f, bne_t, bne_f, cast_add, fd14, m14, bank, c17, c43, c44, hA, hB, rows_nil]
  simp only [Bool.and_eq_true, decide_eq_true_eq] at hA hB
  obtain ⟨a1, a2⟩ := hA
  obtain ⟨a3, a4⟩ := hB
  by_cases hC : 1 ≤ m
  case neg => simp (disch := ((fail_if_success (intro _)); omega)) only [go_sem, reduceIte, Nat.reduceEqDiff, Nat.reduceAdd, Nat.reduceSub, Nat.reduceMul, Nat.reduceDiv, Nat.reduceMod, Nat.reduceLT, Nat.reduceLeDiff, Nat.reduceBEq, Nat.reduceBNe, Int.reduceLE, Int.reduceLT, Int.reduceToNat, Int.reduceEq, Int.reduceBEq, Int.reduceBNe, Int.reduceNeg, Int.reduceSub, Int.reduceMul, Int.reduceAdd, BitVec.reduceOfInt, reduceCtorEq, ↓reduceIte, tn_add, tn_mul, tn_sub, tn_one, tn_zero, w64, ltN_t, ltN_f, leN_t, leN_f, ltI_t, ltI_f, leI_t, leI_f, eqN_t, eqN_f, eqI_t, eqI_f, beq_t, beq_f, bne_t, bne_f, cast_add, fd14, m14, bank, c17, c43, c44, rows_nil]
  by_cases hD : m ≤ 1073741824
  case neg => simp (disch := ((fail_if_success (intro _)); omega)) only [go_sem, reduceIte, Nat.reduceEqDiff, Nat.reduceAdd, Nat.reduceSub, Nat.reduceMul, Nat.reduceDiv, Nat.reduceMod, Nat.reduceLT, Nat.reduceLeDiff, Nat.reduceBEq, Nat.reduceBNe, Int.reduceLE, Int.reduceLT, Int.reduceToNat, Int.reduceEq, Int.reduceBEq, Int.reduceBNe, Int.reduceNeg, Int.reduceSub, Int.reduceMul, Int.reduceAdd, BitVec.reduceOfInt, reduceCtorEq, ↓reduceIte, tn_add, tn_mul, tn_sub, tn_one, tn_zero, w64, ltN_t, ltN_f, leN_t, leN_f, ltI_t, ltI_f, leI_t, leI_f, eqN_t, eqN_f, eqI_t, eqI_f, beq_t, beq_f, bne_t, bne_f, cast_add, fd14, m14, bank, c17, c43, c44, rows_nil]
  exact absurd ⟨⟨a1, a2⟩, ⟨a3, a4⟩, hC, hD⟩ ha
theorem rdeal_ok (h : 5 ≤ n) (hv : VB c len l) (ha : DArg w g m) (hk : Lb l (key w g) k) (hr : DRoom c l k w g m) :
    call gl tab n 14 [bank c len f sh l, i64 w, i64 g, i64 m] [] = some (.agg [bank c len false sR (putL l k (more l k w g m)), i64 0], [], []) := by
  obtain ⟨d, rfl⟩ := Nat.exists_eq_add_of_le' h
  have hr0 := hv.r
  have hasc := vb_asc hv
  have c17 := @vb18 gl (d + 4) (by omega) c len f sh l hs hv
  have c43 := @rwindow_at gl (d + 4) (by omega)
  have c44 := @rgate_at gl (d + 4) (by omega)
  have c22 := @rout_at gl (d + 4) (by omega) c len f sh l hs w hv
  have c46 := @row_at gl (d + 4) (by omega) c len f sh l hs (by omega) hasc w g k hk
  have c48 := @put_at gl (d + 4) (by omega) c len f sh l hs hl hasc (more l k w g m) k (lb_key hk rfl rfl)
  obtain ⟨e1, e2⟩ := rowOr_key l k w g
  have hbd := rowOr_bd hv k w g
  have hob := out_bd2 (w := w) hv (Nat.le_refl _)
  obtain ⟨⟨a1, a2⟩, ⟨a3, a4⟩, ⟨a5, a6⟩⟩ := ha
  obtain ⟨r1, r2, r3⟩ := hr
  simp only [bank, Q4.av, more, key, e1, e2] at c17 c46 c48 c22 hbd r2 ⊢
  rw [call_go (fd := fd14) rfl]
  by_cases hkn : Kn l k w g
  · have hkn2 : (k < l.length ∧ (at' l k).cmp ⟨w, g, 0, 0⟩ = 0) := hkn
    simp only [hkn2, and_self, decide_true] at c46
    simp (disch := ((fail_if_success (intro _)); omega)) only [go_sem, reduceIte, Nat.reduceEqDiff, Nat.reduceAdd, Nat.reduceSub, Nat.reduceMul, Nat.reduceDiv, Nat.reduceMod, Nat.reduceLT, Nat.reduceLeDiff, Nat.reduceBEq, Nat.reduceBNe, Int.reduceLE, Int.reduceLT, Int.reduceToNat, Int.reduceEq, Int.reduceBEq, Int.reduceBNe, Int.reduceNeg, Int.reduceSub, Int.reduceMul, Int.reduceAdd, BitVec.reduceOfInt, reduceCtorEq, ↓reduceIte, tn_add, tn_mul, tn_sub, tn_one, tn_zero, w64, ltN_t, ltN_f, leN_t, leN_f, ltI_t, ltI_f, leI_t, leI_f, eqN_t, eqN_f, eqI_t, eqI_f, beq_t, beq_f, bne_t, bne_f, cast_add, fd14, m14, c17, c43, c44, c46, c22, rows_length, e1, e2, c48]
  · have hkn2 : ¬ (k < l.length ∧ (at' l k).cmp ⟨w, g, 0, 0⟩ = 0) := hkn
    simp only [hkn2, decide_false] at c46
    have r4 : l.length ≠ 10000 := r3.resolve_left hkn
    simp (disch := ((fail_if_success (intro _)); omega)) only [go_sem, reduceIte, Nat.reduceEqDiff, Nat.reduceAdd, Nat.reduceSub, Nat.reduceMul, Nat.reduceDiv, Nat.reduceMod, Nat.reduceLT, Nat.reduceLeDiff, Nat.reduceBEq, Nat.reduceBNe, Int.reduceLE, Int.reduceLT, Int.reduceToNat, Int.reduceEq, Int.reduceBEq, Int.reduceBNe, Int.reduceNeg, Int.reduceSub, Int.reduceMul, Int.reduceAdd, BitVec.reduceOfInt, reduceCtorEq, ↓reduceIte, tn_add, tn_mul, tn_sub, tn_one, tn_zero, w64, ltN_t, ltN_f, leN_t, leN_f, ltI_t, ltI_f, leI_t, leI_f, eqN_t, eqN_f, eqI_t, eqI_f, beq_t, beq_f, bne_t, bne_f, cast_add, fd14, m14, c17, c43, c44, c46, c22, rows_length, e1, e2, c48]
theorem rdeal_lim (h : 5 ≤ n) (hv : VB c len l) (ha : DArg w g m) (hk : Lb l (key w g) k) (hr : ¬ DRoom c l k w g m) :
    call gl tab n 14 [bank c len f sh l, i64 w, i64 g, i64 m] [] = some (.agg [bank0, i64 2], [], []) := by
  obtain ⟨d, rfl⟩ := Nat.exists_eq_add_of_le' h
  have hr0 := hv.r
  have hasc := vb_asc hv
  have c17 := @vb18 gl (d + 4) (by omega) c len f sh l hs hv
  have c43 := @rwindow_at gl (d + 4) (by omega)
  have c44 := @rgate_at gl (d + 4) (by omega)
  have c22 := @rout_at gl (d + 4) (by omega) c len f sh l hs w hv
  have c46 := @row_at gl (d + 4) (by omega) c len f sh l hs (by omega) hasc w g k hk
  obtain ⟨e1, e2⟩ := rowOr_key l k w g
  have hbd := rowOr_bd hv k w g
  have hob := out_bd2 (w := w) hv (Nat.le_refl _)
  obtain ⟨⟨a1, a2⟩, ⟨a3, a4⟩, ⟨a5, a6⟩⟩ := ha
  have hr2 : ∀ (h1 : outF l w l.length + m ≤ c) (h2 : (rowOr l k (key w g)).d + m ≤ 1099511627776), ¬ Kn l k w g ∧ l.length = 10000 := fun h1 h2 => by
    by_cases h3 : Kn l k w g
    · exact absurd ⟨h1, h2, .inl h3⟩ hr
    · by_cases h4 : l.length = 10000
      · exact ⟨h3, h4⟩
      · exact absurd ⟨h1, h2, .inr h4⟩ hr
  simp only [bank, Q4.av, key, e1, e2] at c17 c46 c22 hbd hr2 ⊢
  rw [call_go (fd := fd14) rfl]
  generalize (rowOr l k ⟨w, g, 0, 0⟩) = q at *
  by_cases h1 : outF l w l.length + m ≤ c
  case neg => simp (disch := ((fail_if_success (intro _)); omega)) only [go_sem, reduceIte, Nat.reduceEqDiff, Nat.reduceAdd, Nat.reduceSub, Nat.reduceMul, Nat.reduceDiv, Nat.reduceMod, Nat.reduceLT, Nat.reduceLeDiff, Nat.reduceBEq, Nat.reduceBNe, Int.reduceLE, Int.reduceLT, Int.reduceToNat, Int.reduceEq, Int.reduceBEq, Int.reduceBNe, Int.reduceNeg, Int.reduceSub, Int.reduceMul, Int.reduceAdd, BitVec.reduceOfInt, reduceCtorEq, ↓reduceIte, tn_add, tn_mul, tn_sub, tn_one, tn_zero, w64, ltN_t, ltN_f, leN_t, leN_f, ltI_t, ltI_f, leI_t, leI_f, eqN_t, eqN_f, eqI_t, eqI_f, beq_t, beq_f, bne_t, bne_f, cast_add, fd14, m14, c17, c43, c44, c46, c22, rows_length, rows_nil]
  by_cases h2 : q.d + m ≤ 1099511627776
  case neg => simp (disch := ((fail_if_success (intro _)); omega)) only [go_sem, reduceIte, Nat.reduceEqDiff, Nat.reduceAdd, Nat.reduceSub, Nat.reduceMul, Nat.reduceDiv, Nat.reduceMod, Nat.reduceLT, Nat.reduceLeDiff, Nat.reduceBEq, Nat.reduceBNe, Int.reduceLE, Int.reduceLT, Int.reduceToNat, Int.reduceEq, Int.reduceBEq, Int.reduceBNe, Int.reduceNeg, Int.reduceSub, Int.reduceMul, Int.reduceAdd, BitVec.reduceOfInt, reduceCtorEq, ↓reduceIte, tn_add, tn_mul, tn_sub, tn_one, tn_zero, w64, ltN_t, ltN_f, leN_t, leN_f, ltI_t, ltI_f, leI_t, leI_f, eqN_t, eqN_f, eqI_t, eqI_f, beq_t, beq_f, bne_t, bne_f, cast_add, fd14, m14, c17, c43, c44, c46, c22, rows_length, rows_nil]
  obtain ⟨h3, h4⟩ := hr2 h1 h2
  have hkn2 : ¬ (k < l.length ∧ (at' l k).cmp ⟨w, g, 0, 0⟩ = 0) := h3
  simp only [hkn2, decide_false] at c46
  simp (disch := ((fail_if_success (intro _)); omega)) only [go_sem, reduceIte, Nat.reduceEqDiff, Nat.reduceAdd, Nat.reduceSub, Nat.reduceMul, Nat.reduceDiv, Nat.reduceMod, Nat.reduceLT, Nat.reduceLeDiff, Nat.reduceBEq, Nat.reduceBNe, Int.reduceLE, Int.reduceLT, Int.reduceToNat, Int.reduceEq, Int.reduceBEq, Int.reduceBNe, Int.reduceNeg, Int.reduceSub, Int.reduceMul, Int.reduceAdd, BitVec.reduceOfInt, reduceCtorEq, ↓reduceIte, tn_add, tn_mul, tn_sub, tn_one, tn_zero, w64, ltN_t, ltN_f, leN_t, leN_f, ltI_t, ltI_f, leI_t, leI_f, eqN_t, eqN_f, eqI_t, eqI_f, beq_t, beq_f, bne_t, bne_f, cast_add, fd14, m14, c17, c43, c44, c46, c22, rows_length, rows_nil]
end
end Go.Proofs.S39
