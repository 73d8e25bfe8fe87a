/-
  Chapter 39: credits dealt and given back: the banks behind it. No condition.
-/
import Derived.Test.YtdbppejfcolacaaS39e
namespace Go.Proofs.S39
open Go Go.Ev Go.Proofs
set_option linter.unusedSimpArgs false
set_option linter.unusedVariables false
set_option linter.unusedSectionVars false
variable {gl : Gl} {n : Nat}
/-- What is asked of numbers before credits are dealt. -/
structure DArg (w g m : Int) : Prop where
  w : 0 ≤ w ∧ w ≤ 1099511627776
  g : 1 ≤ g ∧ g ≤ 1073741824
  m : 1 ≤ m ∧ m ≤ 1073741824
/-- There is room. -/
structure DRoom (c : Int) (l : List Q4) (k : Nat) (w g m : Int) : Prop where
  o : outF l w l.length + m ≤ c
  d : (rowOr l k (key w g)).d + m ≤ 1099511627776
  r : Kn l k w g ∨ l.length ≠ 10000
/-- The row with more. -/
def more (l : List Q4) (k : Nat) (w g m : Int) : Q4 := ⟨w, g, (rowOr l k (key w g)).d + m, (rowOr l k (key w g)).b⟩
section
variable {c len : Int} {f : Bool} {sh : Sh} {l : List Q4} {w g m : Int} {k : Nat} (hs : Shp l sh) (hl : l.length < 2 ^ 30)
include hs hl
theorem deal_inv (h : 7 ≤ n) (hv : ¬ VB c len l) : call gl tab n 10 [bank c len f sh l, i64 w, i64 g, i64 m] [] = some (.tup [bank0, i64 1], [], []) := by
  obtain ⟨d, rfl⟩ := Nat.exists_eq_add_of_le' h
  have c17 := @nvb17 gl (d + 6) (by omega) c len f sh l hs hl hv
  have c43 := @isWindow_at gl (d + 6) (by omega)
  have c44 := @isGate_at gl (d + 6) (by omega)
  have c45 := @within_at gl (d + 6) (by omega)
  simp only [bank] at c17
  rw [call_go (fd := fd10) rfl]
  simp (disch := ((fail_if_success (intro _)); omega)) only [go_sem, reduceIte, Nat.reduceEqDiff, Nat.reduceAdd, Nat.reduceSub, Nat.reduceMul, Nat.reduceDiv, Nat.reduceMod, Nat.reduceLT, Nat.reduceLeDiff, Nat.reduceBEq, Nat.reduceBNe, Int.reduceLE, Int.reduceLT, Int.reduceToNat, Int.reduceEq, Int.reduceBEq, Int.reduceBNe, Int.reduceNeg, Int.reduceSub, Int.reduceMul, Int.reduceAdd, BitVec.reduceOfInt, reduceCtorEq, ↓reduceIte, tn_add, tn_mul, tn_sub, tn_one, tn_zero, w64, ltN_t, ltN_f, leN_t, leN_f, ltI_t, ltI_f, leI_t, leI_f, eqN_t, eqN_f, eqI_t, eqI_f, beq_t, beq_f, bne_t, bne_f, cast_add, fd10, m10, bank, c17, c43, c44, c45, rows_nil]
theorem deal_arg (h : 7 ≤ n) (hv : VB c len l) (ha : ¬ DArg w g m) : call gl tab n 10 [bank c len f sh l, i64 w, i64 g, i64 m] [] = some (.tup [bank0, i64 1], [], []) := by
  obtain ⟨d, rfl⟩ := Nat.exists_eq_add_of_le' h
  have c17 := @vb17 gl (d + 6) (by omega) c len f sh l hs hv
  have c43 := @isWindow_at gl (d + 6) (by omega)
  have c44 := @isGate_at gl (d + 6) (by omega)
  have c45 := @within_at gl (d + 6) (by omega)
  simp only [bank] at c17
  rw [call_go (fd := fd10) rfl]
  cases hA : (decide (0 ≤ w) && decide (w ≤ 1099511627776))
  · simp (disch := ((fail_if_success (intro _)); omega)) only [go_sem, reduceIte, Nat.reduceEqDiff, Nat.reduceAdd, Nat.reduceSub, Nat.reduceMul, Nat.reduceDiv, Nat.reduceMod, Nat.reduceLT, Nat.reduceLeDiff, Nat.reduceBEq, Nat.reduceBNe, Int.reduceLE, Int.reduceLT, Int.reduceToNat, Int.reduceEq, Int.reduceBEq, Int.reduceBNe, Int.reduceNeg, Int.reduceSub, Int.reduceMul, Int.reduceAdd, BitVec.reduceOfInt, reduceCtorEq, ↓reduceIte, tn_add, tn_mul, tn_sub, tn_one, tn_zero, w64, ltN_t, ltN_f, leN_t, leN_f, ltI_t, ltI_f, leI_t, leI_f, eqN_t, eqN_f, eqI_t, eqI_f, beq_t, beq_f, bne_t, bne_f, cast_add, fd10, m10, bank, c17, c43, c44, c45, hA, rows_nil]
  cases hB : (decide (1 ≤ g) && decide (g ≤ 1073741824))
  · simp (disch := ((fail_if_success (intro _)); omega)) only [go_sem, reduceIte, Nat.reduceEqDiff, Nat.reduceAdd, Nat.reduceSub, Nat.reduceMul, Nat.reduceDiv, Nat.reduceMod, Nat.reduceLT, Nat.reduceLeDiff, Nat.reduceBEq, Nat.reduceBNe, Int.reduceLE, Int.reduceLT, Int.reduceToNat, Int.reduceEq, Int.reduceBEq, Int.reduceBNe, Int.reduceNeg, Int.reduceSub, Int.reduceMul, Int.reduceAdd, BitVec.reduceOfInt, reduceCtorEq, ↓reduceIte, tn_add, tn_mul, tn_sub, tn_one, tn_zero, w64, ltN_t, ltN_f, leN_t, leN_f, ltI_t, ltI_f, leI_t, leI_f, eqN_t, eqN_f, eqI_t, eqI_f, beq_t, beq_f, bne_t, bne_f, cast_add, fd10, m10, bank, c17, c43, c44, c45, hA, hB, rows_nil]
  cases hC : (decide (1 ≤ m) && decide (m ≤ 1073741824))
  · simp (disch := ((fail_if_success (intro _)); omega)) only [go_sem, reduceIte, Nat.reduceEqDiff, Nat.reduceAdd, Nat.reduceSub, Nat.reduceMul, Nat.reduceDiv, Nat.reduceMod, Nat.reduceLT, Nat.reduceLeDiff, Nat.reduceBEq, Nat.reduceBNe, Int.reduceLE, Int.reduceLT, Int.reduceToNat, Int.reduceEq, Int.reduceBEq, Int.reduceBNe, Int.reduceNeg, Int.reduceSub, Int.reduceMul, Int.reduceAdd, BitVec.reduceOfInt, reduceCtorEq, ↓reduceIte, tn_add, tn_mul, tn_sub, tn_one, tn_zero, w64, ltN_t, ltN_f, leN_t, leN_f, ltI_t, ltI_f, leI_t, leI_f, eqN_t, eqN_f, eqI_t, eqI_f, beq_t, beq_f, bne_t, bne_f, cast_add, fd10, m10, bank, c17, c43, c44, c45, hA, hB, hC, rows_nil]
  simp only [Bool.and_eq_true, decide_eq_true_eq] at hA hB hC
  exact absurd ⟨hA, hB, hC⟩ ha
theorem deal_ok (h : 7 ≤ n) (hv : VB c len l) (ha : DArg w g m) (hk : Lb l (key w g) k) (hr : DRoom c l k w g m) :
    call gl tab n 10 [bank c len f sh l, i64 w, i64 g, i64 m] [] = some (.tup [bank c len false sR (putL l k (more l k w g m)), i64 0], [], []) := by
  obtain ⟨d, rfl⟩ := Nat.exists_eq_add_of_le' h
  have hr0 := hv.r
  have hasc := vb_asc hv
  have c17 := @vb17 gl (d + 6) (by omega) c len f sh l hs hv
  have c43 := @isWindow_at gl (d + 6) (by omega)
  have c44 := @isGate_at gl (d + 6) (by omega)
  have c45 := @within_at gl (d + 6) (by omega)
  have c22 := @out_t gl (d + 6) (by omega) c len f sh l hs w hv
  have c46 := @get_ok gl (d + 6) (by omega) f sh l hs (key w g) (by omega) hasc k hk
  have c48 := @set_ok gl (d + 6) (by omega) f sh l hs (more l k w g m) (by omega) hasc k (lb_key hk rfl rfl)
  have e : (if k < l.length ∧ (at' l k).cmp (key w g) = 0 then (at' l k).av else (key w g).av) = (rowOr l k (key w g)).av := by unfold rowOr; split <;> rfl
  obtain ⟨e1, e2⟩ := rowOr_key l k w g
  have hbd := rowOr_bd hv k w g
  have hob := out_bd2 (w := w) hv (Nat.le_refl _)
  obtain ⟨⟨a1, a2⟩, ⟨a3, a4⟩, ⟨a5, a6⟩⟩ := ha
  obtain ⟨r1, r2, r3⟩ := hr
  rw [e] at c46
  simp only [bank, Q4.av, more, key, e1, e2] at c17 c46 c48 c22 hbd r2 ⊢
  rw [call_go (fd := fd10) rfl]
  by_cases hkn : Kn l k w g
  · have hkn2 : (k < l.length ∧ (at' l k).cmp ⟨w, g, 0, 0⟩ = 0) := hkn
    simp only [hkn2, and_self, decide_true] at c46
    simp (disch := ((fail_if_success (intro _)); omega)) only [go_sem, reduceIte, Nat.reduceEqDiff, Nat.reduceAdd, Nat.reduceSub, Nat.reduceMul, Nat.reduceDiv, Nat.reduceMod, Nat.reduceLT, Nat.reduceLeDiff, Nat.reduceBEq, Nat.reduceBNe, Int.reduceLE, Int.reduceLT, Int.reduceToNat, Int.reduceEq, Int.reduceBEq, Int.reduceBNe, Int.reduceNeg, Int.reduceSub, Int.reduceMul, Int.reduceAdd, BitVec.reduceOfInt, reduceCtorEq, ↓reduceIte, tn_add, tn_mul, tn_sub, tn_one, tn_zero, w64, ltN_t, ltN_f, leN_t, leN_f, ltI_t, ltI_f, leI_t, leI_f, eqN_t, eqN_f, eqI_t, eqI_f, beq_t, beq_f, bne_t, bne_f, cast_add, fd10, m10, c17, c43, c44, c45, c46, c22, rows_length, e1, e2, c48, rows_take', noImms_rows]
  · have hkn2 : ¬ (k < l.length ∧ (at' l k).cmp ⟨w, g, 0, 0⟩ = 0) := hkn
    simp only [hkn2, decide_false] at c46
    have r4 : l.length ≠ 10000 := r3.resolve_left hkn
    simp (disch := ((fail_if_success (intro _)); omega)) only [go_sem, reduceIte, Nat.reduceEqDiff, Nat.reduceAdd, Nat.reduceSub, Nat.reduceMul, Nat.reduceDiv, Nat.reduceMod, Nat.reduceLT, Nat.reduceLeDiff, Nat.reduceBEq, Nat.reduceBNe, Int.reduceLE, Int.reduceLT, Int.reduceToNat, Int.reduceEq, Int.reduceBEq, Int.reduceBNe, Int.reduceNeg, Int.reduceSub, Int.reduceMul, Int.reduceAdd, BitVec.reduceOfInt, reduceCtorEq, ↓reduceIte, tn_add, tn_mul, tn_sub, tn_one, tn_zero, w64, ltN_t, ltN_f, leN_t, leN_f, ltI_t, ltI_f, leI_t, leI_f, eqN_t, eqN_f, eqI_t, eqI_f, beq_t, beq_f, bne_t, bne_f, cast_add, fd10, m10, c17, c43, c44, c45, c46, c22, rows_length, e1, e2, c48, rows_take', noImms_rows]
theorem deal_lim (h : 7 ≤ n) (hv : VB c len l) (ha : DArg w g m) (hk : Lb l (key w g) k) (hr : ¬ DRoom c l k w g m) :
    call gl tab n 10 [bank c len f sh l, i64 w, i64 g, i64 m] [] = some (.tup [bank0, i64 2], [], []) := by
  obtain ⟨d, rfl⟩ := Nat.exists_eq_add_of_le' h
  have hr0 := hv.r
  have hasc := vb_asc hv
  have c17 := @vb17 gl (d + 6) (by omega) c len f sh l hs hv
  have c43 := @isWindow_at gl (d + 6) (by omega)
  have c44 := @isGate_at gl (d + 6) (by omega)
  have c45 := @within_at gl (d + 6) (by omega)
  have c22 := @out_t gl (d + 6) (by omega) c len f sh l hs w hv
  have c46 := @get_ok gl (d + 6) (by omega) f sh l hs (key w g) (by omega) hasc k hk
  have e : (if k < l.length ∧ (at' l k).cmp (key w g) = 0 then (at' l k).av else (key w g).av) = (rowOr l k (key w g)).av := by unfold rowOr; split <;> rfl
  obtain ⟨e1, e2⟩ := rowOr_key l k w g
  have hbd := rowOr_bd hv k w g
  have hob := out_bd2 (w := w) hv (Nat.le_refl _)
  obtain ⟨⟨a1, a2⟩, ⟨a3, a4⟩, ⟨a5, a6⟩⟩ := ha
  rw [e] at c46
  have hr2 : ∀ (h1 : outF l w l.length + m ≤ c) (h2 : (rowOr l k (key w g)).d + m ≤ 1099511627776), ¬ Kn l k w g ∧ l.length = 10000 := fun h1 h2 => by
    by_cases h3 : Kn l k w g
    · exact absurd ⟨h1, h2, .inl h3⟩ hr
    · by_cases h4 : l.length = 10000
      · exact ⟨h3, h4⟩
      · exact absurd ⟨h1, h2, .inr h4⟩ hr
  simp only [bank, Q4.av, key, e1, e2] at c17 c46 c22 hbd hr2 ⊢
  rw [call_go (fd := fd10) rfl]
  generalize (rowOr l k ⟨w, g, 0, 0⟩) = q at *
  by_cases h1 : outF l w l.length + m ≤ c
  case neg => simp (disch := ((fail_if_success (intro _)); omega)) only [go_sem, reduceIte, Nat.reduceEqDiff, Nat.reduceAdd, Nat.reduceSub, Nat.reduceMul, Nat.reduceDiv, Nat.reduceMod, Nat.reduceLT, Nat.reduceLeDiff, Nat.reduceBEq, Nat.reduceBNe, Int.reduceLE, Int.reduceLT, Int.reduceToNat, Int.reduceEq, Int.reduceBEq, Int.reduceBNe, Int.reduceNeg, Int.reduceSub, Int.reduceMul, Int.reduceAdd, BitVec.reduceOfInt, reduceCtorEq, ↓reduceIte, tn_add, tn_mul, tn_sub, tn_one, tn_zero, w64, ltN_t, ltN_f, leN_t, leN_f, ltI_t, ltI_f, leI_t, leI_f, eqN_t, eqN_f, eqI_t, eqI_f, beq_t, beq_f, bne_t, bne_f, cast_add, fd10, m10, c17, c43, c44, c45, c46, c22, rows_length, rows_nil]
  by_cases h2 : q.d + m ≤ 1099511627776
  case neg => simp (disch := ((fail_if_success (intro _)); omega)) only [go_sem, reduceIte, Nat.reduceEqDiff, Nat.reduceAdd, Nat.reduceSub, Nat.reduceMul, Nat.reduceDiv, Nat.reduceMod, Nat.reduceLT, Nat.reduceLeDiff, Nat.reduceBEq, Nat.reduceBNe, Int.reduceLE, Int.reduceLT, Int.reduceToNat, Int.reduceEq, Int.reduceBEq, Int.reduceBNe, Int.reduceNeg, Int.reduceSub, Int.reduceMul, Int.reduceAdd, BitVec.reduceOfInt, reduceCtorEq, ↓reduceIte, tn_add, tn_mul, tn_sub, tn_one, tn_zero, w64, ltN_t, ltN_f, leN_t, leN_f, ltI_t, ltI_f, leI_t, leI_f, eqN_t, eqN_f, eqI_t, eqI_f, beq_t, beq_f, bne_t, bne_f, cast_add, fd10, m10, c17, c43, c44, c45, c46, c22, rows_length, rows_nil]
  obtain ⟨h3, h4⟩ := hr2 h1 h2
  have hkn2 : ¬ (k < l.length ∧ (at' l k).cmp ⟨w, g, 0, 0⟩ = 0) := h3
  simp only [hkn2, decide_false] at c46
  simp (disch := ((fail_if_success (intro _)); omega)) only [go_sem, reduceIte, Nat.reduceEqDiff, Nat.reduceAdd, Nat.reduceSub, Nat.reduceMul, Nat.reduceDiv, Nat.reduceMod, Nat.reduceLT, Nat.reduceLeDiff, Nat.reduceBEq, Nat.reduceBNe, Int.reduceLE, Int.reduceLT, Int.reduceToNat, Int.reduceEq, Int.reduceBEq, Int.reduceBNe, Int.reduceNeg, Int.reduceSub, Int.reduceMul, Int.reduceAdd, BitVec.reduceOfInt, reduceCtorEq, ↓reduceIte, tn_add, tn_mul, tn_sub, tn_one, tn_zero, w64, ltN_t, ltN_f, leN_t, leN_f, ltI_t, ltI_f, leI_t, leI_f, eqN_t, eqN_f, eqI_t, eqI_f, beq_t, beq_f, bne_t, bne_f, cast_add, fd10, m10, c17, c43, c44, c45, c46, c22, rows_length, rows_nil]
end
end Go.Proofs.S39
