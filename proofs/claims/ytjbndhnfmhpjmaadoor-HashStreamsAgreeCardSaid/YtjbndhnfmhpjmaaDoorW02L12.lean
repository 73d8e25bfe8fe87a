/-
  The law of hashed streams that are continued. No condition.
-/
import Derived.Test.YtjbndhnfmhpjmaaDoorW02L11
namespace Go.Proofs.S02
open Go Go.Ev Go.Proofs
variable {w : Bool}
set_option linter.unusedSimpArgs false
set_option linter.unusedVariables false
def L12 : MC := match m12 with
  | .seq _ (.seq _ (.seq _ (.seq _ (.seq _ (.seq (.seq _ (.block _ (.loop _ b))) _))))) => b
  | _ => .skip
def L12b : MC := match m12 with
  | .seq _ (.seq _ (.seq _ (.seq _ (.seq _ (.seq _ (.seq _ (.seq (.seq _ (.block _ (.loop _ b))) _))))))) => b
  | _ => .skip
def K12 : List Kp := [.slot 0, .slot 1, .slot 7, .slot 8, .slot 9, .slot 10, .key 9]
def K12b : List Kp := [.slot 0, .slot 1, .slot 7, .slot 8, .slot 9, .slot 11, .slot 12, .key 9, .key 11]
def cellS (k : Nat) (s : Sm) : Nat × OB := (k, .fix (.st [.ar 8 .sc, .ar 64 .sc, .sc]) s.av)
def S12 (l : List (List UInt8)) (o : List UInt8) (k : Nat) (s : Sm) (i : Nat) : St :=
  ⟨[.set 10 (.int .i64 i), .set 9 (.ptr 9 []), .set 8 (.int .i64 k), .set 7 (.bool true), .set 1 (.str o), .set 0 (.lst false .sc (strsAV l))], [cellS 9 s]⟩
def S12b (l : List (List UInt8)) (o : List UInt8) (k : Nat) (e s : Sm) (i : Nat) : St :=
  ⟨[.set 12 (.int .i64 i), .set 11 (.ptr 11 []), .set 9 (.ptr 9 []), .set 8 (.int .i64 k), .set 7 (.bool true), .set 1 (.str o), .set 0 (.lst false .sc (strsAV l))], [cellS 11 e, cellS 9 s]⟩
def AddOk (F : Ev.Cl) : Prop := ∀ (s : Sm) (m x : List UInt8), Reps s m → m.length + x.length < 2 ^ 60 → ∃ s', Reps s' (m ++ x) ∧ F 32 [s.av, .str x] [] = some (s'.av, [], [])
theorem loop12 (F : Ev.Cl) (c32 : AddOk F) (l : List (List UInt8)) (hf : Few l) (o : List UInt8) (k : Nat) (hk : k ≤ l.length) (s1 : Sm) (hr1 : Reps s1 []) :
    ∃ s, Reps s (l.take k).flatten ∧ ∀ st, clean K12 st = some (S12 l o k s1 0) → iter (evC (gl w) F L12) K12 LF st = evC (gl w) F L12 (S12 l o k s k) := by
  have hl := hf.1
  have hstep : ∀ i st, i < k → (∃ s, Reps s (l.take i).flatten ∧ st = S12 l o k s i) → ∃ st', contK K12 (evC (gl w) F L12 st) = some st' ∧ ∃ s, Reps s (l.take (i + 1)).flatten ∧ st' = S12 l o k s (i + 1) := by
    rintro i _ hi ⟨s, hs, rfl⟩
    have hi' : i < l.length := by omega
    have h2 := few_get hf hi'
    have h3 := few_len (few_take hf i)
    obtain ⟨s2, hr2, c2⟩ := c32 s _ l[i] hs (by omega)
    rw [← flat_snoc l i hi'] at hr2
    refine ⟨_, ?_, s2, hr2, rfl⟩
    have hgi := strsAV_get hi'
    have hbl := hs.2.1
    have hbl2 := hr2.2.1
    simp only [Sm.av, H8.av] at c2
    simp (disch := ((fail_if_success (intro _)); omega)) only [go_sem, reduceIte, Nat.reduceEqDiff, Nat.reduceAdd, Nat.reduceSub, Nat.reduceMul, Nat.reduceDiv, Nat.reduceMod, Nat.reduceLT, Nat.reduceLeDiff, Nat.reduceBEq, Nat.reduceBNe, Int.reduceLE, Int.reduceLT, Int.reduceToNat, Int.reduceEq, Int.reduceBEq, Int.reduceBNe, Int.reduceNeg, Int.reduceSub, Int.reduceMul, Int.reduceAdd, BitVec.reduceOfInt, reduceCtorEq, ↓reduceIte, tn_add, tn_mul, tn_sub, tn_one, tn_zero, w64, ltN_t, ltN_f, leN_t, leN_f, ltI_t, ltI_f, leI_t, leI_f, eqN_t, eqN_f, eqI_t, eqI_f, beq_t, beq_f, bne_t, bne_f, cast_add, L12, m12, K12, S12, cellS, Sm.av, H8.av, hgi, strsAV_length, c2, bytesAV_length, bytes_all, hbl, hbl2]
  have hend : ∀ st, (∃ s, Reps s (l.take k).flatten ∧ st = S12 l o k s k) → isEx (evC (gl w) F L12 st) = true := by
    rintro _ ⟨s, hs, rfl⟩
    simp (disch := ((fail_if_success (intro _)); omega)) only [go_sem, reduceIte, Nat.reduceEqDiff, Nat.reduceAdd, Nat.reduceSub, Nat.reduceMul, Nat.reduceDiv, Nat.reduceMod, Nat.reduceLT, Nat.reduceLeDiff, Nat.reduceBEq, Nat.reduceBNe, Int.reduceLE, Int.reduceLT, Int.reduceToNat, Int.reduceEq, Int.reduceBEq, Int.reduceBNe, Int.reduceNeg, Int.reduceSub, Int.reduceMul, Int.reduceAdd, BitVec.reduceOfInt, reduceCtorEq, ↓reduceIte, tn_add, tn_mul, tn_sub, tn_one, tn_zero, w64, ltN_t, ltN_f, leN_t, leN_f, ltI_t, ltI_f, leI_t, leI_f, eqN_t, eqN_f, eqI_t, eqI_f, beq_t, beq_f, bne_t, bne_f, cast_add, L12, m12, S12]
  obtain ⟨s', ⟨s, hs, rfl⟩, e⟩ := iter_inv (f := evC (gl w) F L12) (ks := K12) (fun i st => ∃ s, Reps s (l.take i).flatten ∧ st = S12 l o k s i) k (by unfold LF; omega) ⟨s1, hr1, rfl⟩ hstep hend
  exact ⟨s, hs, e⟩
theorem loop12b (F : Ev.Cl) (c32 : AddOk F) (l : List (List UInt8)) (hf : Few l) (o : List UInt8) (k : Nat) (hk : k ≤ l.length) (e s1 : Sm) (he : e.blk.length = 64) (hr1 : Reps s1 (l.take k).flatten) :
    ∃ s, Reps s l.flatten ∧ ∀ st, clean K12b st = some (S12b l o k e s1 k) → iter (evC (gl w) F L12b) K12b LF st = evC (gl w) F L12b (S12b l o k e s l.length) := by
  have hl := hf.1
  have hstep : ∀ j st, j < l.length - k → (∃ s, Reps s (l.take (k + j)).flatten ∧ st = S12b l o k e s (k + j)) → ∃ st', contK K12b (evC (gl w) F L12b st) = some st' ∧ ∃ s, Reps s (l.take (k + j + 1)).flatten ∧ st' = S12b l o k e s (k + j + 1) := by
    rintro j _ hj ⟨s, hs, rfl⟩
    obtain ⟨i, hi⟩ : ∃ i, i = k + j := ⟨_, rfl⟩
    rw [← hi] at hs ⊢
    have hi' : i < l.length := by omega
    have h2 := few_get hf hi'
    have h3 := few_len (few_take hf i)
    obtain ⟨s2, hr2, c2⟩ := c32 s _ l[i] hs (by omega)
    rw [← flat_snoc l i hi'] at hr2
    refine ⟨_, ?_, s2, hr2, rfl⟩
    have hgi := strsAV_get hi'
    have hbl := hs.2.1
    have hbl2 := hr2.2.1
    simp only [Sm.av, H8.av] at c2
    clear hi
    simp (disch := ((fail_if_success (intro _)); omega)) only [go_sem, reduceIte, Nat.reduceEqDiff, Nat.reduceAdd, Nat.reduceSub, Nat.reduceMul, Nat.reduceDiv, Nat.reduceMod, Nat.reduceLT, Nat.reduceLeDiff, Nat.reduceBEq, Nat.reduceBNe, Int.reduceLE, Int.reduceLT, Int.reduceToNat, Int.reduceEq, Int.reduceBEq, Int.reduceBNe, Int.reduceNeg, Int.reduceSub, Int.reduceMul, Int.reduceAdd, BitVec.reduceOfInt, reduceCtorEq, ↓reduceIte, tn_add, tn_mul, tn_sub, tn_one, tn_zero, w64, ltN_t, ltN_f, leN_t, leN_f, ltI_t, ltI_f, leI_t, leI_f, eqN_t, eqN_f, eqI_t, eqI_f, beq_t, beq_f, bne_t, bne_f, cast_add, L12b, m12, K12b, S12b, cellS, Sm.av, H8.av, hgi, strsAV_length, c2, bytesAV_length, bytes_all, hbl, hbl2, he]
  have hkl : k + (l.length - k) = l.length := by omega
  have hend : ∀ st, (∃ s, Reps s (l.take (k + (l.length - k))).flatten ∧ st = S12b l o k e s (k + (l.length - k))) → isEx (evC (gl w) F L12b st) = true := by
    rintro _ ⟨s, hs, rfl⟩
    rw [hkl]
    simp (disch := ((fail_if_success (intro _)); omega)) only [go_sem, reduceIte, Nat.reduceEqDiff, Nat.reduceAdd, Nat.reduceSub, Nat.reduceMul, Nat.reduceDiv, Nat.reduceMod, Nat.reduceLT, Nat.reduceLeDiff, Nat.reduceBEq, Nat.reduceBNe, Int.reduceLE, Int.reduceLT, Int.reduceToNat, Int.reduceEq, Int.reduceBEq, Int.reduceBNe, Int.reduceNeg, Int.reduceSub, Int.reduceMul, Int.reduceAdd, BitVec.reduceOfInt, reduceCtorEq, ↓reduceIte, tn_add, tn_mul, tn_sub, tn_one, tn_zero, w64, ltN_t, ltN_f, leN_t, leN_f, ltI_t, ltI_f, leI_t, leI_f, eqN_t, eqN_f, eqI_t, eqI_f, beq_t, beq_f, bne_t, bne_f, cast_add, L12b, m12, S12b, strsAV_length]
  obtain ⟨s', ⟨s, hs, rfl⟩, e⟩ := iter_inv (f := evC (gl w) F L12b) (ks := K12b) (fun i st => ∃ s, Reps s (l.take (k + i)).flatten ∧ st = S12b l o k e s (k + i)) (l.length - k) (by unfold LF; omega) ⟨s1, hr1, rfl⟩ hstep hend
  rw [hkl] at hs e
  rw [List.take_length] at hs
  exact ⟨s, hs, e⟩
theorem law12 {n : Nat} (hn : 20 ≤ n) (c15 : call (gl w) tab n 15 [] [] = some (.bool true, [], [])) (ar : List AV) (h : HasKds [.sl .str, .str, .int .u8] ar) : call (gl w) tab (n + 1) 12 ar [] = some (.bool true, [], []) := by
  obtain ⟨_, _, rfl, ⟨x, rfl, -, ha⟩, _, _, rfl, ⟨o, rfl, ho⟩, _, _, rfl, hc, rfl⟩ := h
  obtain ⟨l, rfl⟩ := strs_of ha
  obtain ⟨t, rfl, ht⟩ := byte_of hc
  clear ha hc
  have c18f := @few_f w n (by omega)
  have c18t := @few_t w n (by omega)
  rw [call_go (fd := fd12) rfl]
  by_cases hf : Few l
  case neg => simp (disch := ((fail_if_success (intro _)); omega)) only [go_sem, reduceIte, Nat.reduceEqDiff, Nat.reduceAdd, Nat.reduceSub, Nat.reduceMul, Nat.reduceDiv, Nat.reduceMod, Nat.reduceLT, Nat.reduceLeDiff, Nat.reduceBEq, Nat.reduceBNe, Int.reduceLE, Int.reduceLT, Int.reduceToNat, Int.reduceEq, Int.reduceBEq, Int.reduceBNe, Int.reduceNeg, Int.reduceSub, Int.reduceMul, Int.reduceAdd, BitVec.reduceOfInt, reduceCtorEq, ↓reduceIte, tn_add, tn_mul, tn_sub, tn_one, tn_zero, w64, ltN_t, ltN_f, leN_t, leN_f, ltI_t, ltI_f, leI_t, leI_f, eqN_t, eqN_f, eqI_t, eqI_f, beq_t, beq_f, bne_t, bne_f, cast_add, Kd.sh, fd12, m12, c15, c18f false hf]
  have c18 := c18t false hf
  clear c18f c18t
  by_cases h4 : 400 < o.length
  · simp (disch := ((fail_if_success (intro _)); omega)) only [go_sem, reduceIte, Nat.reduceEqDiff, Nat.reduceAdd, Nat.reduceSub, Nat.reduceMul, Nat.reduceDiv, Nat.reduceMod, Nat.reduceLT, Nat.reduceLeDiff, Nat.reduceBEq, Nat.reduceBNe, Int.reduceLE, Int.reduceLT, Int.reduceToNat, Int.reduceEq, Int.reduceBEq, Int.reduceBNe, Int.reduceNeg, Int.reduceSub, Int.reduceMul, Int.reduceAdd, BitVec.reduceOfInt, reduceCtorEq, ↓reduceIte, tn_add, tn_mul, tn_sub, tn_one, tn_zero, w64, ltN_t, ltN_f, leN_t, leN_f, ltI_t, ltI_f, leI_t, leI_f, eqN_t, eqN_f, eqI_t, eqI_f, beq_t, beq_f, bne_t, bne_f, cast_add, Kd.sh, fd12, m12, c15, c18]
  have c21 := @joined_at w n (by omega)
  have c31 := @sbegin_at w n (by omega)
  have hl := hf.1
  have c32 : AddOk (call (gl w) tab n) := fun s m x hs hm => sadd_at (by omega) s m x hs hm
  have hw2 : IntKind.wrap .i64 ((l.length : Int) + 1) = ((l.length + 1 : Nat) : Int) := wrap_succ (by omega)
  have hrem : binInt .rem .i64 (t : Int) ((l.length : Int) + 1) = some (.int .i64 ((t % (l.length + 1) : Nat) : Int)) := rem_nat t _ (Nat.succ_pos l.length)
  have hk : t % (l.length + 1) < l.length + 1 := Nat.mod_lt _ (by omega)
  have hb0 : s0.blk.length = 64 := by simp [s0]
  obtain ⟨s, hs, e1⟩ := loop12 (w := w) _ c32 l hf o (t % (l.length + 1)) (by omega) s0 reps0
  have hbl := hs.2.1
  obtain ⟨s2, hs2, e2⟩ := loop12b (w := w) _ c32 l hf o (t % (l.length + 1)) (by omega) s s hbl hs
  simp only [Sm.av, H8.av] at c31
  simp only [L12, m12, K12] at e1
  simp only [L12b, m12, K12b] at e2
  simp (disch := ((fail_if_success (intro _)); omega)) only [go_sem, reduceIte, Nat.reduceEqDiff, Nat.reduceAdd, Nat.reduceSub, Nat.reduceMul, Nat.reduceDiv, Nat.reduceMod, Nat.reduceLT, Nat.reduceLeDiff, Nat.reduceBEq, Nat.reduceBNe, Int.reduceLE, Int.reduceLT, Int.reduceToNat, Int.reduceEq, Int.reduceBEq, Int.reduceBNe, Int.reduceNeg, Int.reduceSub, Int.reduceMul, Int.reduceAdd, BitVec.reduceOfInt, reduceCtorEq, ↓reduceIte, tn_add, tn_mul, tn_sub, tn_one, tn_zero, w64, ltN_t, ltN_f, leN_t, leN_f, ltI_t, ltI_f, leI_t, leI_f, eqN_t, eqN_f, eqI_t, eqI_f, beq_t, beq_f, bne_t, bne_f, cast_add, Kd.sh, fd12, m12, c15, c18, strsAV_length, hw2, hrem, c31, ↓z64_def, noImms_bytesAV, bytesAV_length, bytes_all, hb0]
  generalize t % (l.length + 1) = k at *
  rw [e1 _ (by simp (disch := ((fail_if_success (intro _)); omega)) only [go_sem, reduceIte, Nat.reduceEqDiff, Nat.reduceAdd, Nat.reduceSub, Nat.reduceMul, Nat.reduceDiv, Nat.reduceMod, Nat.reduceLT, Nat.reduceLeDiff, Nat.reduceBEq, Nat.reduceBNe, Int.reduceLE, Int.reduceLT, Int.reduceToNat, Int.reduceEq, Int.reduceBEq, Int.reduceBNe, Int.reduceNeg, Int.reduceSub, Int.reduceMul, Int.reduceAdd, BitVec.reduceOfInt, reduceCtorEq, ↓reduceIte, tn_add, tn_mul, tn_sub, tn_one, tn_zero, w64, ltN_t, ltN_f, leN_t, leN_f, ltI_t, ltI_f, leI_t, leI_f, eqN_t, eqN_f, eqI_t, eqI_f, beq_t, beq_f, bne_t, bne_f, cast_add, S12, cellS, Sm.av, H8.av])]
  simp (disch := ((fail_if_success (intro _)); omega)) only [go_sem, reduceIte, Nat.reduceEqDiff, Nat.reduceAdd, Nat.reduceSub, Nat.reduceMul, Nat.reduceDiv, Nat.reduceMod, Nat.reduceLT, Nat.reduceLeDiff, Nat.reduceBEq, Nat.reduceBNe, Int.reduceLE, Int.reduceLT, Int.reduceToNat, Int.reduceEq, Int.reduceBEq, Int.reduceBNe, Int.reduceNeg, Int.reduceSub, Int.reduceMul, Int.reduceAdd, BitVec.reduceOfInt, reduceCtorEq, ↓reduceIte, tn_add, tn_mul, tn_sub, tn_one, tn_zero, w64, ltN_t, ltN_f, leN_t, leN_f, ltI_t, ltI_f, leI_t, leI_f, eqN_t, eqN_f, eqI_t, eqI_f, beq_t, beq_f, bne_t, bne_f, cast_add, S12, cellS, Sm.av, H8.av, ↓z64_def, bytesAV_length, bytes_all, hbl]
  rw [e2 _ (by simp (disch := ((fail_if_success (intro _)); omega)) only [go_sem, reduceIte, Nat.reduceEqDiff, Nat.reduceAdd, Nat.reduceSub, Nat.reduceMul, Nat.reduceDiv, Nat.reduceMod, Nat.reduceLT, Nat.reduceLeDiff, Nat.reduceBEq, Nat.reduceBNe, Int.reduceLE, Int.reduceLT, Int.reduceToNat, Int.reduceEq, Int.reduceBEq, Int.reduceBNe, Int.reduceNeg, Int.reduceSub, Int.reduceMul, Int.reduceAdd, BitVec.reduceOfInt, reduceCtorEq, ↓reduceIte, tn_add, tn_mul, tn_sub, tn_one, tn_zero, w64, ltN_t, ltN_f, leN_t, leN_f, ltI_t, ltI_f, leI_t, leI_f, eqN_t, eqN_f, eqI_t, eqI_f, beq_t, beq_f, bne_t, bne_f, cast_add, S12b, cellS, Sm.av, H8.av])]
  have hbl2 := hs2.2.1
  have hft := few_take hf k
  have q1 := few_len hf
  have q2 := few_len hft
  obtain ⟨s3, hs3, c3⟩ := c32 s _ o hs (by omega)
  have hbl3 := hs3.2.1
  have d1 := @ssum_at w n (by omega) _ _ hs2 (by omega)
  have d2 := @ssum_at w n (by omega) _ _ hs (by omega)
  have d3 := @ssum_at w n (by omega) _ _ hs3 (by rw [List.length_append]; omega)
  have f1 := fun nb => @hsum_at w n (by omega) nb l.flatten (by omega)
  have f2 := fun nb => @hsum_at w n (by omega) nb (l.take k).flatten (by omega)
  have f3 := fun nb => @hsum_at w n (by omega) nb ((l.take k).flatten ++ o) (by rw [List.length_append]; omega)
  have r1 : l.flatten.length ≤ LIM := by unfold LIM; omega
  have r2 : (l.take k).flatten.length ≤ LIM := by unfold LIM; omega
  have r3 : (l.take k).flatten.length + o.length ≤ LIM := by unfold LIM; omega
  have t1 := bytesAV_take' (l := (l.take k).flatten ++ o) (List.length_append)
  have g1 := hashL_len l.flatten
  have g2 := hashL_len (l.take k).flatten
  have g3 := hashL_len ((l.take k).flatten ++ o)
  have i1 := eq_bytes g1 g1
  have i2 := eq_bytes g2 g2
  have i3 := eq_bytes g3 g3
  have j1 := c21 false hf
  have j2 := c21 false hft
  simp only [Sm.av, H8.av] at c3 d1 d2 d3
  clear c32 c21 e1 e2 hw2 hrem
  simp (disch := ((fail_if_success (intro _)); omega)) only [go_sem, reduceIte, Nat.reduceEqDiff, Nat.reduceAdd, Nat.reduceSub, Nat.reduceMul, Nat.reduceDiv, Nat.reduceMod, Nat.reduceLT, Nat.reduceLeDiff, Nat.reduceBEq, Nat.reduceBNe, Int.reduceLE, Int.reduceLT, Int.reduceToNat, Int.reduceEq, Int.reduceBEq, Int.reduceBNe, Int.reduceNeg, Int.reduceSub, Int.reduceMul, Int.reduceAdd, BitVec.reduceOfInt, reduceCtorEq, ↓reduceIte, tn_add, tn_mul, tn_sub, tn_one, tn_zero, w64, ltN_t, ltN_f, leN_t, leN_f, ltI_t, ltI_f, leI_t, leI_f, eqN_t, eqN_f, eqI_t, eqI_f, beq_t, beq_f, bne_t, bne_f, cast_add, S12b, cellS, Sm.av, H8.av, ↓z64_def, strsAV_length, strsAV_take, j1, j2, c3, d1, d2, d3, f1, f2, f3, r1, r2, r3, t1, i1, i2, i3, g1, g2, g3, bytesAV_length, bytes_all, hbl, hbl2, hbl3, noImms_bytesAV]
end Go.Proofs.S02
