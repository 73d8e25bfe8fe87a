/-
  Chapter 39: banks are as specified. No condition.
-/
import Derived.Test.YtdbppejfcolacaaS39g
import Derived.Test.YtdbppejfcolacaaS39r
import Derived.Test.YtdbppejfcolacaaS39y
namespace Go.Proofs.S39
open Go Go.Ev Go.Proofs
set_option linter.unusedSimpArgs false
set_option linter.unusedVariables false
variable {gl : Gl} {n : Nat}
/-! ### What a law is given -/
theorem kd_int {k : IntKind} {a : AV} (h : HasKd (.int k) a) : ∃ n, a = .int k n ∧ k.min ≤ n ∧ n ≤ k.max := h
abbrev kR : Kd := .st [.int .i64, .int .i64, .int .i64, .int .i64]
theorem kd_row {a : AV} (h : HasKd kR a) : ∃ x : Q4, a = x.av := by
  obtain ⟨l, rfl, h⟩ := h
  simp only [HasKds] at h
  obtain ⟨_, _, rfl, ⟨w, rfl, _⟩, _, _, rfl, ⟨g, rfl, _⟩, _, _, rfl, ⟨d, rfl, _⟩, _, _, rfl, ⟨b, rfl, _⟩, rfl⟩ := h
  exact ⟨⟨w, g, d, b⟩, rfl⟩
theorem kd_rows : ∀ {l : List AV}, (∀ x ∈ l, HasKd kR x) → ∃ r : List Q4, l = rows r
  | [], _ => ⟨[], rfl⟩
  | x :: l, h => by
    obtain ⟨x, rfl⟩ := kd_row (h x (by simp))
    obtain ⟨r, rfl⟩ := kd_rows (l := l) fun y hy => h y (by simp [hy])
    exact ⟨x :: r, rfl⟩
abbrev kB : Kd := .st [.int .i64, .int .i64, .sl kR]
theorem kd_bank {a : AV} (h : HasKd kB a) : ∃ c len l, a = bank c len false sR l := by
  obtain ⟨l, rfl, h⟩ := h
  simp only [HasKds] at h
  obtain ⟨_, _, rfl, ⟨w, rfl, _⟩, _, _, rfl, ⟨g, rfl, _⟩, _, _, rfl, ⟨d, rfl, _, h⟩, rfl⟩ := h
  obtain ⟨r, rfl⟩ := kd_rows h
  exact ⟨w, g, r, rfl⟩
/-! ### The two tell the same -/
/-- The two results' banks hold the same rows, and the errors are the same. -/
def Two (a b : Option (AV × Hp × List OB)) : Prop := ∃ c len f sh f' sh' r e, Shp r sh ∧ Shp r sh' ∧ r.length < 2 ^ 60 ∧ a = some (.tup [bank c len f sh r, i64 e], [], []) ∧ b = some (.agg [bank c len f' sh' r, i64 e], [], [])
theorem Two.mk {c len : Int} {f f' : Bool} {sh sh' : Sh} {r : List Q4} {e : Int} (h1 : Shp r sh) (h2 : Shp r sh') (h3 : r.length < 2 ^ 60) : Two (some (.tup [bank c len f sh r, i64 e], [], [])) (some (.agg [bank c len f' sh' r, i64 e], [], [])) := ⟨_, _, _, _, _, _, _, _, h1, h2, h3, rfl, rfl⟩
theorem Two.bank0 {e : Int} : Two (some (.tup [bank0, i64 e], [], [])) (some (.agg [S39.bank0, i64 e], [], [])) := Two.mk (.inl rfl) (.inl rfl) (by decide)
theorem putL_len (l : List Q4) (k : Nat) (x : Q4) : (putL l k x).length ≤ l.length + 1 := by
  unfold putL; split <;> simp <;> omega
section
variable {c len : Int} {f : Bool} {sh : Sh} {l : List Q4} {w g m : Int} (hs : Shp l sh) (hl : l.length < 2 ^ 30)
theorem two9 (h : 6 ≤ n) (c len : Int) : Two (call gl tab n 9 [i64 c, i64 len] []) (call gl tab n 13 [i64 c, i64 len] []) := by
  classical
  rw [newBank_at h, rnewBank_at (by omega)]
  split
  · exact Two.mk (.inl rfl) (.inl rfl) (by decide)
  · exact Two.bank0
include hs hl
theorem two10 (h : 7 ≤ n) : Two (call gl tab n 10 [bank c len f sh l, i64 w, i64 g, i64 m] []) (call gl tab n 14 [bank c len f sh l, i64 w, i64 g, i64 m] []) := by
  by_cases hv : VB c len l
  · by_cases ha : DArg w g m
    · obtain ⟨k, hk⟩ := exists_lb (vb_asc hv) (key w g)
      by_cases hr : DRoom c l k w g m
      · rw [deal_ok hs hl h hv ha hk hr, rdeal_ok hs hl (by omega) hv ha hk hr]
        exact Two.mk (.inr rfl) (.inr rfl) (Nat.lt_of_le_of_lt (putL_len ..) (by omega))
      · rw [deal_lim hs hl h hv ha hk hr, rdeal_lim hs hl (by omega) hv ha hk hr]; exact Two.bank0
    · rw [deal_arg hs hl h hv ha, rdeal_arg hs hl (by omega) hv ha]; exact Two.bank0
  · rw [deal_inv hs hl h hv, rdeal_inv hs hl (by omega) hv]; exact Two.bank0
theorem two11 (h : 8 ≤ n) : Two (call gl tab n 11 [bank c len f sh l, i64 w, i64 g, i64 m] []) (call gl tab n 15 [bank c len f sh l, i64 w, i64 g, i64 m] []) := by
  by_cases hv : VB c len l
  · obtain ⟨k, hk⟩ := exists_lb (vb_asc hv) (key w g)
    by_cases ha : RArg l k w g m
    · obtain ⟨_, _, h1, e1⟩ := ret_ok (gl := gl) (f := f) hs hl h hv hk ha
      obtain ⟨_, _, h2, e2⟩ := rret_ok (gl := gl) (n := n) (f := f) hs hl (by omega) hv hk ha
      rw [e1, e2]
      refine Two.mk h1 h2 ?_
      unfold retL; split
      · exact Nat.lt_of_le_of_lt (putL_len ..) (by omega)
      · omega
    · rw [ret_arg hs hl h hv hk ha, rret_arg hs hl (by omega) hv hk ha]; exact Two.bank0
  · rw [ret_inv hs hl h hv, rret_inv hs hl (by omega) hv]; exact Two.bank0
theorem two12 (h : 7 ≤ n) (p q : Int) : Two (call gl tab n 12 [bank c len f sh l, .agg [i64 p, i64 q]] []) (call gl tab n 16 [bank c len f sh l, .agg [i64 p, i64 q]] []) := by
  by_cases hv : VB c len l ∧ PV p q
  · rw [forget_ok h c len f hs hv.1 p q hv.2, rforget_ok (by omega) c len f hs hv.1 p q hv.2]
    refine Two.mk (.inr rfl) (.inr rfl) (Nat.lt_of_le_of_lt (List.length_filter_le ..) (by omega))
  · rw [forget_f h c len f hs hl p q hv, rforget_f (by omega) c len f hs hl p q hv]; exact Two.bank0
theorem two17 (h : 5 ≤ n) : ∃ b, call gl tab n 17 [bank c len f sh l] [] = some (.bool b, [], []) ∧ call gl tab n 18 [bank c len f sh l] [] = some (.bool b, [], []) := by
  by_cases hv : VB c len l
  · exact ⟨true, vb17 h hs hv, vb18 (by omega) hs hv⟩
  · exact ⟨false, nvb17 h hs hl hv, nvb18 (by omega) hs hl hv⟩
theorem two20 (h : 6 ≤ n) (w g : Int) : ∃ b, call gl tab n 20 [bank c len f sh l, i64 w, i64 g] [] = some (i64 b, [], []) ∧ call gl tab n 21 [bank c len f sh l, i64 w, i64 g] [] = some (i64 b, [], []) := by
  by_cases hv : VB c len l
  · obtain ⟨k, hk⟩ := exists_lb (vb_asc hv) (key w g)
    exact ⟨_, dealt_t h c len f hs w g hv hk, rdealt_t (by omega) c len f hs w g hv hk⟩
  · exact ⟨_, dealt_f h c len f hs hl w g hv, rdealt_f (by omega) c len f hs hl w g hv⟩
theorem two22 (h : 6 ≤ n) (w : Int) : ∃ b, call gl tab n 22 [bank c len f sh l, i64 w] [] = some (i64 b, [], []) ∧ call gl tab n 23 [bank c len f sh l, i64 w] [] = some (i64 b, [], []) := by
  by_cases hv : VB c len l
  · exact ⟨_, out_t h c len f hs w hv, rOut_t (by omega) c len f hs w hv⟩
  · exact ⟨_, out_f h c len f hs (by omega) w hv, rOut_f (by omega) c len f hs (by omega) w hv⟩
end
/-- As the rule that it is named after, but with a proof that the kernel need not look for. -/
theorem guardK_tt' {gl : Gl} {cl : Cl} {d : Option Nat} {m : MOp} {l : List FO} {st : St} : guardK gl cl d m true l st (.bool true) = flat0K gl cl d l st (stepOp gl cl st d m) := by rw [guardK, if_pos rfl]
theorem law3_in (hn : 20 ≤ n) (c8 : call gl tab n 8 [] [] = some (.bool true, [], [])) (c len w g m p q : Int) (l : List Q4) (e3 : (decide (40 < l.length) && decide (l.length < 10000)) = false) (h2 : ¬ 10001 < l.length) :
    call gl tab (n + 1) 3 [bank c len false sR l, i64 w, i64 g, i64 m, .agg [i64 p, i64 q]] [] = some (.bool true, [], []) := by
  have hs : Shp l sR := .inr rfl
  have hl : l.length < 2 ^ 30 := by omega
  obtain ⟨x1, x2, x3, x4, x5, x6, l1, x7, s1, t1, r1, c9, c13⟩ := @two9 gl n (by omega) c len
  obtain ⟨y1, y2, y3, y4, y5, y6, l2, y7, s2, t2, r2, c10, c14⟩ := @two10 gl n c len false sR l w g m hs hl (by omega)
  obtain ⟨z1, z2, z3, z4, z5, z6, l3, z7, s3, t3, r3, c11, c15⟩ := @two11 gl n c len false sR l w g m hs hl (by omega)
  obtain ⟨u1, u2, u3, u4, u5, u6, l4, u7, s4, t4, r4, c12, c16⟩ := @two12 gl n c len false sR l hs hl (by omega) p q
  obtain ⟨v1, c17, c18⟩ := @two17 gl n c len false sR l hs hl (by omega)
  obtain ⟨v2, c20, c21⟩ := @two20 gl n c len false sR l hs hl (by omega) w g
  obtain ⟨v3, c22, c23⟩ := @two22 gl n c len false sR l hs hl (by omega) w
  have c191 := @same_at gl n (by omega) x1 x2 x3 x5 x4 x6 l1 s1 t1 r1
  have c192 := @same_at gl n (by omega) y1 y2 y3 y5 y4 y6 l2 s2 t2 r2
  have c193 := @same_at gl n (by omega) z1 z2 z3 z5 z4 z6 l3 s3 t3 r3
  have c194 := @same_at gl n (by omega) u1 u2 u3 u5 u4 u6 l4 s4 t4 r4
  simp only [bank] at c9 c10 c11 c12 c13 c14 c15 c16 c17 c18 c20 c21 c22 c23 c191 c192 c193 c194
  rw [call_go (fd := fd3) rfl]
  simp (disch := ((fail_if_success (intro _)); omega)) only [go_sem, reduceIte, Nat.reduceEqDiff, Nat.reduceAdd, Nat.reduceSub, Nat.reduceMul, Nat.reduceDiv, Nat.reduceMod, Nat.reduceLT, Nat.reduceLeDiff, Nat.reduceBEq, Nat.reduceBNe, Int.reduceLE, Int.reduceLT, Int.reduceToNat, Int.reduceEq, Int.reduceBEq, Int.reduceBNe, Int.reduceNeg, Int.reduceSub, Int.reduceMul, Int.reduceAdd, BitVec.reduceOfInt, reduceCtorEq, ↓reduceIte, tn_add, tn_mul, tn_sub, tn_one, tn_zero, w64, ltN_t, ltN_f, leN_t, leN_f, ltI_t, ltI_f, leI_t, leI_f, eqN_t, eqN_f, eqI_t, eqI_f, beq_t, beq_f, bne_t, bne_f, cast_add, guardK_tt', fd3, m3, bank, rows_length, e3, h2, c8, c9, c10, c11, c12, c13, c14, c15, c16, c17, c18, c20, c21, c22, c23, c191, c192, c193, c194]
theorem law3 (hn : 20 ≤ n) (c8 : call gl tab n 8 [] [] = some (.bool true, [], [])) (ar : List AV) (h : HasKds [kB, .int .i64, .int .i64, .int .i64, .st [.int .i64, .int .i64]] ar) : call gl tab (n + 1) 3 ar [] = some (.bool true, [], []) := by
  simp only [HasKds] at h
  obtain ⟨_, _, rfl, hb, _, _, rfl, ⟨w, rfl, _⟩, _, _, rfl, ⟨g, rfl, _⟩, _, _, rfl, ⟨m, rfl, _⟩, _, _, rfl, ⟨_, rfl, hp⟩, rfl⟩ := h
  simp only [HasKds] at hp
  obtain ⟨_, _, rfl, ⟨p, rfl, _⟩, _, _, rfl, ⟨q, rfl, _⟩, rfl⟩ := hp
  obtain ⟨c, len, l, rfl⟩ := kd_bank hb
  by_cases h1 : 40 < l.length ∧ l.length < 10000
  · have e1 : decide ((40 : Int) < l.length) = true := by simp; omega
    have e2 : decide ((l.length : Int) < 10000) = true := by simp; omega
    rw [call_go (fd := fd3) rfl]
    simp (disch := ((fail_if_success (intro _)); omega)) only [go_sem, reduceIte, Nat.reduceEqDiff, Nat.reduceAdd, Nat.reduceSub, Nat.reduceMul, Nat.reduceDiv, Nat.reduceMod, Nat.reduceLT, Nat.reduceLeDiff, Nat.reduceBEq, Nat.reduceBNe, Int.reduceLE, Int.reduceLT, Int.reduceToNat, Int.reduceEq, Int.reduceBEq, Int.reduceBNe, Int.reduceNeg, Int.reduceSub, Int.reduceMul, Int.reduceAdd, BitVec.reduceOfInt, reduceCtorEq, ↓reduceIte, tn_add, tn_mul, tn_sub, tn_one, tn_zero, w64, ltN_t, ltN_f, leN_t, leN_f, ltI_t, ltI_f, leI_t, leI_f, eqN_t, eqN_f, eqI_t, eqI_f, beq_t, beq_f, bne_t, bne_f, cast_add, fd3, m3, bank, rows_length, e1, e2, c8]
  · have e3 : (decide (40 < l.length) && decide (l.length < 10000)) = false := by simp; omega
    by_cases h2 : 10001 < l.length
    · rw [call_go (fd := fd3) rfl]
      simp (disch := ((fail_if_success (intro _)); omega)) only [go_sem, reduceIte, Nat.reduceEqDiff, Nat.reduceAdd, Nat.reduceSub, Nat.reduceMul, Nat.reduceDiv, Nat.reduceMod, Nat.reduceLT, Nat.reduceLeDiff, Nat.reduceBEq, Nat.reduceBNe, Int.reduceLE, Int.reduceLT, Int.reduceToNat, Int.reduceEq, Int.reduceBEq, Int.reduceBNe, Int.reduceNeg, Int.reduceSub, Int.reduceMul, Int.reduceAdd, BitVec.reduceOfInt, reduceCtorEq, ↓reduceIte, tn_add, tn_mul, tn_sub, tn_one, tn_zero, w64, ltN_t, ltN_f, leN_t, leN_f, ltI_t, ltI_f, leI_t, leI_f, eqN_t, eqN_f, eqI_t, eqI_f, beq_t, beq_f, bne_t, bne_f, cast_add, fd3, m3, bank, rows_length, e3, h2, c8]
    · exact law3_in hn c8 c len w g m p q l e3 h2
end Go.Proofs.S39
