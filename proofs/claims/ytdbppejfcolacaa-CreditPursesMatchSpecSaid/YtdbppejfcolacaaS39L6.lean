/-
  Chapter 39: purses are as specified. No condition.
-/
import Derived.Test.YtdbppejfcolacaaS39cf
import Derived.Test.YtdbppejfcolacaaS39L3
namespace Go.Proofs.S39
open Go Go.Ev Go.Proofs
set_option linter.unusedSimpArgs false
set_option linter.unusedVariables false
variable {gl : Gl} {n : Nat}
abbrev kU : Kd := .st [.int .i64, .sl kR]
theorem kd_purse {a : AV} (h : HasKd kU a) : ∃ len l, a = purse len false sR l := by
  obtain ⟨l, rfl, h⟩ := h
  simp only [HasKds] at h
  obtain ⟨_, _, rfl, ⟨g, rfl, _⟩, _, _, rfl, ⟨d, rfl, _, h⟩, rfl⟩ := h
  obtain ⟨r, rfl⟩ := kd_rows h
  exact ⟨g, r, rfl⟩
namespace Co
/-- The two results' purses hold the same coins, and the errors are the same. -/
def Two (a b : Option (AV × Hp × List OB)) : Prop := ∃ len f sh f' sh' r e, Shp r sh ∧ Shp r sh' ∧ r.length < 2 ^ 60 ∧ a = some (.tup [purse len f sh r, i64 e], [], []) ∧ b = some (.agg [purse len f' sh' r, i64 e], [], [])
theorem Two.mk {len : Int} {f f' : Bool} {sh sh' : Sh} {r : List Q4} {e : Int} (h1 : Shp r sh) (h2 : Shp r sh') (h3 : r.length < 2 ^ 60) : Two (some (.tup [purse len f sh r, i64 e], [], [])) (some (.agg [purse len f' sh' r, i64 e], [], [])) := ⟨_, _, _, _, _, _, _, h1, h2, h3, rfl, rfl⟩
theorem Two.purse0 {e : Int} : Two (some (.tup [purse0, i64 e], [], [])) (some (.agg [Co.purse0, i64 e], [], [])) := Two.mk (.inl rfl) (.inl rfl) (by decide)
theorem putL_len (l : List Q4) (k : Nat) (x : Q4) : (putL l k x).length ≤ l.length + 1 := by
  unfold putL; split <;> simp <;> omega
section
variable {len : Int} {f : Bool} {sh : Sh} {l : List Q4} {w m p q : Int} (hs : Shp l sh) (hl : l.length < 2 ^ 30)
theorem two27 (h : 6 ≤ n) (len : Int) : Two (call gl tab n 27 [i64 len] []) (call gl tab n 32 [i64 len] []) := by
  classical
  rw [newPurse_at h, rnewPurse_at (by omega)]
  split
  · exact Two.mk (.inl rfl) (.inl rfl) (by decide)
  · exact Two.purse0
include hs hl
theorem two24 (h : 9 ≤ n) : Two (call gl tab n 24 [purse len f sh l, i64 w, i64 m] []) (call gl tab n 33 [purse len f sh l, i64 w, i64 m] []) := by
  by_cases hv : VP len l
  · by_cases ha : CArg w m
    · obtain ⟨k, hk⟩ := exists_lb (vp_asc hv) (keyW w)
      by_cases hr : m ≤ (coinOr l k (keyW w)).g
      · rw [receive_same hs hl h hv ha hk hr, rreceive_same hs hl (by omega) hv ha hk hr]
        exact Two.mk hs hs (by omega)
      · by_cases hn : Kc l k w ∨ l.length ≠ 10000
        · rw [receive_ok hs hl h hv ha hk hr hn, rreceive_ok hs hl (by omega) hv ha hk hr hn]
          exact Two.mk (.inr rfl) (.inr rfl) (Nat.lt_of_le_of_lt (putL_len ..) (by omega))
        · have h1 : ¬ Kc l k w := fun h => hn (.inl h)
          have h2 : l.length = 10000 := Classical.not_not.1 fun h => hn (.inr h)
          rw [receive_lim hs hl h hv ha hk hr h1 h2, rreceive_lim hs hl (by omega) hv ha hk hr h1 h2]; exact Two.purse0
    · rw [receive_arg hs hl h hv ha, rreceive_arg hs hl (by omega) hv ha]; exact Two.purse0
  · rw [receive_inv hs hl h hv, rreceive_inv hs hl (by omega) hv]; exact Two.purse0
theorem two28 (h : 9 ≤ n) : Two (call gl tab n 28 [purse len f sh l, i64 w, i64 m] []) (call gl tab n 35 [purse len f sh l, i64 w, i64 m] []) := by
  by_cases hv : VP len l
  · by_cases ha : GArg w m
    · obtain ⟨k, hk⟩ := exists_lb (vp_asc hv) (keyW w)
      by_cases hr : m ≤ leftF (coinOr l k (keyW w))
      · rw [give_ok hs hl h hv ha hk hr, rgive_ok hs hl (by omega) hv ha hk hr]
        exact Two.mk (.inr rfl) (.inr rfl) (Nat.lt_of_le_of_lt (putL_len ..) (by omega))
      · rw [give_state hs hl h hv ha hk hr, rgive_state hs hl (by omega) hv ha hk hr]; exact Two.purse0
    · rw [give_arg hs hl h hv ha, rgive_arg hs hl (by omega) hv ha]; exact Two.purse0
  · rw [give_inv hs hl h hv, rgive_inv hs hl (by omega) hv]; exact Two.purse0
theorem two30 (h : 9 ≤ n) (p q : Int) : Two (call gl tab n 30 [purse len f sh l, .agg [i64 p, i64 q]] []) (call gl tab n 34 [purse len f sh l, .agg [i64 p, i64 q]] []) := by
  by_cases hv : VP len l ∧ PV p q
  · obtain ⟨hv, hp⟩ := hv
    by_cases hr : q / len = p / len
    · obtain ⟨k, hk⟩ := exists_lb (vp_asc hv) (keyW (p / len))
      by_cases h0 : leftF (coinOr l k (keyW (p / len))) = 0
      · rw [spend_state hs hl h hv hp hr hk h0, rspend_state hs hl (by omega) hv hp hr hk h0]; exact Two.purse0
      · rw [spend_ok hs hl h hv hp hr hk h0, rspend_ok hs hl (by omega) hv hp hr hk h0]
        exact Two.mk (.inr rfl) (.inr rfl) (Nat.lt_of_le_of_lt (putL_len ..) (by omega))
    · rw [spend_time hs hl h hv hp hr, rspend_time hs hl (by omega) hv hp hr]; exact Two.purse0
  · rw [spend_f hs hl h hv, rspend_f hs hl (by omega) hv]; exact Two.purse0
theorem two31 (h : 7 ≤ n) (p q : Int) : Two (call gl tab n 31 [purse len f sh l, .agg [i64 p, i64 q]] []) (call gl tab n 36 [purse len f sh l, .agg [i64 p, i64 q]] []) := by
  by_cases hv : VP len l ∧ PV p q
  · rw [drop_ok h len f hs hv.1 p q hv.2, rdrop_ok (by omega) len f hs hv.1 p q hv.2]
    refine Two.mk (.inr rfl) (.inr rfl) (Nat.lt_of_le_of_lt (List.length_filter_le ..) (by omega))
  · rw [drop_f h len f hs hl p q hv, rdrop_f (by omega) len f hs hl p q hv]; exact Two.purse0
theorem two37 (h : 5 ≤ n) : ∃ b, call gl tab n 37 [purse len f sh l] [] = some (.bool b, [], []) ∧ call gl tab n 38 [purse len f sh l] [] = some (.bool b, [], []) := by
  by_cases hv : VP len l
  · exact ⟨true, vp37 h hs hv, vp38 (by omega) hs hv⟩
  · exact ⟨false, nvp37 h hs hl hv, nvp38 (by omega) hs hl hv⟩
theorem two26 (h : 7 ≤ n) (w : Int) : ∃ b, call gl tab n 26 [purse len f sh l, i64 w] [] = some (i64 b, [], []) ∧ call gl tab n 39 [purse len f sh l, i64 w] [] = some (i64 b, [], []) := by
  by_cases hv : VP len l
  · obtain ⟨k, hk⟩ := exists_lb (vp_asc hv) (keyW w)
    exact ⟨_, left_t h len f hs w hv hk, rleft_t (by omega) len f hs w hv hk⟩
  · exact ⟨_, left_f h len f hs hl w hv, rleft_f (by omega) len f hs hl w hv⟩
theorem two29 (h : 7 ≤ n) (w : Int) : ∃ b, call gl tab n 29 [purse len f sh l, i64 w] [] = some (i64 b, [], []) ∧ call gl tab n 40 [purse len f sh l, i64 w] [] = some (i64 b, [], []) := by
  by_cases hv : VP len l
  · obtain ⟨k, hk⟩ := exists_lb (vp_asc hv) (keyW w)
    exact ⟨_, back_t h len f hs w hv hk, rback_t (by omega) len f hs w hv hk⟩
  · exact ⟨_, back_f h len f hs hl w hv, rback_f (by omega) len f hs hl w hv⟩
end
theorem law6_in (hn : 20 ≤ n) (c8 : call gl tab n 8 [] [] = some (.bool true, [], [])) (len w m p q : Int) (l : List Q4) (e3 : (decide (40 < l.length) && decide (l.length < 10000)) = false) (h2 : ¬ 10001 < l.length) :
    call gl tab (n + 1) 6 [purse len false sR l, i64 w, i64 m, .agg [i64 p, i64 q]] [] = some (.bool true, [], []) := by
  have hs : Shp l sR := .inr rfl
  have hl : l.length < 2 ^ 30 := by omega
  obtain ⟨x2, x3, x4, x5, x6, l1, x7, s1, t1, r1, c27, c32⟩ := @two27 gl n (by omega) len
  obtain ⟨y2, y3, y4, y5, y6, l2, y7, s2, t2, r2, c24, c33⟩ := @two24 gl n len false sR l w m hs hl (by omega)
  obtain ⟨z2, z3, z4, z5, z6, l3, z7, s3, t3, r3, c28, c35⟩ := @two28 gl n len false sR l w m hs hl (by omega)
  obtain ⟨u2, u3, u4, u5, u6, l4, u7, s4, t4, r4, c30, c34⟩ := @two30 gl n len false sR l hs hl (by omega) p q
  obtain ⟨v2, v3, v4, v5, v6, l5, v7, s5, t5, r5, c31, c36⟩ := @two31 gl n len false sR l hs hl (by omega) p q
  obtain ⟨b1, c37, c38⟩ := @two37 gl n len false sR l hs hl (by omega)
  obtain ⟨b2, c26, c39⟩ := @two26 gl n len false sR l hs hl (by omega) w
  obtain ⟨b3, c29, c40⟩ := @two29 gl n len false sR l hs hl (by omega) w
  have c251 := @same_at gl n (by omega) x2 x3 x5 x4 x6 l1 s1 t1 r1
  have c252 := @same_at gl n (by omega) y2 y3 y5 y4 y6 l2 s2 t2 r2
  have c253 := @same_at gl n (by omega) z2 z3 z5 z4 z6 l3 s3 t3 r3
  have c254 := @same_at gl n (by omega) u2 u3 u5 u4 u6 l4 s4 t4 r4
  have c255 := @same_at gl n (by omega) v2 v3 v5 v4 v6 l5 s5 t5 r5
  simp only [purse] at c27 c32 c24 c33 c28 c35 c30 c34 c31 c36 c37 c38 c26 c39 c29 c40 c251 c252 c253 c254 c255
  rw [call_go (fd := fd6) rfl]
  simp (disch := ((fail_if_success (intro _)); omega)) only [go_sem, reduceIte, Nat.reduceEqDiff, Nat.reduceAdd, Nat.reduceSub, Nat.reduceMul, Nat.reduceDiv, Nat.reduceMod, Nat.reduceLT, Nat.reduceLeDiff, Nat.reduceBEq, Nat.reduceBNe, Int.reduceLE, Int.reduceLT, Int.reduceToNat, Int.reduceEq, Int.reduceBEq, Int.reduceBNe, Int.reduceNeg, Int.reduceSub, Int.reduceMul, Int.reduceAdd, BitVec.reduceOfInt, reduceCtorEq, ↓reduceIte, tn_add, tn_mul, tn_sub, tn_one, tn_zero, w64, ltN_t, ltN_f, leN_t, leN_f, ltI_t, ltI_f, leI_t, leI_f, eqN_t, eqN_f, eqI_t, eqI_f, beq_t, beq_f, bne_t, bne_f, cast_add, guardK_tt', fd6, m6, purse, rows_length, e3, h2, c8, c27, c32, c24, c33, c28, c35, c30, c34, c31, c36, c37, c38, c26, c39, c29, c40, c251, c252, c253, c254, c255]
end Co
theorem law6 (hn : 20 ≤ n) (c8 : call gl tab n 8 [] [] = some (.bool true, [], [])) (ar : List AV) (h : HasKds [kU, .int .i64, .int .i64, .st [.int .i64, .int .i64]] ar) : call gl tab (n + 1) 6 ar [] = some (.bool true, [], []) := by
  simp only [HasKds] at h
  obtain ⟨_, _, rfl, hb, _, _, rfl, ⟨w, rfl, _⟩, _, _, rfl, ⟨m, rfl, _⟩, _, _, rfl, ⟨_, rfl, hp⟩, rfl⟩ := h
  simp only [HasKds] at hp
  obtain ⟨_, _, rfl, ⟨p, rfl, _⟩, _, _, rfl, ⟨q, rfl, _⟩, rfl⟩ := hp
  obtain ⟨len, l, rfl⟩ := kd_purse hb
  by_cases h1 : 40 < l.length ∧ l.length < 10000
  · have e1 : decide ((40 : Int) < l.length) = true := by simp; omega
    have e2 : decide ((l.length : Int) < 10000) = true := by simp; omega
    rw [call_go (fd := fd6) rfl]
    simp (disch := ((fail_if_success (intro _)); omega)) only [go_sem, reduceIte, Nat.reduceEqDiff, Nat.reduceAdd, Nat.reduceSub, Nat.reduceMul, Nat.reduceDiv, Nat.reduceMod, Nat.reduceLT, Nat.reduceLeDiff, Nat.reduceBEq, Nat.reduceBNe, Int.reduceLE, Int.reduceLT, Int.reduceToNat, Int.reduceEq, Int.reduceBEq, Int.reduceBNe, Int.reduceNeg, Int.reduceSub, Int.reduceMul, Int.reduceAdd, BitVec.reduceOfInt, reduceCtorEq, ↓reduceIte, tn_add, tn_mul, tn_sub, tn_one, tn_zero, w64, ltN_t, ltN_f, leN_t, leN_f, ltI_t, ltI_f, leI_t, leI_f, eqN_t, eqN_f, eqI_t, eqI_f, beq_t, beq_f, bne_t, bne_f, cast_add, fd6, m6, purse, rows_length, e1, e2, c8]
  · have e3 : (decide (40 < l.length) && decide (l.length < 10000)) = false := by simp; omega
    by_cases h2 : 10001 < l.length
    · rw [call_go (fd := fd6) rfl]
      simp (disch := ((fail_if_success (intro _)); omega)) only [go_sem, reduceIte, Nat.reduceEqDiff, Nat.reduceAdd, Nat.reduceSub, Nat.reduceMul, Nat.reduceDiv, Nat.reduceMod, Nat.reduceLT, Nat.reduceLeDiff, Nat.reduceBEq, Nat.reduceBNe, Int.reduceLE, Int.reduceLT, Int.reduceToNat, Int.reduceEq, Int.reduceBEq, Int.reduceBNe, Int.reduceNeg, Int.reduceSub, Int.reduceMul, Int.reduceAdd, BitVec.reduceOfInt, reduceCtorEq, ↓reduceIte, tn_add, tn_mul, tn_sub, tn_one, tn_zero, w64, ltN_t, ltN_f, leN_t, leN_f, ltI_t, ltI_f, leI_t, leI_f, eqN_t, eqN_f, eqI_t, eqI_f, beq_t, beq_f, bne_t, bne_f, cast_add, fd6, m6, purse, rows_length, e3, h2, c8]
    · exact Co.law6_in hn c8 len w m p q l e3 h2
end Go.Proofs.S39
