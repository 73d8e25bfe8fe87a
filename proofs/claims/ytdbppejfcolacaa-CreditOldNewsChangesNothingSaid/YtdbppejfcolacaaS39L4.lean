/-
  Chapter 39: old news changes nothing. No condition.
-/
import Derived.Test.YtdbppejfcolacaaS39cm
import Derived.Test.YtdbppejfcolacaaS39k
namespace Go.Proofs.S39
open Go Go.Ev Go.Proofs
set_option linter.unusedSimpArgs false
set_option linter.unusedVariables false
set_option linter.unusedSectionVars false
variable {gl : Gl} {n : Nat}
theorem bank_news (h : 8 ≤ n) {c len : Int} {f : Bool} {sh : Sh} {l : List Q4} {w g hi : Int} (hs : Shp l sh) (hl : l.length < 2 ^ 30) :
    call gl tab n 11 [bank c len f sh l, i64 w, i64 g, i64 hi] [] = some (.tup [bank0, i64 1], [], []) ∨
    ∃ f' sh' r v v', Shp r sh' ∧ r.length < 2 ^ 60 ∧ call gl tab n 11 [bank c len f sh l, i64 w, i64 g, i64 hi] [] = some (.tup [bank c len f' sh' r, i64 0], [], []) ∧
      (∀ t, 0 ≤ t → t ≤ hi → ∃ f'' sh'', Shp r sh'' ∧ call gl tab n 11 [bank c len f' sh' r, i64 w, i64 g, i64 t] [] = some (.tup [bank c len f'' sh'' r, i64 0], [], [])) ∧
      call gl tab n 22 [bank c len f' sh' r, i64 w] [] = some (i64 v', [], []) ∧ call gl tab n 22 [bank c len f sh l, i64 w] [] = some (i64 v, [], []) ∧ v' ≤ v := by
  by_cases hv : VB c len l
  · obtain ⟨k, hk⟩ := exists_lb (vb_asc hv) (key w g)
    by_cases ha : RArg l k w g hi
    · refine .inr ?_
      obtain ⟨f', sh', s1, e1⟩ := ret_ok (gl := gl) (f := f) hs hl h hv hk ha
      obtain ⟨hv2, hk2, ho, hold⟩ := ret_old hv hk ha
      have hr2 := hv2.r
      refine ⟨f', sh', retL l k w g hi, _, _, s1, by omega, e1, fun t h0 h1 => ?_, out_t (by omega) c len f' s1 w hv2, out_t (by omega) c len f hs w hv, ho⟩
      obtain ⟨ha2, he⟩ := hold t h0 h1
      obtain ⟨f'', sh'', s2, e2⟩ := ret_ok (gl := gl) (f := f') s1 (by omega) h hv2 hk2 ha2
      rw [he] at s2 e2
      exact ⟨f'', sh'', s2, e2⟩
    · exact .inl (ret_arg hs hl h hv hk ha)
  · exact .inl (ret_inv hs hl h hv)
theorem purse_news (h : 9 ≤ n) {len : Int} {f : Bool} {sh : Sh} {l : List Q4} {w hi : Int} (hs : Shp l sh) (hl : l.length < 2 ^ 30) :
    (∃ e : Int, e ≠ 0 ∧ call gl tab n 24 [purse len f sh l, i64 w, i64 hi] [] = some (.tup [Co.purse0, i64 e], [], [])) ∨
    ∃ f' sh' r v v', Shp r sh' ∧ r.length < 2 ^ 60 ∧ call gl tab n 24 [purse len f sh l, i64 w, i64 hi] [] = some (.tup [purse len f' sh' r, i64 0], [], []) ∧
      (∀ t, 0 ≤ t → t ≤ hi → call gl tab n 24 [purse len f' sh' r, i64 w, i64 t] [] = some (.tup [purse len f' sh' r, i64 0], [], [])) ∧
      call gl tab n 26 [purse len f' sh' r, i64 w] [] = some (i64 v', [], []) ∧ call gl tab n 26 [purse len f sh l, i64 w] [] = some (i64 v, [], []) ∧ v ≤ v' := by
  by_cases hv : Co.VP len l
  · by_cases ha : Co.CArg w hi
    · obtain ⟨k, hk⟩ := Co.exists_lb (Co.vp_asc hv) (Co.keyW w)
      by_cases hr : hi ≤ (Co.coinOr l k (Co.keyW w)).g
      · refine .inr ⟨f, sh, l, _, _, hs, by omega, Co.receive_same hs hl h hv ha hk hr, fun t h0 h1 => ?_, Co.left_t (by omega) len f hs w hv hk, Co.left_t (by omega) len f hs w hv hk, Int.le_refl _⟩
        exact Co.receive_same hs hl h hv ⟨ha.w, h0, by have := ha.t; omega⟩ hk (by omega)
      · by_cases hn : Co.Kc l k w ∨ l.length ≠ 10000
        · have hb := Co.coin_bd hv k w
          have hkey := Co.coin_key l k w
          have ht := ha.t
          have hx : Co.CoinVal (Co.gotC (Co.coinOr l k (Co.keyW w)) hi) := ⟨by simp only [Co.gotC]; rw [hkey]; exact ha.w, ha.t, by simp only [Co.gotC]; omega, by simp only [Co.gotC]; omega⟩
          obtain ⟨hv2, hk2, hc2⟩ := Co.coin_put hv (x := Co.gotC (Co.coinOr l k (Co.keyW w)) hi) hkey hk hx hn
          have hr2 := hv2.r
          have e1 := Co.left_t (gl := gl) (show 7 ≤ n by omega) len false (.inr rfl) w hv2 hk2
          rw [hc2] at e1
          refine .inr ⟨false, sR, _, _, _, .inr rfl, by omega, Co.receive_ok hs hl h hv ha hk hr hn, fun t h0 h1 => ?_, e1, Co.left_t (by omega) len f hs w hv hk, by simp only [Co.leftF, Co.gotC]; omega⟩
          exact Co.receive_same (.inr rfl) (by omega) h hv2 ⟨ha.w, h0, by omega⟩ hk2 (by rw [hc2]; exact h1)
        · exact .inl ⟨2, by decide, Co.receive_lim hs hl h hv ha hk hr (fun h => hn (.inl h)) (Classical.not_not.1 fun h => hn (.inr h))⟩
    · exact .inl ⟨1, by decide, Co.receive_arg hs hl h hv ha⟩
  · exact .inl ⟨1, by decide, Co.receive_inv hs hl h hv⟩
set_option maxHeartbeats 2000000 in
theorem law4_in (hn : 20 ≤ n) (c8 : call gl tab n 8 [] [] = some (.bool true, [], [])) (c len lp w g a b hi : Int) (l r : List Q4) (h1 : l.length ≤ 40) (h2 : r.length ≤ 40) (h3 : 0 ≤ a) (h4 : 0 ≤ b)
    (h5 : (if a < b then b else a) = hi) (h6 : a ≤ hi) (h7 : b ≤ hi) :
    call gl tab (n + 1) 4 [bank c len false sR l, purse lp false sR r, i64 w, i64 g, i64 a, i64 b] [] = some (.bool true, [], []) := by
  rw [call_go (fd := fd4) rfl]
  have hm : mx a b = hi := h5
  rcases @bank_news gl n (by omega) c len false sR l w g hi (.inr rfl) (by omega) with c11 | ⟨f1, sh1, l1, v1, v2, s1, r1, c11, hold, c22, c22', hv⟩
  · rcases @purse_news gl n (by omega) lp false sR r w hi (.inr rfl) (by omega) with ⟨e, he, c24⟩ | ⟨f2, sh2, q1, u1, u2, s2, r2, c24, hol2, c26, c26', hu⟩
    · have he2 : (e == 0) = false := by simpa using he
      simp only [bank, purse, Co.purse0] at c11 c24
      simp (disch := ((fail_if_success (intro _)); omega)) only [go_sem, reduceIte, Nat.reduceEqDiff, Nat.reduceAdd, Nat.reduceSub, Nat.reduceMul, Nat.reduceDiv, Nat.reduceMod, Nat.reduceLT, Nat.reduceLeDiff, Nat.reduceBEq, Nat.reduceBNe, Int.reduceLE, Int.reduceLT, Int.reduceToNat, Int.reduceEq, Int.reduceBEq, Int.reduceBNe, Int.reduceNeg, Int.reduceSub, Int.reduceMul, Int.reduceAdd, BitVec.reduceOfInt, reduceCtorEq, ↓reduceIte, tn_add, tn_mul, tn_sub, tn_one, tn_zero, w64, ltN_t, ltN_f, leN_t, leN_f, ltI_t, ltI_f, leI_t, leI_f, eqN_t, eqN_f, eqI_t, eqI_f, beq_t, beq_f, bne_t, bne_f, cast_add, fd4, m4, bank, purse, rows_length, c8, foldO, maxAV, gt_iff_lt, h5, c11, c24, he2, bne, rows_nil]
    · have d1 := hol2 a h3 h6
      have d2 := hol2 b h4 h7
      have c25 := @Co.same_at gl n (by omega) lp f2 f2 sh2 sh2 q1 s2 s2 r2
      simp only [bank, purse] at c11 c24 c26 c26' d1 d2 c25
      simp (disch := ((fail_if_success (intro _)); omega)) only [go_sem, reduceIte, Nat.reduceEqDiff, Nat.reduceAdd, Nat.reduceSub, Nat.reduceMul, Nat.reduceDiv, Nat.reduceMod, Nat.reduceLT, Nat.reduceLeDiff, Nat.reduceBEq, Nat.reduceBNe, Int.reduceLE, Int.reduceLT, Int.reduceToNat, Int.reduceEq, Int.reduceBEq, Int.reduceBNe, Int.reduceNeg, Int.reduceSub, Int.reduceMul, Int.reduceAdd, BitVec.reduceOfInt, reduceCtorEq, ↓reduceIte, tn_add, tn_mul, tn_sub, tn_one, tn_zero, w64, ltN_t, ltN_f, leN_t, leN_f, ltI_t, ltI_f, leI_t, leI_f, eqN_t, eqN_f, eqI_t, eqI_f, beq_t, beq_f, bne_t, bne_f, cast_add, guardK_tt', fd4, m4, bank, purse, rows_length, c8, foldO, maxAV, gt_iff_lt, h5, c11, c24, c26, c26', d1, d2, c25, bne, rows_nil]
  · obtain ⟨f3, sh3, s3, d3⟩ := hold a h3 h6
    obtain ⟨f4, sh4, s4, d4⟩ := hold b h4 h7
    have c191 := @same_at gl n (by omega) c len f1 f3 sh1 sh3 l1 s1 s3 r1
    have c192 := @same_at gl n (by omega) c len f1 f4 sh1 sh4 l1 s1 s4 r1
    rcases @purse_news gl n (by omega) lp false sR r w hi (.inr rfl) (by omega) with ⟨e, he, c24⟩ | ⟨f2, sh2, q1, u1, u2, s2, r2, c24, hol2, c26, c26', hu⟩
    · have he2 : (e == 0) = false := by simpa using he
      simp only [bank, purse, Co.purse0] at c11 c24 d3 d4 c191 c192 c22 c22'
      simp (disch := ((fail_if_success (intro _)); omega)) only [go_sem, reduceIte, Nat.reduceEqDiff, Nat.reduceAdd, Nat.reduceSub, Nat.reduceMul, Nat.reduceDiv, Nat.reduceMod, Nat.reduceLT, Nat.reduceLeDiff, Nat.reduceBEq, Nat.reduceBNe, Int.reduceLE, Int.reduceLT, Int.reduceToNat, Int.reduceEq, Int.reduceBEq, Int.reduceBNe, Int.reduceNeg, Int.reduceSub, Int.reduceMul, Int.reduceAdd, BitVec.reduceOfInt, reduceCtorEq, ↓reduceIte, tn_add, tn_mul, tn_sub, tn_one, tn_zero, w64, ltN_t, ltN_f, leN_t, leN_f, ltI_t, ltI_f, leI_t, leI_f, eqN_t, eqN_f, eqI_t, eqI_f, beq_t, beq_f, bne_t, bne_f, cast_add, Co.guardK_ff', guardK_tt', fd4, m4, bank, purse, rows_length, c8, foldO, maxAV, gt_iff_lt, h5, c11, c24, he2, d3, d4, c191, c192, c22, c22', bne, rows_nil]
    · have d1 := hol2 a h3 h6
      have d2 := hol2 b h4 h7
      have c25 := @Co.same_at gl n (by omega) lp f2 f2 sh2 sh2 q1 s2 s2 r2
      simp only [bank, purse] at c11 c24 d3 d4 c191 c192 c22 c22' c26 c26' d1 d2 c25
      simp (disch := ((fail_if_success (intro _)); omega)) only [go_sem, reduceIte, Nat.reduceEqDiff, Nat.reduceAdd, Nat.reduceSub, Nat.reduceMul, Nat.reduceDiv, Nat.reduceMod, Nat.reduceLT, Nat.reduceLeDiff, Nat.reduceBEq, Nat.reduceBNe, Int.reduceLE, Int.reduceLT, Int.reduceToNat, Int.reduceEq, Int.reduceBEq, Int.reduceBNe, Int.reduceNeg, Int.reduceSub, Int.reduceMul, Int.reduceAdd, BitVec.reduceOfInt, reduceCtorEq, ↓reduceIte, tn_add, tn_mul, tn_sub, tn_one, tn_zero, w64, ltN_t, ltN_f, leN_t, leN_f, ltI_t, ltI_f, leI_t, leI_f, eqN_t, eqN_f, eqI_t, eqI_f, beq_t, beq_f, bne_t, bne_f, cast_add, Co.guardK_ff', guardK_tt', fd4, m4, bank, purse, rows_length, c8, foldO, maxAV, gt_iff_lt, h5, c11, c24, c26, c26', d1, d2, c25, d3, d4, c191, c192, c22, c22', bne, rows_nil]
theorem law4 (hn : 20 ≤ n) (c8 : call gl tab n 8 [] [] = some (.bool true, [], [])) (ar : List AV) (h : HasKds [kB, kU, .int .i64, .int .i64, .int .i64, .int .i64] ar) : call gl tab (n + 1) 4 ar [] = some (.bool true, [], []) := by
  simp only [HasKds] at h
  obtain ⟨_, _, rfl, hb, _, _, rfl, hp, _, _, rfl, ⟨w, rfl, _⟩, _, _, rfl, ⟨g, rfl, _⟩, _, _, rfl, ⟨a, rfl, _⟩, _, _, rfl, ⟨b, rfl, _⟩, rfl⟩ := h
  obtain ⟨c, len, l, rfl⟩ := kd_bank hb
  obtain ⟨lp, r, rfl⟩ := kd_purse hp
  by_cases h1 : l.length ≤ 40
  case neg =>
    rw [call_go (fd := fd4) rfl]
    simp (disch := ((fail_if_success (intro _)); omega)) only [go_sem, reduceIte, Nat.reduceEqDiff, Nat.reduceAdd, Nat.reduceSub, Nat.reduceMul, Nat.reduceDiv, Nat.reduceMod, Nat.reduceLT, Nat.reduceLeDiff, Nat.reduceBEq, Nat.reduceBNe, Int.reduceLE, Int.reduceLT, Int.reduceToNat, Int.reduceEq, Int.reduceBEq, Int.reduceBNe, Int.reduceNeg, Int.reduceSub, Int.reduceMul, Int.reduceAdd, BitVec.reduceOfInt, reduceCtorEq, ↓reduceIte, tn_add, tn_mul, tn_sub, tn_one, tn_zero, w64, ltN_t, ltN_f, leN_t, leN_f, ltI_t, ltI_f, leI_t, leI_f, eqN_t, eqN_f, eqI_t, eqI_f, beq_t, beq_f, bne_t, bne_f, cast_add, fd4, m4, bank, purse, rows_length, c8]
  by_cases h2 : r.length ≤ 40
  case neg =>
    rw [call_go (fd := fd4) rfl]
    simp (disch := ((fail_if_success (intro _)); omega)) only [go_sem, reduceIte, Nat.reduceEqDiff, Nat.reduceAdd, Nat.reduceSub, Nat.reduceMul, Nat.reduceDiv, Nat.reduceMod, Nat.reduceLT, Nat.reduceLeDiff, Nat.reduceBEq, Nat.reduceBNe, Int.reduceLE, Int.reduceLT, Int.reduceToNat, Int.reduceEq, Int.reduceBEq, Int.reduceBNe, Int.reduceNeg, Int.reduceSub, Int.reduceMul, Int.reduceAdd, BitVec.reduceOfInt, reduceCtorEq, ↓reduceIte, tn_add, tn_mul, tn_sub, tn_one, tn_zero, w64, ltN_t, ltN_f, leN_t, leN_f, ltI_t, ltI_f, leI_t, leI_f, eqN_t, eqN_f, eqI_t, eqI_f, beq_t, beq_f, bne_t, bne_f, cast_add, fd4, m4, bank, purse, rows_length, c8]
  by_cases h3 : 0 ≤ a
  case neg =>
    rw [call_go (fd := fd4) rfl]
    simp (disch := ((fail_if_success (intro _)); omega)) only [go_sem, reduceIte, Nat.reduceEqDiff, Nat.reduceAdd, Nat.reduceSub, Nat.reduceMul, Nat.reduceDiv, Nat.reduceMod, Nat.reduceLT, Nat.reduceLeDiff, Nat.reduceBEq, Nat.reduceBNe, Int.reduceLE, Int.reduceLT, Int.reduceToNat, Int.reduceEq, Int.reduceBEq, Int.reduceBNe, Int.reduceNeg, Int.reduceSub, Int.reduceMul, Int.reduceAdd, BitVec.reduceOfInt, reduceCtorEq, ↓reduceIte, tn_add, tn_mul, tn_sub, tn_one, tn_zero, w64, ltN_t, ltN_f, leN_t, leN_f, ltI_t, ltI_f, leI_t, leI_f, eqN_t, eqN_f, eqI_t, eqI_f, beq_t, beq_f, bne_t, bne_f, cast_add, fd4, m4, bank, purse, rows_length, c8]
  by_cases h4 : 0 ≤ b
  case neg =>
    rw [call_go (fd := fd4) rfl]
    simp (disch := ((fail_if_success (intro _)); omega)) only [go_sem, reduceIte, Nat.reduceEqDiff, Nat.reduceAdd, Nat.reduceSub, Nat.reduceMul, Nat.reduceDiv, Nat.reduceMod, Nat.reduceLT, Nat.reduceLeDiff, Nat.reduceBEq, Nat.reduceBNe, Int.reduceLE, Int.reduceLT, Int.reduceToNat, Int.reduceEq, Int.reduceBEq, Int.reduceBNe, Int.reduceNeg, Int.reduceSub, Int.reduceMul, Int.reduceAdd, BitVec.reduceOfInt, reduceCtorEq, ↓reduceIte, tn_add, tn_mul, tn_sub, tn_one, tn_zero, w64, ltN_t, ltN_f, leN_t, leN_f, ltI_t, ltI_f, leI_t, leI_f, eqN_t, eqN_f, eqI_t, eqI_f, beq_t, beq_f, bne_t, bne_f, cast_add, fd4, m4, bank, purse, rows_length, c8]
  exact law4_in hn c8 c len lp w g a b _ l r h1 h2 h3 h4 rfl (by split <;> omega) (by split <;> omega)
end Go.Proofs.S39
