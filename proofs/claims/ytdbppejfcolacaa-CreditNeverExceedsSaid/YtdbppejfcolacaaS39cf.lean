/-
  Chapter 39: purses: Receive, Spend, Give. No condition.
-/
import Derived.Test.YtdbppejfcolacaaS39ce
import Derived.Test.YtdbppejfcolacaaS39h
set_option linter.unusedVariables false
set_option linter.unusedSimpArgs false
set_option linter.unusedSectionVars false
namespace Go.Proofs.S39
namespace Co
open Go Go.Ev Go.Proofs
set_option linter.unusedSimpArgs false
set_option linter.unusedVariables false
set_option linter.unusedSectionVars false
variable {gl : Gl} {n : Nat}
structure CArg (w t : Int) : Prop where
  w : 0 ≤ w ∧ w ≤ 1099511627776
  t : 0 ≤ t ∧ t ≤ 1099511627776
structure GArg (w m : Int) : Prop where
  w : 0 ≤ w ∧ w ≤ 1099511627776
  m : 1 ≤ m ∧ m ≤ 1073741824
def gotC (x : Q4) (t : Int) : Q4 := ⟨x.w, t, x.d, x.b⟩
def spentC (x : Q4) : Q4 := ⟨x.w, x.g, x.d + 1, x.b⟩
def backC (x : Q4) (m : Int) : Q4 := ⟨x.w, x.g, x.d, x.b + m⟩
theorem quo_ok {len p : Int} (hl : 1 ≤ len) (hp : 0 ≤ p ∧ p ≤ 1099511627776) : IntKind.wrap .i64 (p.tdiv len) = p / len ∧ 0 ≤ p / len ∧ p / len ≤ 1099511627776 := by
  have h1 : p / len ≤ p := Int.ediv_le_self _ hp.1
  have h2 : 0 ≤ p / len := Int.ediv_nonneg hp.1 (by omega)
  refine ⟨?_, h2, by omega⟩
  rw [Int.tdiv_eq_ediv_of_nonneg hp.1]
  exact wrap_i64 (by omega) (by omega)
section
variable {len : Int} {f : Bool} {sh : Sh} {l : List Q4} {w m p q : Int} {k : Nat} (hs : Shp l sh) (hl : l.length < 2 ^ 30)
include hs hl
theorem receive_inv (h : 9 ≤ n) (hv : ¬ VP len l) : call gl tab n 24 [purse len f sh l, i64 w, i64 m] [] = some (.tup [purse0, i64 1], [], []) := by
  obtain ⟨d, rfl⟩ := Nat.exists_eq_add_of_le' h
  have c37 := @nvp37 gl (d + 8) (by omega) len f sh l hs hl hv
  have c43 := @isWindow_at gl (d + 8) (by omega)
  have c45 := @within_at gl (d + 8) (by omega)
  simp only [purse] at c37
  rw [call_go (fd := fd24) rfl]
  simp (disch := ((fail_if_success (intro _)); omega)) only [go_sem, simprocAttr, ↓reduceIte, xx, fd24, m24, purse, c37, c43, c45, rows_nil]
theorem give_inv (h : 9 ≤ n) (hv : ¬ VP len l) : call gl tab n 28 [purse len f sh l, i64 w, i64 m] [] = some (.tup [purse0, i64 1], [], []) := by
  obtain ⟨d, rfl⟩ := Nat.exists_eq_add_of_le' h
  have c37 := @nvp37 gl (d + 8) (by omega) len f sh l hs hl hv
  have c43 := @isWindow_at gl (d + 8) (by omega)
  have c45 := @within_at gl (d + 8) (by omega)
  simp only [purse] at c37
  rw [call_go (fd := fd28) rfl]
  simp (disch := ((fail_if_success (intro _)); omega)) only [go_sem, simprocAttr, ↓reduceIte, xx, fd28, m28, purse, c37, c43, c45, rows_nil]
theorem receive_arg (h : 9 ≤ n) (hv : VP len l) (ha : ¬ CArg w m) : call gl tab n 24 [purse len f sh l, i64 w, i64 m] [] = some (.tup [purse0, i64 1], [], []) := by
  obtain ⟨d, rfl⟩ := Nat.exists_eq_add_of_le' h
  have c37 := @vp37 gl (d + 8) (by omega) len f sh l hs hv
  have c43 := @isWindow_at gl (d + 8) (by omega)
  have c45 := @within_at gl (d + 8) (by omega)
  simp only [purse] at c37
  rw [call_go (fd := fd24) rfl]
  cases hA : (decide (0 ≤ w) && decide (w ≤ 1099511627776))
  · simp (disch := ((fail_if_success (intro _)); omega)) only [go_sem, simprocAttr, ↓reduceIte, xx, fd24, m24, purse, c37, c43, c45, rows_nil, hA]
  cases hB : (decide (0 ≤ m) && decide (m ≤ 1099511627776))
  · simp (disch := ((fail_if_success (intro _)); omega)) only [go_sem, simprocAttr, ↓reduceIte, xx, fd24, m24, purse, c37, c43, c45, rows_nil, hA, hB]
  simp only [Bool.and_eq_true, decide_eq_true_eq] at hA hB
  exact absurd ⟨hA, hB⟩ ha
theorem give_arg (h : 9 ≤ n) (hv : VP len l) (ha : ¬ GArg w m) : call gl tab n 28 [purse len f sh l, i64 w, i64 m] [] = some (.tup [purse0, i64 1], [], []) := by
  obtain ⟨d, rfl⟩ := Nat.exists_eq_add_of_le' h
  have c37 := @vp37 gl (d + 8) (by omega) len f sh l hs hv
  have c43 := @isWindow_at gl (d + 8) (by omega)
  have c45 := @within_at gl (d + 8) (by omega)
  simp only [purse] at c37
  rw [call_go (fd := fd28) rfl]
  cases hA : (decide (0 ≤ w) && decide (w ≤ 1099511627776))
  · simp (disch := ((fail_if_success (intro _)); omega)) only [go_sem, simprocAttr, ↓reduceIte, xx, fd28, m28, purse, c37, c43, c45, rows_nil, hA]
  cases hB : (decide (1 ≤ m) && decide (m ≤ 1073741824))
  · simp (disch := ((fail_if_success (intro _)); omega)) only [go_sem, simprocAttr, ↓reduceIte, xx, fd28, m28, purse, c37, c43, c45, rows_nil, hA, hB]
  simp only [Bool.and_eq_true, decide_eq_true_eq] at hA hB
  exact absurd ⟨hA, hB⟩ ha
theorem receive_same (h : 9 ≤ n) (hv : VP len l) (ha : CArg w m) (hk : Lb l (keyW w) k) (hr : m ≤ (coinOr l k (keyW w)).g) : call gl tab n 24 [purse len f sh l, i64 w, i64 m] [] = some (.tup [purse len f sh l, i64 0], [], []) := by
  obtain ⟨d, rfl⟩ := Nat.exists_eq_add_of_le' h
  have c37 := @vp37 gl (d + 8) (by omega) len f sh l hs hv
  have c43 := @isWindow_at gl (d + 8) (by omega)
  have c45 := @within_at gl (d + 8) (by omega)
  have c61 := @coinOf_at gl (d + 8) (by omega) len f sh l hs (by have := hv.r; omega) (vp_asc hv) w k hk
  obtain ⟨⟨a1, a2⟩, ⟨a3, a4⟩⟩ := ha
  have e1 := coin_key l k w
  simp only [purse, Q4.av, e1] at c37 c61 ⊢
  generalize coinOr l k (keyW w) = x at *
  rw [call_go (fd := fd24) rfl]
  simp (disch := ((fail_if_success (intro _)); omega)) only [go_sem, simprocAttr, ↓reduceIte, xx, fd24, m24, c37, c43, c45, c61, rows_length]
theorem receive_lim (h : 9 ≤ n) (hv : VP len l) (ha : CArg w m) (hk : Lb l (keyW w) k) (hr : ¬ m ≤ (coinOr l k (keyW w)).g) (hn : ¬ Kc l k w) (h4 : l.length = 10000) : call gl tab n 24 [purse len f sh l, i64 w, i64 m] [] = some (.tup [purse0, i64 2], [], []) := by
  obtain ⟨d, rfl⟩ := Nat.exists_eq_add_of_le' h
  have c37 := @vp37 gl (d + 8) (by omega) len f sh l hs hv
  have c43 := @isWindow_at gl (d + 8) (by omega)
  have c45 := @within_at gl (d + 8) (by omega)
  have c61 := @coinOf_at gl (d + 8) (by omega) len f sh l hs (by have := hv.r; omega) (vp_asc hv) w k hk
  obtain ⟨⟨a1, a2⟩, ⟨a3, a4⟩⟩ := ha
  have e1 := coin_key l k w
  have hkn2 : ¬ (k < l.length ∧ (at' l k).cmpW (keyW w) = 0) := hn
  simp only [hkn2, decide_false] at c61
  simp only [purse, Q4.av, e1] at c37 c61 ⊢
  generalize coinOr l k (keyW w) = x at *
  rw [call_go (fd := fd24) rfl]
  simp (disch := ((fail_if_success (intro _)); omega)) only [go_sem, simprocAttr, ↓reduceIte, xx, fd24, m24, c37, c43, c45, c61, rows_length, rows_nil]
theorem receive_ok (h : 9 ≤ n) (hv : VP len l) (ha : CArg w m) (hk : Lb l (keyW w) k) (hr : ¬ m ≤ (coinOr l k (keyW w)).g) (hn : Kc l k w ∨ l.length ≠ 10000) :
    call gl tab n 24 [purse len f sh l, i64 w, i64 m] [] = some (.tup [purse len false sR (putL l k (gotC (coinOr l k (keyW w)) m)), i64 0], [], []) := by
  obtain ⟨d, rfl⟩ := Nat.exists_eq_add_of_le' h
  have c37 := @vp37 gl (d + 8) (by omega) len f sh l hs hv
  have c43 := @isWindow_at gl (d + 8) (by omega)
  have c45 := @within_at gl (d + 8) (by omega)
  have c61 := @coinOf_at gl (d + 8) (by omega) len f sh l hs (by have := hv.r; omega) (vp_asc hv) w k hk
  have c62 := @with_at gl (d + 8) (by omega) len f sh l hs hl (vp_asc hv) (gotC (coinOr l k (keyW w)) m) k (lb_key hk (coin_key l k w))
  have hr0 := hv.r
  obtain ⟨⟨a1, a2⟩, ⟨a3, a4⟩⟩ := ha
  have e1 := coin_key l k w
  rw [call_go (fd := fd24) rfl]
  by_cases hkn : Kc l k w
  · have hkn2 : (k < l.length ∧ (at' l k).cmpW (keyW w) = 0) := hkn
    simp only [hkn2, and_self, decide_true] at c61
    simp only [keyW] at e1 c61 c62 hr ⊢
    simp only [purse, Q4.av, gotC, e1] at c37 c61 c62 ⊢
    simp (disch := ((fail_if_success (intro _)); omega)) only [go_sem, simprocAttr, ↓reduceIte, xx, fd24, m24, c37, c43, c45, c61, c62, rows_length, e1]
  · have hkn2 : ¬ (k < l.length ∧ (at' l k).cmpW (keyW w) = 0) := hkn
    simp only [hkn2, decide_false] at c61
    have r4 : l.length ≠ 10000 := hn.resolve_left hkn
    simp only [keyW] at e1 c61 c62 hr ⊢
    simp only [purse, Q4.av, gotC, e1] at c37 c61 c62 ⊢
    simp (disch := ((fail_if_success (intro _)); omega)) only [go_sem, simprocAttr, ↓reduceIte, xx, fd24, m24, c37, c43, c45, c61, c62, rows_length, e1]
theorem give_state (h : 9 ≤ n) (hv : VP len l) (ha : GArg w m) (hk : Lb l (keyW w) k) (hr : ¬ m ≤ leftF (coinOr l k (keyW w))) : call gl tab n 28 [purse len f sh l, i64 w, i64 m] [] = some (.tup [purse0, i64 4], [], []) := by
  obtain ⟨d, rfl⟩ := Nat.exists_eq_add_of_le' h
  have c37 := @vp37 gl (d + 8) (by omega) len f sh l hs hv
  have c43 := @isWindow_at gl (d + 8) (by omega)
  have c45 := @within_at gl (d + 8) (by omega)
  have c26 := @left_t gl (d + 8) (by omega) len f sh l hs w hv k hk
  obtain ⟨⟨a1, a2⟩, ⟨a3, a4⟩⟩ := ha
  simp only [purse] at c37 c26 ⊢
  generalize leftF (coinOr l k (keyW w)) = x at *
  rw [call_go (fd := fd28) rfl]
  simp (disch := ((fail_if_success (intro _)); omega)) only [go_sem, simprocAttr, ↓reduceIte, xx, fd28, m28, c37, c43, c45, c26, rows_length, rows_nil]
theorem give_ok (h : 9 ≤ n) (hv : VP len l) (ha : GArg w m) (hk : Lb l (keyW w) k) (hr : m ≤ leftF (coinOr l k (keyW w))) :
    call gl tab n 28 [purse len f sh l, i64 w, i64 m] [] = some (.tup [purse len false sR (putL l k (backC (coinOr l k (keyW w)) m)), i64 0], [], []) := by
  obtain ⟨d, rfl⟩ := Nat.exists_eq_add_of_le' h
  have c37 := @vp37 gl (d + 8) (by omega) len f sh l hs hv
  have c43 := @isWindow_at gl (d + 8) (by omega)
  have c45 := @within_at gl (d + 8) (by omega)
  have c26 := @left_t gl (d + 8) (by omega) len f sh l hs w hv k hk
  have c61 := @coinOf_at gl (d + 8) (by omega) len f sh l hs (by have := hv.r; omega) (vp_asc hv) w k hk
  have c62 := @with_at gl (d + 8) (by omega) len f sh l hs hl (vp_asc hv) (backC (coinOr l k (keyW w)) m) k (lb_key hk (coin_key l k w))
  have hbd := coin_bd hv k w
  obtain ⟨⟨a1, a2⟩, ⟨a3, a4⟩⟩ := ha
  have e1 := coin_key l k w
  simp only [keyW] at e1 c61 c62 c26 hr hbd ⊢
  simp only [purse, Q4.av, backC, e1, leftF] at c37 c61 c62 c26 hr ⊢
  rw [call_go (fd := fd28) rfl]
  simp (disch := ((fail_if_success (intro _)); omega)) only [go_sem, simprocAttr, ↓reduceIte, xx, fd28, m28, c37, c43, c45, c61, c62, c26, rows_length, e1]
theorem spend_f (h : 9 ≤ n) (hv : ¬ (VP len l ∧ PV p q)) : call gl tab n 30 [purse len f sh l, .agg [i64 p, i64 q]] [] = some (.tup [purse0, i64 1], [], []) := by
  obtain ⟨d, rfl⟩ := Nat.exists_eq_add_of_le' h
  have c49 := @pvalid_at gl (d + 8) (by omega) p q
  rw [call_go (fd := fd30) rfl]
  by_cases hv1 : VP len l
  · have c37 := @vp37 gl (d + 8) (by omega) len f sh l hs hv1
    rw [decide_eq_false fun h => hv ⟨hv1, h⟩] at c49
    simp only [purse] at c37
    simp (disch := ((fail_if_success (intro _)); omega)) only [go_sem, simprocAttr, ↓reduceIte, xx, fd30, m30, purse, c37, c49, rows_nil]
  · have c37 := @nvp37 gl (d + 8) (by omega) len f sh l hs hl hv1
    simp only [purse] at c37
    simp (disch := ((fail_if_success (intro _)); omega)) only [go_sem, simprocAttr, ↓reduceIte, xx, fd30, m30, purse, c37, c49, rows_nil]
theorem spend_time (h : 9 ≤ n) (hv : VP len l) (hp : PV p q) (hr : ¬ q / len = p / len) : call gl tab n 30 [purse len f sh l, .agg [i64 p, i64 q]] [] = some (.tup [purse0, i64 9], [], []) := by
  obtain ⟨d, rfl⟩ := Nat.exists_eq_add_of_le' h
  have c37 := @vp37 gl (d + 8) (by omega) len f sh l hs hv
  have c49 := @pvalid_at gl (d + 8) (by omega) p q
  obtain ⟨hn1, hn2⟩ := hv.n
  obtain ⟨p1, p2, p3⟩ := hp
  rw [decide_eq_true (show PV p q from ⟨p1, p2, p3⟩)] at c49
  obtain ⟨w1, w2⟩ := quo_ok hn1 ⟨p1, by omega⟩
  obtain ⟨w3, w4⟩ := quo_ok hn1 (show 0 ≤ q ∧ q ≤ 1099511627776 by omega)
  have hl0 : ¬ len = 0 := by omega
  have hne : (q / len == p / len) = false := by simpa using hr
  simp only [purse] at c37 ⊢
  rw [call_go (fd := fd30) rfl]
  simp (disch := ((fail_if_success (intro _)); omega)) only [go_sem, simprocAttr, ↓reduceIte, xx, fd30, m30, c37, c49, binInt, hl0, w1, w3, rows_nil, hne, bne]
theorem spend_state (h : 9 ≤ n) (hv : VP len l) (hp : PV p q) (hr : q / len = p / len) (hk : Lb l (keyW (p / len)) k) (h0 : leftF (coinOr l k (keyW (p / len))) = 0) :
    call gl tab n 30 [purse len f sh l, .agg [i64 p, i64 q]] [] = some (.tup [purse0, i64 4], [], []) := by
  obtain ⟨d, rfl⟩ := Nat.exists_eq_add_of_le' h
  have c37 := @vp37 gl (d + 8) (by omega) len f sh l hs hv
  have c49 := @pvalid_at gl (d + 8) (by omega) p q
  obtain ⟨hn1, hn2⟩ := hv.n
  obtain ⟨p1, p2, p3⟩ := hp
  rw [decide_eq_true (show PV p q from ⟨p1, p2, p3⟩)] at c49
  obtain ⟨w1, w2⟩ := quo_ok hn1 ⟨p1, by omega⟩
  obtain ⟨w3, w4⟩ := quo_ok hn1 (show 0 ≤ q ∧ q ≤ 1099511627776 by omega)
  have hl0 : ¬ len = 0 := by omega
  have c26 := @left_t gl (d + 8) (by omega) len f sh l hs (p / len) hv k hk
  rw [h0] at c26
  simp only [purse] at c37 c26 ⊢
  rw [call_go (fd := fd30) rfl]
  simp (disch := ((fail_if_success (intro _)); omega)) only [go_sem, simprocAttr, ↓reduceIte, xx, fd30, m30, c37, c49, c26, binInt, hl0, w1, w3, rows_nil, hr, bne]
theorem spend_ok (h : 9 ≤ n) (hv : VP len l) (hp : PV p q) (hr : q / len = p / len) (hk : Lb l (keyW (p / len)) k) (h0 : ¬ leftF (coinOr l k (keyW (p / len))) = 0) :
    call gl tab n 30 [purse len f sh l, .agg [i64 p, i64 q]] [] = some (.tup [purse len false sR (putL l k (spentC (coinOr l k (keyW (p / len))))), i64 0], [], []) := by
  obtain ⟨d, rfl⟩ := Nat.exists_eq_add_of_le' h
  have c37 := @vp37 gl (d + 8) (by omega) len f sh l hs hv
  have c49 := @pvalid_at gl (d + 8) (by omega) p q
  obtain ⟨hn1, hn2⟩ := hv.n
  obtain ⟨p1, p2, p3⟩ := hp
  rw [decide_eq_true (show PV p q from ⟨p1, p2, p3⟩)] at c49
  obtain ⟨w1, w2⟩ := quo_ok hn1 ⟨p1, by omega⟩
  obtain ⟨w3, w4⟩ := quo_ok hn1 (show 0 ≤ q ∧ q ≤ 1099511627776 by omega)
  have hl0 : ¬ len = 0 := by omega
  have c26 := @left_t gl (d + 8) (by omega) len f sh l hs (p / len) hv k hk
  have hne : (leftF (coinOr l k (keyW (p / len))) == 0) = false := by simpa using h0
  have c61 := @coinOf_at gl (d + 8) (by omega) len f sh l hs (by have := hv.r; omega) (vp_asc hv) (p / len) k hk
  have c62 := @with_at gl (d + 8) (by omega) len f sh l hs hl (vp_asc hv) (spentC (coinOr l k (keyW (p / len)))) k (lb_key hk (coin_key l k (p / len)))
  have hbd := coin_bd hv k (p / len)
  have e1 := coin_key l k (p / len)
  simp only [keyW] at e1 c61 c62 c26 hne hbd ⊢
  simp only [purse, Q4.av, spentC, e1] at c37 c61 c62 c26 ⊢
  rw [call_go (fd := fd30) rfl]
  simp (disch := ((fail_if_success (intro _)); omega)) only [go_sem, simprocAttr, ↓reduceIte, xx, fd30, m30, c37, c49, c26, c61, c62, binInt, hl0, w1, w3, rows_length, e1, hne, hr, bne]
theorem rreceive_inv (h : 6 ≤ n) (hv : ¬ VP len l) : call gl tab n 33 [purse len f sh l, i64 w, i64 m] [] = some (.agg [purse0, i64 1], [], []) := by
  obtain ⟨d, rfl⟩ := Nat.exists_eq_add_of_le' h
  have c37 := @nvp38 gl (d + 5) (by omega) len f sh l hs hl hv
  have c43 := @rwindow_at gl (d + 5) (by omega)
  simp only [purse] at c37
  rw [call_go (fd := fd33) rfl]
  simp (disch := ((fail_if_success (intro _)); omega)) only [go_sem, simprocAttr, ↓reduceIte, xx, fd33, m33, purse, c37, c43, rows_nil]
theorem rgive_inv (h : 6 ≤ n) (hv : ¬ VP len l) : call gl tab n 35 [purse len f sh l, i64 w, i64 m] [] = some (.agg [purse0, i64 1], [], []) := by
  obtain ⟨d, rfl⟩ := Nat.exists_eq_add_of_le' h
  have c37 := @nvp38 gl (d + 5) (by omega) len f sh l hs hl hv
  have c43 := @rwindow_at gl (d + 5) (by omega)
  simp only [purse] at c37
  rw [call_go (fd := fd35) rfl]
  simp (disch := ((fail_if_success (intro _)); omega)) only [go_sem, simprocAttr, ↓reduceIte, xx, fd35, m35, purse, c37, c43, rows_nil]
theorem rreceive_arg (h : 6 ≤ n) (hv : VP len l) (ha : ¬ CArg w m) : call gl tab n 33 [purse len f sh l, i64 w, i64 m] [] = some (.agg [purse0, i64 1], [], []) := by
  obtain ⟨d, rfl⟩ := Nat.exists_eq_add_of_le' h
  have c37 := @vp38 gl (d + 5) (by omega) len f sh l hs hv
  have c43 := @rwindow_at gl (d + 5) (by omega)
  simp only [purse] at c37
  rw [call_go (fd := fd33) rfl]
  cases hA : (decide (0 ≤ w) && decide (w ≤ 1099511627776))
  · simp (disch := ((fail_if_success (intro _)); omega)) only [go_sem, simprocAttr, ↓reduceIte, xx, fd33, m33, purse, c37, c43, rows_nil, hA]
  by_cases h1 : 0 ≤ m
  case neg => simp (disch := ((fail_if_success (intro _)); omega)) only [go_sem, simprocAttr, ↓reduceIte, xx, fd33, m33, purse, c37, c43, rows_nil, hA]
  by_cases h2 : m ≤ 1099511627776
  case neg => simp (disch := ((fail_if_success (intro _)); omega)) only [go_sem, simprocAttr, ↓reduceIte, xx, fd33, m33, purse, c37, c43, rows_nil, hA]
  simp only [Bool.and_eq_true, decide_eq_true_eq] at hA
  exact absurd ⟨hA, h1, h2⟩ ha
theorem rgive_arg (h : 6 ≤ n) (hv : VP len l) (ha : ¬ GArg w m) : call gl tab n 35 [purse len f sh l, i64 w, i64 m] [] = some (.agg [purse0, i64 1], [], []) := by
  obtain ⟨d, rfl⟩ := Nat.exists_eq_add_of_le' h
  have c37 := @vp38 gl (d + 5) (by omega) len f sh l hs hv
  have c43 := @rwindow_at gl (d + 5) (by omega)
  simp only [purse] at c37
  rw [call_go (fd := fd35) rfl]
  cases hA : (decide (0 ≤ w) && decide (w ≤ 1099511627776))
  · simp (disch := ((fail_if_success (intro _)); omega)) only [go_sem, simprocAttr, ↓reduceIte, xx, fd35, m35, purse, c37, c43, rows_nil, hA]
  by_cases h1 : 1 ≤ m
  case neg => simp (disch := ((fail_if_success (intro _)); omega)) only [go_sem, simprocAttr, ↓reduceIte, xx, fd35, m35, purse, c37, c43, rows_nil, hA]
  by_cases h2 : m ≤ 1073741824
  case neg => simp (disch := ((fail_if_success (intro _)); omega)) only [go_sem, simprocAttr, ↓reduceIte, xx, fd35, m35, purse, c37, c43, rows_nil, hA]
  simp only [Bool.and_eq_true, decide_eq_true_eq] at hA
  exact absurd ⟨hA, h1, h2⟩ ha
theorem rreceive_same (h : 6 ≤ n) (hv : VP len l) (ha : CArg w m) (hk : Lb l (keyW w) k) (hr : m ≤ (coinOr l k (keyW w)).g) : call gl tab n 33 [purse len f sh l, i64 w, i64 m] [] = some (.agg [purse len f sh l, i64 0], [], []) := by
  obtain ⟨d, rfl⟩ := Nat.exists_eq_add_of_le' h
  have c37 := @vp38 gl (d + 5) (by omega) len f sh l hs hv
  have c43 := @rwindow_at gl (d + 5) (by omega)
  have c61 := @coin_at gl (d + 5) (by omega) len f sh l hs (by have := hv.r; omega) (vp_asc hv) w k hk
  obtain ⟨⟨a1, a2⟩, ⟨a3, a4⟩⟩ := ha
  have e1 := coin_key l k w
  simp only [purse, Q4.av, e1] at c37 c61 ⊢
  generalize coinOr l k (keyW w) = x at *
  rw [call_go (fd := fd33) rfl]
  simp (disch := ((fail_if_success (intro _)); omega)) only [go_sem, simprocAttr, ↓reduceIte, xx, fd33, m33, c37, c43, c61, rows_length]
theorem rreceive_lim (h : 6 ≤ n) (hv : VP len l) (ha : CArg w m) (hk : Lb l (keyW w) k) (hr : ¬ m ≤ (coinOr l k (keyW w)).g) (hn : ¬ Kc l k w) (h4 : l.length = 10000) : call gl tab n 33 [purse len f sh l, i64 w, i64 m] [] = some (.agg [purse0, i64 2], [], []) := by
  obtain ⟨d, rfl⟩ := Nat.exists_eq_add_of_le' h
  have c37 := @vp38 gl (d + 5) (by omega) len f sh l hs hv
  have c43 := @rwindow_at gl (d + 5) (by omega)
  have c61 := @coin_at gl (d + 5) (by omega) len f sh l hs (by have := hv.r; omega) (vp_asc hv) w k hk
  obtain ⟨⟨a1, a2⟩, ⟨a3, a4⟩⟩ := ha
  have e1 := coin_key l k w
  have hkn2 : ¬ (k < l.length ∧ (at' l k).cmpW (keyW w) = 0) := hn
  simp only [hkn2, decide_false] at c61
  simp only [purse, Q4.av, e1] at c37 c61 ⊢
  generalize coinOr l k (keyW w) = x at *
  rw [call_go (fd := fd33) rfl]
  simp (disch := ((fail_if_success (intro _)); omega)) only [go_sem, simprocAttr, ↓reduceIte, xx, fd33, m33, c37, c43, c61, rows_length, rows_nil]
theorem rreceive_ok (h : 6 ≤ n) (hv : VP len l) (ha : CArg w m) (hk : Lb l (keyW w) k) (hr : ¬ m ≤ (coinOr l k (keyW w)).g) (hn : Kc l k w ∨ l.length ≠ 10000) :
    call gl tab n 33 [purse len f sh l, i64 w, i64 m] [] = some (.agg [purse len false sR (putL l k (gotC (coinOr l k (keyW w)) m)), i64 0], [], []) := by
  obtain ⟨d, rfl⟩ := Nat.exists_eq_add_of_le' h
  have c37 := @vp38 gl (d + 5) (by omega) len f sh l hs hv
  have c43 := @rwindow_at gl (d + 5) (by omega)
  have c61 := @coin_at gl (d + 5) (by omega) len f sh l hs (by have := hv.r; omega) (vp_asc hv) w k hk
  have c62 := @put_at gl (d + 5) (by omega) len f sh l hs hl (vp_asc hv) (gotC (coinOr l k (keyW w)) m) k (lb_key hk (coin_key l k w))
  have hr0 := hv.r
  obtain ⟨⟨a1, a2⟩, ⟨a3, a4⟩⟩ := ha
  have e1 := coin_key l k w
  rw [call_go (fd := fd33) rfl]
  by_cases hkn : Kc l k w
  · have hkn2 : (k < l.length ∧ (at' l k).cmpW (keyW w) = 0) := hkn
    simp only [hkn2, and_self, decide_true] at c61
    simp only [keyW] at e1 c61 c62 hr ⊢
    simp only [purse, Q4.av, gotC, e1] at c37 c61 c62 ⊢
    simp (disch := ((fail_if_success (intro _)); omega)) only [go_sem, simprocAttr, ↓reduceIte, xx, fd33, m33, c37, c43, c61, c62, rows_length, e1]
  · have hkn2 : ¬ (k < l.length ∧ (at' l k).cmpW (keyW w) = 0) := hkn
    simp only [hkn2, decide_false] at c61
    have r4 : l.length ≠ 10000 := hn.resolve_left hkn
    simp only [keyW] at e1 c61 c62 hr ⊢
    simp only [purse, Q4.av, gotC, e1] at c37 c61 c62 ⊢
    simp (disch := ((fail_if_success (intro _)); omega)) only [go_sem, simprocAttr, ↓reduceIte, xx, fd33, m33, c37, c43, c61, c62, rows_length, e1]
theorem rgive_state (h : 6 ≤ n) (hv : VP len l) (ha : GArg w m) (hk : Lb l (keyW w) k) (hr : ¬ m ≤ leftF (coinOr l k (keyW w))) : call gl tab n 35 [purse len f sh l, i64 w, i64 m] [] = some (.agg [purse0, i64 4], [], []) := by
  obtain ⟨d, rfl⟩ := Nat.exists_eq_add_of_le' h
  have c37 := @vp38 gl (d + 5) (by omega) len f sh l hs hv
  have c43 := @rwindow_at gl (d + 5) (by omega)
  have c26 := @rleft_t gl (d + 5) (by omega) len f sh l hs w hv k hk
  obtain ⟨⟨a1, a2⟩, ⟨a3, a4⟩⟩ := ha
  simp only [purse] at c37 c26 ⊢
  generalize leftF (coinOr l k (keyW w)) = x at *
  rw [call_go (fd := fd35) rfl]
  simp (disch := ((fail_if_success (intro _)); omega)) only [go_sem, simprocAttr, ↓reduceIte, xx, fd35, m35, c37, c43, c26, rows_length, rows_nil]
theorem rgive_ok (h : 6 ≤ n) (hv : VP len l) (ha : GArg w m) (hk : Lb l (keyW w) k) (hr : m ≤ leftF (coinOr l k (keyW w))) :
    call gl tab n 35 [purse len f sh l, i64 w, i64 m] [] = some (.agg [purse len false sR (putL l k (backC (coinOr l k (keyW w)) m)), i64 0], [], []) := by
  obtain ⟨d, rfl⟩ := Nat.exists_eq_add_of_le' h
  have c37 := @vp38 gl (d + 5) (by omega) len f sh l hs hv
  have c43 := @rwindow_at gl (d + 5) (by omega)
  have c26 := @rleft_t gl (d + 5) (by omega) len f sh l hs w hv k hk
  have c61 := @coin_at gl (d + 5) (by omega) len f sh l hs (by have := hv.r; omega) (vp_asc hv) w k hk
  have c62 := @put_at gl (d + 5) (by omega) len f sh l hs hl (vp_asc hv) (backC (coinOr l k (keyW w)) m) k (lb_key hk (coin_key l k w))
  have hbd := coin_bd hv k w
  obtain ⟨⟨a1, a2⟩, ⟨a3, a4⟩⟩ := ha
  have e1 := coin_key l k w
  simp only [keyW] at e1 c61 c62 c26 hr hbd ⊢
  simp only [purse, Q4.av, backC, e1, leftF] at c37 c61 c62 c26 hr ⊢
  rw [call_go (fd := fd35) rfl]
  simp (disch := ((fail_if_success (intro _)); omega)) only [go_sem, simprocAttr, ↓reduceIte, xx, fd35, m35, c37, c43, c61, c62, c26, rows_length, e1]
theorem rspend_f (h : 6 ≤ n) (hv : ¬ (VP len l ∧ PV p q)) : call gl tab n 34 [purse len f sh l, .agg [i64 p, i64 q]] [] = some (.agg [purse0, i64 1], [], []) := by
  obtain ⟨d, rfl⟩ := Nat.exists_eq_add_of_le' h
  have c49 := @rpvalid_at gl (d + 5) (by omega) p q
  rw [call_go (fd := fd34) rfl]
  by_cases hv1 : VP len l
  · have c37 := @vp38 gl (d + 5) (by omega) len f sh l hs hv1
    rw [decide_eq_false fun h => hv ⟨hv1, h⟩] at c49
    simp only [purse] at c37
    simp (disch := ((fail_if_success (intro _)); omega)) only [go_sem, simprocAttr, ↓reduceIte, xx, fd34, m34, purse, c37, c49, rows_nil]
  · have c37 := @nvp38 gl (d + 5) (by omega) len f sh l hs hl hv1
    simp only [purse] at c37
    simp (disch := ((fail_if_success (intro _)); omega)) only [go_sem, simprocAttr, ↓reduceIte, xx, fd34, m34, purse, c37, c49, rows_nil]
theorem rspend_time (h : 6 ≤ n) (hv : VP len l) (hp : PV p q) (hr : ¬ q / len = p / len) : call gl tab n 34 [purse len f sh l, .agg [i64 p, i64 q]] [] = some (.agg [purse0, i64 9], [], []) := by
  obtain ⟨d, rfl⟩ := Nat.exists_eq_add_of_le' h
  have c37 := @vp38 gl (d + 5) (by omega) len f sh l hs hv
  have c49 := @rpvalid_at gl (d + 5) (by omega) p q
  obtain ⟨hn1, hn2⟩ := hv.n
  obtain ⟨p1, p2, p3⟩ := hp
  rw [decide_eq_true (show PV p q from ⟨p1, p2, p3⟩)] at c49
  obtain ⟨w1, w2⟩ := quo_ok hn1 ⟨p1, by omega⟩
  obtain ⟨w3, w4⟩ := quo_ok hn1 (show 0 ≤ q ∧ q ≤ 1099511627776 by omega)
  have hl0 : ¬ len = 0 := by omega
  have hne : (q / len == p / len) = false := by simpa using hr
  simp only [purse] at c37 ⊢
  rw [call_go (fd := fd34) rfl]
  simp (disch := ((fail_if_success (intro _)); omega)) only [go_sem, simprocAttr, ↓reduceIte, xx, fd34, m34, c37, c49, binInt, hl0, w1, w3, rows_nil, hne, bne]
theorem rspend_state (h : 6 ≤ n) (hv : VP len l) (hp : PV p q) (hr : q / len = p / len) (hk : Lb l (keyW (p / len)) k) (h0 : leftF (coinOr l k (keyW (p / len))) = 0) :
    call gl tab n 34 [purse len f sh l, .agg [i64 p, i64 q]] [] = some (.agg [purse0, i64 4], [], []) := by
  obtain ⟨d, rfl⟩ := Nat.exists_eq_add_of_le' h
  have c37 := @vp38 gl (d + 5) (by omega) len f sh l hs hv
  have c49 := @rpvalid_at gl (d + 5) (by omega) p q
  obtain ⟨hn1, hn2⟩ := hv.n
  obtain ⟨p1, p2, p3⟩ := hp
  rw [decide_eq_true (show PV p q from ⟨p1, p2, p3⟩)] at c49
  obtain ⟨w1, w2⟩ := quo_ok hn1 ⟨p1, by omega⟩
  obtain ⟨w3, w4⟩ := quo_ok hn1 (show 0 ≤ q ∧ q ≤ 1099511627776 by omega)
  have hl0 : ¬ len = 0 := by omega
  have c26 := @rleft_t gl (d + 5) (by omega) len f sh l hs (p / len) hv k hk
  rw [h0] at c26
  simp only [purse] at c37 c26 ⊢
  rw [call_go (fd := fd34) rfl]
  simp (disch := ((fail_if_success (intro _)); omega)) only [go_sem, simprocAttr, ↓reduceIte, xx, fd34, m34, c37, c49, c26, binInt, hl0, w1, w3, rows_nil, hr, bne]
theorem rspend_ok (h : 6 ≤ n) (hv : VP len l) (hp : PV p q) (hr : q / len = p / len) (hk : Lb l (keyW (p / len)) k) (h0 : ¬ leftF (coinOr l k (keyW (p / len))) = 0) :
    call gl tab n 34 [purse len f sh l, .agg [i64 p, i64 q]] [] = some (.agg [purse len false sR (putL l k (spentC (coinOr l k (keyW (p / len))))), i64 0], [], []) := by
  obtain ⟨d, rfl⟩ := Nat.exists_eq_add_of_le' h
  have c37 := @vp38 gl (d + 5) (by omega) len f sh l hs hv
  have c49 := @rpvalid_at gl (d + 5) (by omega) p q
  obtain ⟨hn1, hn2⟩ := hv.n
  obtain ⟨p1, p2, p3⟩ := hp
  rw [decide_eq_true (show PV p q from ⟨p1, p2, p3⟩)] at c49
  obtain ⟨w1, w2⟩ := quo_ok hn1 ⟨p1, by omega⟩
  obtain ⟨w3, w4⟩ := quo_ok hn1 (show 0 ≤ q ∧ q ≤ 1099511627776 by omega)
  have hl0 : ¬ len = 0 := by omega
  have c26 := @rleft_t gl (d + 5) (by omega) len f sh l hs (p / len) hv k hk
  have hne : (leftF (coinOr l k (keyW (p / len))) == 0) = false := by simpa using h0
  have c61 := @coin_at gl (d + 5) (by omega) len f sh l hs (by have := hv.r; omega) (vp_asc hv) (p / len) k hk
  have c62 := @put_at gl (d + 5) (by omega) len f sh l hs hl (vp_asc hv) (spentC (coinOr l k (keyW (p / len)))) k (lb_key hk (coin_key l k (p / len)))
  have hbd := coin_bd hv k (p / len)
  have e1 := coin_key l k (p / len)
  simp only [keyW] at e1 c61 c62 c26 hne hbd ⊢
  simp only [purse, Q4.av, spentC, e1] at c37 c61 c62 c26 ⊢
  rw [call_go (fd := fd34) rfl]
  simp (disch := ((fail_if_success (intro _)); omega)) only [go_sem, simprocAttr, ↓reduceIte, xx, fd34, m34, c37, c49, c26, c61, c62, binInt, hl0, w1, w3, rows_length, e1, hne, hr, bne]
end
end Co
end Go.Proofs.S39
