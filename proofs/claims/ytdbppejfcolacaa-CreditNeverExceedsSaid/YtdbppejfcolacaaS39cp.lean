/-
  Chapter 39: the specification's coins. No condition.
-/
import Derived.Test.YtdbppejfcolacaaS39p
import Derived.Test.YtdbppejfcolacaaS39cb
set_option linter.unusedVariables false
set_option linter.unusedSimpArgs false
set_option linter.unusedSectionVars false
namespace Go.Proofs.S39
namespace Co
open Go Go.Ev Go.Proofs
set_option linter.unusedSimpArgs false
set_option linter.unusedVariables false
set_option linter.unusedSectionVars false
variable {gl : Gl} {n : Nat}
def endK (l : List Q4) (k : Nat) (x : Q4) : Nat := if k < l.length ∧ (at' l k).cmpW x = 0 then k + 1 else k
def putN (l : List Q4) (k : Nat) (x : Q4) (i : Nat) : List Q4 := if i ≤ k then l.take i else l.take k ++ x :: (l.take i).drop (endK l k x)
theorem putN_all {l : List Q4} {k : Nat} {x : Q4} (h : k < l.length) : putN l k x l.length = putL l k x := by
  rw [putN, if_neg (by omega), putL, List.take_length]; rfl
theorem take_at {l : List Q4} {i : Nat} (h : i < l.length) : l.take (i + 1) = l.take i ++ [at' l i] := by
  rw [List.take_succ_eq_append_getElem h, at_get h]
theorem putN_lt {l : List Q4} {k : Nat} {x : Q4} {i : Nat} (h : i < k) (hi : i < l.length) : putN l k x (i + 1) = putN l k x i ++ [at' l i] := by
  rw [putN, if_pos (by omega), putN, if_pos (by omega), take_at hi]
theorem putN_eq {l : List Q4} {k : Nat} {x : Q4} (hi : k < l.length) : putN l k x (k + 1) = if (at' l k).cmpW x = 0 then putN l k x k ++ [x] else (putN l k x k ++ [x]) ++ [at' l k] := by
  rw [putN, if_neg (by omega), putN, if_pos (Nat.le_refl _), endK, take_at hi]
  by_cases h : (at' l k).cmpW x = 0
  · rw [if_pos ⟨hi, h⟩, if_pos h, List.drop_of_length_le (by simp; omega)]
  · rw [if_neg fun h' => h h'.2, if_neg h, List.drop_append_of_le_length (by simp; omega), List.drop_of_length_le (by simp; omega)]
    simp
theorem putN_gt {l : List Q4} {k : Nat} {x : Q4} {i : Nat} (h : k < i) (hi : i < l.length) : putN l k x (i + 1) = putN l k x i ++ [at' l i] := by
  have he : endK l k x ≤ i := by unfold endK; split <;> omega
  rw [putN, if_neg (by omega), putN, if_neg (by omega), take_at hi, List.drop_append_of_le_length (by simp; omega)]
  simp
def S67 (len : Int) (f : Bool) (sh : Sh) (l : List Q4) (x : Q4) (k : Nat) (i : Nat) : St :=
  ⟨[.set 7 (i64 i), .set 6 (.bool (decide (k < i))), .set 5 (.sl 5005 [] 0 (putN l k x i).length), .set 4 (.ptr 4 []), .set 3 (.ptr 3 []), .set 2 (.ptr 2 [])],
   [(4, .fix (.st [.sc, .sc]) (.agg [i64 0, .lst true .sc []])), (3, .fix sR x.av), (2, .fix (.st [.sc, .sc]) (purse len f sh l)), (5005, .grow sR (rows (putN l k x i)))]⟩
def L67 : MC := match m67 with
  | .seq _ (.seq _ (.seq _ (.seq (.seq _ (.block _ (.loop _ b))) _))) => b
  | _ => .skip
def K67 : List Kp := [.slot 2, .slot 3, .slot 4, .own 5 5005 sR, .slot 6, .slot 7, .key 2, .key 3, .key 4]
section
variable {len : Int} {f : Bool} {l : List Q4} {x : Q4} {k i : Nat} (hk : Lb l x k) (ha : Asc l) (hi : i < l.length) (h6 : (putN l k x i).length + 1 + 1 ≤ LIM) (hl : l.length < 2 ^ 30)
include hk ha hi h6 hl
theorem put_lt (h1 : i < k) : contK K67 (evC gl (call gl tab n) L67 (S67 len f sR l x k i)) = some (S67 len f sR l x k (i + 1)) := by
  have hx := rows_at hi
  have h7 := cmp_lt.1 (hk.lo i h1)
  have e1 := putN_lt (x := x) h1 hi
  have h6' : (putN l k x i).length + 1 ≤ LIM := by omega
  simp (disch := ((fail_if_success (intro _)); omega)) only [go_sem, simprocAttr, ↓reduceIte, xx, L67, m67, K67, S67, purse, Q4.av, hx, rows_length, e1, h6', rows_snoc, List.length_append]
theorem put_eq1 (h2 : i = k) (h8 : (at' l i).cmpW x = 0) : contK K67 (evC gl (call gl tab n) L67 (S67 len f sR l x k i)) = some (S67 len f sR l x k (i + 1)) := by
  subst h2
  have hx := rows_at hi
  have e1 := putN_eq (x := x) hi
  have h6' : (putN l i x i).length + 1 ≤ LIM := by omega
  rw [if_pos h8] at e1
  have h9 := cmp_eq.1 h8
  simp (disch := ((fail_if_success (intro _)); omega)) only [go_sem, simprocAttr, ↓reduceIte, xx, L67, m67, K67, S67, purse, Q4.av, hx, rows_length, e1, h6', rows_snoc, List.length_append]
theorem put_eq2 (h2 : i = k) (h8 : ¬ (at' l i).cmpW x = 0) : contK K67 (evC gl (call gl tab n) L67 (S67 len f sR l x k i)) = some (S67 len f sR l x k (i + 1)) := by
  subst h2
  have hx := rows_at hi
  have e1 := putN_eq (x := x) hi
  have h6' : (putN l i x i).length + 1 ≤ LIM := by omega
  rw [if_neg h8] at e1
  have h9 : x.w < (at' l i).w := by
    have h7 := hk.hi i (Nat.le_refl _) hi
    have : ¬ (at' l i).cmpW x < 0 := by omega
    rw [cmp_lt] at this; rw [cmp_eq] at h8; omega
  simp (disch := ((fail_if_success (intro _)); omega)) only [go_sem, simprocAttr, ↓reduceIte, xx, L67, m67, K67, S67, purse, Q4.av, hx, rows_length, e1, h6', h6, rows_snoc, List.length_append]
theorem put_gt (h3 : k < i) : contK K67 (evC gl (call gl tab n) L67 (S67 len f sR l x k i)) = some (S67 len f sR l x k (i + 1)) := by
  have hx := rows_at hi
  have e1 := putN_gt (x := x) h3 hi
  have h6' : (putN l k x i).length + 1 ≤ LIM := by omega
  have h7 : x.w < (at' l i).w := by
    have a1 := asc_lt ha h3 hi
    have a2 := hk.hi k (Nat.le_refl _) (by omega)
    have a3 : ¬ (at' l k).cmpW x < 0 := by omega
    rw [cmp_lt] at a1 a3; omega
  simp (disch := ((fail_if_success (intro _)); omega)) only [go_sem, simprocAttr, ↓reduceIte, xx, L67, m67, K67, S67, purse, Q4.av, hx, rows_length, e1, h6', rows_snoc, List.length_append]
end
theorem put_at (h : 1 ≤ n) (len : Int) (f : Bool) {sh : Sh} {l : List Q4} (hs : Shp l sh) (hl : l.length < 2 ^ 30) (ha : Asc l) (x : Q4) {k : Nat} (hk : Lb l x k) :
    call gl tab n 67 [purse len f sh l, x.av] [] = some (purse len false sR (putL l k x), [], []) := by
  obtain ⟨d, rfl⟩ := Nat.exists_eq_add_of_le' h
  have hkl := hk.le
  have hpl : ∀ i, i ≤ l.length → (putN l k x i).length ≤ i + 1 := fun i hi => by
    have : k ≤ endK l k x := by unfold endK; split <;> omega
    unfold putN; split <;> simp <;> omega
  have hp0 : putN l k x 0 = [] := by simp [putN]
  rw [call_go (fd := fd67) rfl]
  simp only [fd67, m67, go_sem, simprocAttr, ↓reduceIte, purse, Q4.av]
  rw [iter_to (S67 len f sh l x k) l.length (by unfold LF; omega)]
  · by_cases hkl2 : k < l.length
    · have e1 := putN_all (x := x) hkl2
      simp (disch := ((fail_if_success (intro _)); omega)) only [go_sem, simprocAttr, ↓reduceIte, xx, S67, purse, Q4.av, rows_length, e1, rows_take']
    · have e1 : k = l.length := by omega
      have e2 : putN l k x l.length = l := by rw [putN, if_pos (by omega), List.take_length]
      have e3 : putL l k x = l ++ [x] := by subst e1; simp [putL]
      have h4 : l.length + 1 ≤ LIM := by unfold LIM; omega
      simp (disch := ((fail_if_success (intro _)); omega)) only [go_sem, simprocAttr, ↓reduceIte, xx, S67, purse, Q4.av, rows_length, e2, e3, h4, rows_snoc, rows_take]
  · simp (disch := ((fail_if_success (intro _)); omega)) only [go_sem, simprocAttr, ↓reduceIte, xx, S67, purse, Q4.av, hp0]
    rfl
  · intro i hi
    obtain rfl := hs.eq hi
    have h5 := hpl i (by omega)
    have h6 : (putN l k x i).length + 1 + 1 ≤ LIM := by unfold LIM; omega
    by_cases h1 : i < k
    · exact put_lt hk ha hi h6 hl h1
    · by_cases h2 : i = k
      · by_cases h8 : (at' l i).cmpW x = 0
        · exact put_eq1 hk ha hi h6 hl h2 h8
        · exact put_eq2 hk ha hi h6 hl h2 h8
      · exact put_gt hk ha hi h6 hl (by omega)
  · simp (disch := ((fail_if_success (intro _)); omega)) only [go_sem, simprocAttr, ↓reduceIte, xx, S67, purse, rows_length]
def S25 (len : Int) (f f' : Bool) (sh sh' : Sh) (l : List Q4) (i : Nat) : St :=
  ⟨[.set 5 (i64 i), .set 3 (.ptr 3 []), .set 2 (.ptr 2 [])], [(3, .fix (.st [.sc, .sc]) (purse len f' sh' l)), (2, .fix (.st [.sc, .sc]) (purse len f sh l))]⟩
theorem same_at (h : 1 ≤ n) (len : Int) (f f' : Bool) {sh sh' : Sh} {l : List Q4} (hs : Shp l sh) (hs' : Shp l sh') (hl : l.length < 2 ^ 60) : call gl tab n 25 [purse len f sh l, purse len f' sh' l] [] = some (.bool true, [], []) := by
  obtain ⟨d, rfl⟩ := Nat.exists_eq_add_of_le' h
  rw [call_go (fd := fd25) rfl]
  simp only [fd25, m25, go_sem, simprocAttr, ↓reduceIte, purse, rows_length, bne_self_eq_false]
  rw [iter_to (S25 len f f' sh sh' l) l.length (by unfold LF; omega)]
  · simp (disch := ((fail_if_success (intro _)); omega)) only [go_sem, simprocAttr, ↓reduceIte, xx, S25, purse, rows_length]
  · simp (disch := ((fail_if_success (intro _)); omega)) only [go_sem, simprocAttr, ↓reduceIte, xx, S25, purse]
  · intro i hi
    have hx := rows_at hi
    obtain rfl := hs.eq hi
    obtain rfl := hs'.eq hi
    simp (disch := ((fail_if_success (intro _)); omega)) only [go_sem, simprocAttr, ↓reduceIte, xx, S25, purse, hx, rows_length, eqAV, eqAVs]
  · simp (disch := ((fail_if_success (intro _)); omega)) only [go_sem, simprocAttr, ↓reduceIte, xx, S25, purse, rows_length]
/-- The row of a place, or one without credits. -/
def coinOr (l : List Q4) (k : Nat) (x : Q4) : Q4 := if k < l.length ∧ (at' l k).cmpW x = 0 then at' l k else x
def S66 (len : Int) (f : Bool) (sh : Sh) (l : List Q4) (w : Int) (i : Nat) : St :=
  ⟨[.set 6 (i64 i), .set 4 (.ptr 4 []), .set 2 (.ptr 2 []), .set 1 (i64 w)], [(4, .fix sR (.agg [i64 0, i64 0, i64 0, i64 0])), (2, .fix (.st [.sc, .sc]) (purse len f sh l))]⟩
def L66 : MC := match m66 with
  | .seq _ (.seq (.seq _ (.block _ (.loop _ b))) _) => b
  | _ => .skip
theorem coin_at (h : 1 ≤ n) (len : Int) (f : Bool) {sh : Sh} {l : List Q4} (hs : Shp l sh) (hl : l.length < 2 ^ 60) (ha : Asc l) (w : Int) {k : Nat} (hk : Lb l ⟨w, 0, 0, 0⟩ k) :
    call gl tab n 66 [purse len f sh l, i64 w] [] = some (.tup [(coinOr l k ⟨w, 0, 0, 0⟩).av, .bool (decide (k < l.length ∧ (at' l k).cmpW ⟨w, 0, 0, 0⟩ = 0))], [], []) := by
  obtain ⟨d, rfl⟩ := Nat.exists_eq_add_of_le' h
  have hne : ∀ i, i < l.length → ¬ (i = k ∧ (at' l k).cmpW ⟨w, 0, 0, 0⟩ = 0) → (at' l i).cmpW ⟨w, 0, 0, 0⟩ ≠ 0 := fun i hi hn h0 => by
    by_cases h1 : i < k
    · have := hk.lo i h1; omega
    by_cases h2 : i = k
    · exact hn ⟨h2, h2 ▸ h0⟩
    · have h3 := asc_lt ha (show k < i by omega) hi
      have h4 := hk.hi k (Nat.le_refl _) (by omega)
      rw [cmp_eq] at h0
      rw [cmp_lt] at h3
      have h5 : ¬ (at' l k).cmpW ⟨w, 0, 0, 0⟩ < 0 := by omega
      apply h5
      rw [cmp_lt]
      simp only at h0 ⊢
      omega
  rw [call_go (fd := fd66) rfl]
  simp only [fd66, m66, go_sem, simprocAttr, ↓reduceIte, purse]
  have step : ∀ i, i < l.length → (at' l i).cmpW ⟨w, 0, 0, 0⟩ ≠ 0 → contK [.slot 1, .slot 2, .slot 4, .slot 6, .key 2, .key 4] (evC gl (call gl tab d) L66 (S66 len f sh l w i)) = some (S66 len f sh l w (i + 1)) := fun i hi h0 => by
    have hx := rows_at hi
    obtain rfl := hs.eq hi
    rw [Ne, cmp_eq] at h0
    simp only at h0
    have h1 : ((at' l i).w == w) = false := by simpa using h0
    simp (disch := ((fail_if_success (intro _)); omega)) only [go_sem, simprocAttr, ↓reduceIte, xx, L66, m66, S66, purse, hx, rows_length, h1]
  simp only [L66, m66] at step
  by_cases hf : k < l.length ∧ (at' l k).cmpW ⟨w, 0, 0, 0⟩ = 0
  · have hx := rows_at hf.1
    have hkl := hf.1
    obtain rfl := hs.eq hf.1
    have hwg := cmp_eq.1 hf.2
    simp only at hwg
    rw [iter_to (S66 len f sR l w) k (by unfold LF; omega)]
    · simp (disch := ((fail_if_success (intro _)); omega)) only [go_sem, simprocAttr, ↓reduceIte, xx, S66, purse, hx, rows_length, hwg, hf, coinOr, Q4.av]
    · simp (disch := ((fail_if_success (intro _)); omega)) only [go_sem, simprocAttr, ↓reduceIte, xx, S66, purse]
    · intro i hi
      exact step i (by omega) (hne i (by omega) fun h => by omega)
    · simp (disch := ((fail_if_success (intro _)); omega)) only [go_sem, simprocAttr, ↓reduceIte, xx, S66, purse, hx, rows_length, hwg]
  · rw [iter_to (S66 len f sh l w) l.length (by unfold LF; omega)]
    · simp (disch := ((fail_if_success (intro _)); omega)) only [go_sem, simprocAttr, ↓reduceIte, xx, S66, purse, rows_length, hf, coinOr, Q4.av]
    · simp (disch := ((fail_if_success (intro _)); omega)) only [go_sem, simprocAttr, ↓reduceIte, xx, S66, purse]
    · intro i hi
      exact step i hi (hne i hi fun h => hf ⟨by omega, h.2⟩)
    · simp (disch := ((fail_if_success (intro _)); omega)) only [go_sem, simprocAttr, ↓reduceIte, xx, S66, purse, rows_length]
end Co
end Go.Proofs.S39
