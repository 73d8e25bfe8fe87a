/-
  Chapter 39: the specification's list with a row; banks compared. No condition.
-/
import Derived.Test.YtdbppejfcolacaaS39d
set_option linter.unusedVariables false
set_option linter.unusedSimpArgs false
set_option linter.unusedSectionVars false
namespace Go.Proofs.S39
open Go Go.Ev Go.Proofs
set_option linter.unusedSimpArgs false
set_option linter.unusedVariables false
set_option linter.unusedSectionVars false
variable {gl : Gl} {n : Nat}
def endK (l : List Q4) (k : Nat) (x : Q4) : Nat := if k < l.length ∧ (at' l k).cmp x = 0 then k + 1 else k
def putN (l : List Q4) (k : Nat) (x : Q4) (i : Nat) : List Q4 := if i ≤ k then l.take i else l.take k ++ x :: (l.take i).drop (endK l k x)
theorem putN_all {l : List Q4} {k : Nat} {x : Q4} (h : k < l.length) : putN l k x l.length = putL l k x := by
  rw [putN, if_neg (by omega), putL, List.take_length]; rfl
theorem take_at {l : List Q4} {i : Nat} (h : i < l.length) : l.take (i + 1) = l.take i ++ [at' l i] := by
  rw [List.take_succ_eq_append_getElem h, at_get h]
theorem putN_lt {l : List Q4} {k : Nat} {x : Q4} {i : Nat} (h : i < k) (hi : i < l.length) : putN l k x (i + 1) = putN l k x i ++ [at' l i] := by
  rw [putN, if_pos (by omega), putN, if_pos (by omega), take_at hi]
theorem putN_eq {l : List Q4} {k : Nat} {x : Q4} (hi : k < l.length) : putN l k x (k + 1) = if (at' l k).cmp x = 0 then putN l k x k ++ [x] else (putN l k x k ++ [x]) ++ [at' l k] := by
  rw [putN, if_neg (by omega), putN, if_pos (Nat.le_refl _), endK, take_at hi]
  by_cases h : (at' l k).cmp x = 0
  · rw [if_pos ⟨hi, h⟩, if_pos h, List.drop_of_length_le (by simp; omega)]
  · rw [if_neg fun h' => h h'.2, if_neg h, List.drop_append_of_le_length (by simp; omega), List.drop_of_length_le (by simp; omega)]
    simp
theorem putN_gt {l : List Q4} {k : Nat} {x : Q4} {i : Nat} (h : k < i) (hi : i < l.length) : putN l k x (i + 1) = putN l k x i ++ [at' l i] := by
  have he : endK l k x ≤ i := by unfold endK; split <;> omega
  rw [putN, if_neg (by omega), putN, if_neg (by omega), take_at hi, List.drop_append_of_le_length (by simp; omega)]
  simp
theorem rows_snoc (l : List Q4) (x : Q4) : rows l ++ [.agg [i64 x.w, i64 x.g, i64 x.d, i64 x.b]] = rows (l ++ [x]) := by simp [rows, Q4.av]
def S58 (c len : Int) (f : Bool) (sh : Sh) (l : List Q4) (x : Q4) (k : Nat) (i : Nat) : St :=
  ⟨[.set 7 (i64 i), .set 6 (.bool (decide (k < i))), .set 5 (.sl 5005 [] 0 (putN l k x i).length), .set 4 (.ptr 4 []), .set 3 (.ptr 3 []), .set 2 (.ptr 2 [])],
   [(4, .fix (.st [.sc, .sc, .sc]) (.agg [i64 0, i64 0, .lst true .sc []])), (3, .fix sR x.av), (2, .fix (.st [.sc, .sc, .sc]) (bank c len f sh l)), (5005, .grow sR (rows (putN l k x i)))]⟩
def L58 : MC := match m58 with
  | .seq _ (.seq _ (.seq _ (.seq (.seq _ (.block _ (.loop _ b))) _))) => b
  | _ => .skip
def K58 : List Kp := [.slot 2, .slot 3, .slot 4, .own 5 5005 sR, .slot 6, .slot 7, .key 2, .key 3, .key 4]
section
variable {c len : Int} {f : Bool} {l : List Q4} {x : Q4} {k i : Nat} (hk : Lb l x k) (ha : Asc l) (hi : i < l.length) (h6 : (putN l k x i).length + 1 + 1 ≤ LIM) (hl : l.length < 2 ^ 30)
include hk ha hi h6 hl
theorem put_lt (h1 : i < k) : contK K58 (evC gl (call gl tab n) L58 (S58 c len f sR l x k i)) = some (S58 c len f sR l x k (i + 1)) := by
  have hx := rows_at hi
  have h7 := cmp_lt.1 (hk.lo i h1)
  have e1 := putN_lt (x := x) h1 hi
  have h6' : (putN l k x i).length + 1 ≤ LIM := by omega
  by_cases h8 : (at' l i).w < x.w
  · simp (disch := ((fail_if_success (intro _)); omega)) only [go_sem, simprocAttr, ↓reduceIte, xx, L58, m58, K58, S58, bank, Q4.av, hx, rows_length, e1, h6', rows_snoc, List.length_append]
  · obtain ⟨h9, h10⟩ : (at' l i).w = x.w ∧ (at' l i).g < x.g := by omega
    simp (disch := ((fail_if_success (intro _)); omega)) only [go_sem, simprocAttr, ↓reduceIte, xx, L58, m58, K58, S58, bank, Q4.av, hx, rows_length, e1, h6', rows_snoc, List.length_append]
theorem put_eq1 (h2 : i = k) (h8 : (at' l i).cmp x = 0) : contK K58 (evC gl (call gl tab n) L58 (S58 c len f sR l x k i)) = some (S58 c len f sR l x k (i + 1)) := by
  subst h2
  have hx := rows_at hi
  have e1 := putN_eq (x := x) hi
  have h6' : (putN l i x i).length + 1 ≤ LIM := by omega
  rw [if_pos h8] at e1
  obtain ⟨h9, h10⟩ := cmp_eq.1 h8
  simp (disch := ((fail_if_success (intro _)); omega)) only [go_sem, simprocAttr, ↓reduceIte, xx, L58, m58, K58, S58, bank, Q4.av, hx, rows_length, e1, h6', rows_snoc, List.length_append]
theorem put_eq2 (h2 : i = k) (h8 : ¬ (at' l i).cmp x = 0) : contK K58 (evC gl (call gl tab n) L58 (S58 c len f sR l x k i)) = some (S58 c len f sR l x k (i + 1)) := by
  subst h2
  have hx := rows_at hi
  have e1 := putN_eq (x := x) hi
  have h6' : (putN l i x i).length + 1 ≤ LIM := by omega
  rw [if_neg h8] at e1
  have h9 : x.w < (at' l i).w ∨ (x.w = (at' l i).w ∧ x.g < (at' l i).g) := by
    have h7 := hk.hi i (Nat.le_refl _) hi
    have : ¬ (at' l i).cmp x < 0 := by omega
    rw [cmp_lt] at this; rw [cmp_eq] at h8; omega
  by_cases h10 : x.w < (at' l i).w
  · simp (disch := ((fail_if_success (intro _)); omega)) only [go_sem, simprocAttr, ↓reduceIte, xx, L58, m58, K58, S58, bank, Q4.av, hx, rows_length, e1, h6', h6, rows_snoc, List.length_append]
  · obtain ⟨h12, h13⟩ : x.w = (at' l i).w ∧ x.g < (at' l i).g := by omega
    simp (disch := ((fail_if_success (intro _)); omega)) only [go_sem, simprocAttr, ↓reduceIte, xx, L58, m58, K58, S58, bank, Q4.av, hx, rows_length, e1, h6', h6, rows_snoc, List.length_append]
theorem put_gt (h3 : k < i) : contK K58 (evC gl (call gl tab n) L58 (S58 c len f sR l x k i)) = some (S58 c len f sR l x k (i + 1)) := by
  have hx := rows_at hi
  have e1 := putN_gt (x := x) h3 hi
  have h6' : (putN l k x i).length + 1 ≤ LIM := by omega
  have h7 : ¬ (at' l i).cmp x = 0 := fun h0 => by
    have a1 := asc_lt ha h3 hi
    have a2 := hk.hi k (Nat.le_refl _) (by omega)
    have a3 : ¬ (at' l k).cmp x < 0 := by omega
    rw [cmp_eq] at h0; rw [cmp_lt] at a1 a3; omega
  rw [cmp_eq] at h7
  rcases Int.lt_trichotomy (at' l i).w x.w with h8 | h8 | h8
  · simp (disch := ((fail_if_success (intro _)); omega)) only [go_sem, simprocAttr, ↓reduceIte, xx, L58, m58, K58, S58, bank, Q4.av, hx, rows_length, e1, h6', rows_snoc, List.length_append]
  · rcases Int.lt_trichotomy (at' l i).g x.g with h9 | h9 | h9
    · simp (disch := ((fail_if_success (intro _)); omega)) only [go_sem, simprocAttr, ↓reduceIte, xx, L58, m58, K58, S58, bank, Q4.av, hx, rows_length, e1, h6', rows_snoc, List.length_append]
    · exact absurd ⟨h8, h9⟩ h7
    · simp (disch := ((fail_if_success (intro _)); omega)) only [go_sem, simprocAttr, ↓reduceIte, xx, L58, m58, K58, S58, bank, Q4.av, hx, rows_length, e1, h6', rows_snoc, List.length_append]
  · simp (disch := ((fail_if_success (intro _)); omega)) only [go_sem, simprocAttr, ↓reduceIte, xx, L58, m58, K58, S58, bank, Q4.av, hx, rows_length, e1, h6', rows_snoc, List.length_append]
end
theorem rows_take (l : List Q4) (x : Q4) : List.take (l.length + 1) (rows (l ++ [x])) = rows (l ++ [x]) := by
  rw [← show (rows (l ++ [x])).length = l.length + 1 by simp [rows_length], List.take_length]
theorem rows_take' (l : List Q4) : List.take l.length (rows l) = rows l := by rw [← rows_length, List.take_length]
theorem put_at (h : 1 ≤ n) (c len : Int) (f : Bool) {sh : Sh} {l : List Q4} (hs : Shp l sh) (hl : l.length < 2 ^ 30) (ha : Asc l) (x : Q4) {k : Nat} (hk : Lb l x k) :
    call gl tab n 58 [bank c len f sh l, x.av] [] = some (bank c len false sR (putL l k x), [], []) := by
  obtain ⟨d, rfl⟩ := Nat.exists_eq_add_of_le' h
  have hkl := hk.le
  have hpl : ∀ i, i ≤ l.length → (putN l k x i).length ≤ i + 1 := fun i hi => by
    have : k ≤ endK l k x := by unfold endK; split <;> omega
    unfold putN; split <;> simp <;> omega
  have hp0 : putN l k x 0 = [] := by simp [putN]
  rw [call_go (fd := fd58) rfl]
  simp only [fd58, m58, go_sem, simprocAttr, ↓reduceIte, bank, Q4.av]
  rw [iter_to (S58 c len f sh l x k) l.length (by unfold LF; omega)]
  · by_cases hkl2 : k < l.length
    · have e1 := putN_all (x := x) hkl2
      simp (disch := ((fail_if_success (intro _)); omega)) only [go_sem, simprocAttr, ↓reduceIte, xx, S58, bank, Q4.av, rows_length, e1, rows_take']
    · have e1 : k = l.length := by omega
      have e2 : putN l k x l.length = l := by rw [putN, if_pos (by omega), List.take_length]
      have e3 : putL l k x = l ++ [x] := by subst e1; simp [putL]
      have h4 : l.length + 1 ≤ LIM := by unfold LIM; omega
      simp (disch := ((fail_if_success (intro _)); omega)) only [go_sem, simprocAttr, ↓reduceIte, xx, S58, bank, Q4.av, rows_length, e2, e3, h4, rows_snoc, rows_take]
  · simp (disch := ((fail_if_success (intro _)); omega)) only [go_sem, simprocAttr, ↓reduceIte, xx, S58, bank, Q4.av, hp0]
    rfl
  · intro i hi
    obtain rfl := hs.eq hi
    have h5 := hpl i (by omega)
    have h6 : (putN l k x i).length + 1 + 1 ≤ LIM := by unfold LIM; omega
    by_cases h1 : i < k
    · exact put_lt hk ha hi h6 hl h1
    · by_cases h2 : i = k
      · by_cases h8 : (at' l i).cmp x = 0
        · exact put_eq1 hk ha hi h6 hl h2 h8
        · exact put_eq2 hk ha hi h6 hl h2 h8
      · exact put_gt hk ha hi h6 hl (by omega)
  · simp (disch := ((fail_if_success (intro _)); omega)) only [go_sem, simprocAttr, ↓reduceIte, xx, S58, bank, rows_length]
def S19 (c len : Int) (f f' : Bool) (sh sh' : Sh) (l : List Q4) (i : Nat) : St :=
  ⟨[.set 5 (i64 i), .set 3 (.ptr 3 []), .set 2 (.ptr 2 [])], [(3, .fix (.st [.sc, .sc, .sc]) (bank c len f' sh' l)), (2, .fix (.st [.sc, .sc, .sc]) (bank c len f sh l))]⟩
theorem same_at (h : 1 ≤ n) (c len : Int) (f f' : Bool) {sh sh' : Sh} {l : List Q4} (hs : Shp l sh) (hs' : Shp l sh') (hl : l.length < 2 ^ 60) : call gl tab n 19 [bank c len f sh l, bank c len f' sh' l] [] = some (.bool true, [], []) := by
  obtain ⟨d, rfl⟩ := Nat.exists_eq_add_of_le' h
  rw [call_go (fd := fd19) rfl]
  simp only [fd19, m19, go_sem, simprocAttr, ↓reduceIte, bank, rows_length, bne_self_eq_false]
  rw [iter_to (S19 c len f f' sh sh' l) l.length (by unfold LF; omega)]
  · simp (disch := ((fail_if_success (intro _)); omega)) only [go_sem, simprocAttr, ↓reduceIte, xx, S19, bank, rows_length]
  · simp (disch := ((fail_if_success (intro _)); omega)) only [go_sem, simprocAttr, ↓reduceIte, xx, S19, bank]
  · intro i hi
    have hx := rows_at hi
    obtain rfl := hs.eq hi
    obtain rfl := hs'.eq hi
    simp (disch := ((fail_if_success (intro _)); omega)) only [go_sem, simprocAttr, ↓reduceIte, xx, S19, bank, hx, rows_length, eqAV, eqAVs]
  · simp (disch := ((fail_if_success (intro _)); omega)) only [go_sem, simprocAttr, ↓reduceIte, xx, S19, bank, rows_length]
end Go.Proofs.S39
