/-
  Chapter 39: slices.DeleteFunc on rows, and Forget. No condition.
-/
import Derived.Test.YtdbppejfcolacaaS39x
set_option linter.unusedVariables false
set_option linter.unusedSimpArgs false
set_option linter.unusedSectionVars false
namespace Go.Proofs.S39
open Go Go.Ev Go.Proofs
set_option linter.unusedSimpArgs false
set_option linter.unusedVariables false
variable {gl : Gl} {n : Nat}
/-- What is kept of the first rows, and behind it the rows as they were. -/
def delN (len p : Int) (r : List Q4) (j : Nat) : List Q4 := keepL len p (r.take j) ++ r.drop (keepL len p (r.take j)).length
theorem delN_len {len p : Int} {r : List Q4} {j : Nat} (hj : j ≤ r.length) : (delN len p r j).length = r.length := by
  have := keep_len (len := len) (p := p) r j
  simp [delN]; omega
theorem delN_at {len p : Int} {r : List Q4} {j i : Nat} (hj : j ≤ i) (hi : i < r.length) : at' (delN len p r j) i = at' r i := by
  have := keep_len (len := len) (p := p) r j
  have h1 : i < (delN len p r j).length := by rw [delN_len (by omega)]; exact hi
  rw [← at_get h1, ← at_get hi]
  simp only [delN]
  rw [List.getElem_append_right (by omega), List.getElem_drop]
  congr 1; omega
theorem delN_drop {len p : Int} {r : List Q4} {j : Nat} (hj : j < r.length) (h : stay len p (at' r j) = false) : delN len p r (j + 1) = delN len p r j := by
  rw [delN, keep_take hj, h]; rfl
theorem delN_keep {len p : Int} {r : List Q4} {j : Nat} (hj : j < r.length) (h : stay len p (at' r j) = true) : delN len p r (j + 1) = (delN len p r j).set (keepL len p (r.take j)).length (at' r j) := by
  have hk := keep_len (len := len) (p := p) r j
  rw [delN, keep_take hj, h, if_pos rfl, delN, List.set_append_right (h := Nat.le_refl _), Nat.sub_self, List.length_append, List.length_singleton, List.append_assoc]
  congr 1
  rw [List.drop_eq_getElem_cons (show (keepL len p (r.take j)).length < r.length by omega), List.set_cons_zero]
  rfl
abbrev Z4 : AV := .agg [i64 0, i64 0, i64 0, i64 0]
def S50 (r : List Q4) (c len : Int) (f : Bool) (sh : Sh) (l : List Q4) (p q : Int) (j : Nat) : St :=
  ⟨[.set 6 (i64 j), .set 5 (i64 (keepL len p (r.take j)).length), .set 1 (.fn 52 [.ptr 100001 [], .ptr 100002 []]), .set 0 (.sl 100000 [] 0 r.length)],
   [(100002, .fix (.st [.sc, .sc]) (.agg [i64 p, i64 q])), (100001, .fix (.st [.sc, .sc, .sc]) (bank c len f sh l)), (100000, .grow sR (rows (delN len p r j)))]⟩
def L50 : MC := match m50 with
  | .seq _ (.seq _ (.seq _ (.seq (.seq _ (.block _ (.loop _ b))) _))) => b
  | _ => .skip
theorem rows_setAt (l : List Q4) (k : Nat) (x : Q4) : (rows l).set k (.agg [i64 x.w, i64 x.g, i64 x.d, i64 x.b]) = rows (l.set k x) := by
  simp [rows, Q4.av, List.map_set]
section
variable {c len : Int} {f : Bool} {sh : Sh} {l r : List Q4} {p q : Int} (hr : r.length < 2 ^ 60) (hl : 1 ≤ len) (hp : 0 ≤ p ∧ p ≤ 1099511627776)
include hr hl hp
theorem loop50 (h : 2 ≤ n) {j : Nat} (hj : j < r.length) : contK [.slot 0, .slot 1, .slot 5, .slot 6] (evC gl (call gl tab n) L50 (S50 r c len f sh l p q j)) = some (S50 r c len f sh l p q (j + 1)) := by
  have c52 := fun x => @over_cp gl n (by omega) x c len f sh l p q hl hp
  have hk := keep_len (len := len) (p := p) r j
  have hlen := delN_len (len := len) (p := p) (r := r) (j := j) (by omega)
  have hx := rows_at (show j < (delN len p r j).length by omega)
  rw [delN_at (Nat.le_refl _) hj] at hx
  have hkl : (keepL len p (r.take j)).length < (delN len p r j).length := by omega
  have hx2 := rows_at hkl
  simp only [bank] at c52
  by_cases ho : (at' r j).w < p / len
  · have hdec : decide ((at' r j).w < p / len) = true := decide_eq_true ho
    have e1 : stay len p (at' r j) = false := by simp [stay, ho]
    have e2 := delN_drop hj e1
    have e3 : keepL len p (r.take (j + 1)) = keepL len p (r.take j) := by rw [keep_take hj, e1]; rfl
    simp (disch := ((fail_if_success (intro _)); omega)) only [go_sem, simprocAttr, ↓reduceIte, xx, L50, m50, S50, bank, hx, rows_length, hlen, c52, hdec, e2, e3]
  · have hdec : decide ((at' r j).w < p / len) = false := decide_eq_false ho
    have e1 : stay len p (at' r j) = true := by simp [stay, ho]
    have e2 := delN_keep hj e1
    have e3 : (keepL len p (r.take (j + 1))).length = (keepL len p (r.take j)).length + 1 := by rw [keep_take hj, e1, if_pos rfl]; simp
    simp (disch := ((fail_if_success (intro _)); omega)) only [go_sem, simprocAttr, ↓reduceIte, xx, L50, m50, S50, bank, hx, hx2, hkl, rows_length, hlen, c52, hdec, e2, e3, rows_setAt, List.length_set]
/-- What the library leaves. -/
def delR (len p : Int) (r : List Q4) : List AV := rows (keepL len p r) ++ List.replicate (r.length - (keepL len p r).length) Z4
theorem delete_at (h : 4 ≤ n) : ∃ L, call gl tab n 50 [.sl 100000 [] 0 r.length, .fn 52 [.ptr 100001 [], .ptr 100002 []]] [(100000, .grow sR (rows r)), (100001, .fix (.st [.sc, .sc, .sc]) (bank c len f sh l)), (100002, .fix (.st [.sc, .sc]) (.agg [i64 p, i64 q]))] =
    some (.sl 100000 [] 0 (keepL len p r).length, [(100000, .grow sR L), (100001, .fix (.st [.sc, .sc, .sc]) (bank c len f sh l)), (100002, .fix (.st [.sc, .sc]) (.agg [i64 p, i64 q]))], []) ∧ (keepL len p r).length ≤ L.length ∧ L.take (keepL len p r).length = rows (keepL len p r) := by
  obtain ⟨d, rfl⟩ := Nat.exists_eq_add_of_le' h
  obtain ⟨k, hk, hbef, hat, c72⟩ := @index_at gl (d + 3) (by omega) r hr c len f sh l p q hl hp
  have hlp := fun j hj => @loop50 gl (d + 3) c len f sh l r p q hr hl hp (by omega) j hj
  simp only [L50, m50] at hlp
  simp only [fnCp, bank] at c72
  rw [call_gen (fd := fd50) rfl]
  by_cases hkl : k < r.length
  · rw [if_pos hkl] at c72
    have hkeep : keepL len p (r.take k) = r.take k := List.filter_eq_self.2 fun x hx => by
      obtain ⟨i, hi, rfl⟩ := List.getElem_of_mem hx
      rw [List.length_take] at hi
      rw [List.getElem_take, at_get (show i < r.length by omega)]; exact hbef i (by omega)
    have hk1 : keepL len p (r.take (k + 1)) = r.take k := by rw [keep_take hkl, hat hkl, if_neg (by simp), hkeep]
    have hD1 : delN len p r (k + 1) = r := by
      rw [delN, hk1, List.length_take, Nat.min_eq_left (by omega), List.take_append_drop]
    have hl1 : (keepL len p (r.take (k + 1))).length = k := by rw [hk1, List.length_take, Nat.min_eq_left (by omega)]
    have hall : keepL len p (r.take r.length) = keepL len p r := by rw [List.take_length]
    have hKle : (keepL len p r).length ≤ r.length := List.length_filter_le _ _
    have hDl : (delN len p r r.length).length = r.length := delN_len (Nat.le_refl _)
    have hDt : (delN len p r r.length).take (keepL len p r).length = keepL len p r := by rw [delN, hall, List.take_left]
    refine ⟨(rows (delN len p r r.length)).take (keepL len p r).length ++ List.replicate (r.length - (keepL len p r).length) Z4 ++ (rows (delN len p r r.length)).drop ((keepL len p r).length + (r.length - (keepL len p r).length)), ?_, ?_, ?_⟩
    · simp only [fd50, m50, go_sem, simprocAttr, ↓reduceIte, bank, rows_length, rows_take', c72]
      have hb1 : ((k : Int) == -1) = false := by simp
      have hw1 : IntKind.wrap .i64 ((k : Int) + 1) = ((k + 1 : Nat) : Int) := by rw [wrap_i64 (by omega) (by omega)]; rfl
      simp only [go_sem, simprocAttr, ↓reduceIte, hb1, hw1]
      rw [iter_to (fun t => S50 r c len f sh l p q (k + 1 + t)) (r.length - (k + 1)) (by unfold LF; omega)]
      · have hj : k + 1 + (r.length - (k + 1)) = r.length := by omega
        have hKi : ((keepL len p r).length : Int) ≤ (r.length : Int) := by omega
        have h5 : (keepL len p r).length + (r.length - (keepL len p r).length) ≤ r.length := by omega
        simp (disch := ((fail_if_success (intro _)); omega)) only [go_sem, simprocAttr, ↓reduceIte, xx, S50, hj, hall, bank, rows_length, hDl, Nat.sub_zero]
      · simp (disch := ((fail_if_success (intro _)); omega)) only [go_sem, simprocAttr, ↓reduceIte, xx, S50, hl1, hD1, bank]
      · intro t ht
        exact hlp (k + 1 + t) (by omega)
      · have hj : k + 1 + (r.length - (k + 1)) = r.length := by omega
        simp (disch := ((fail_if_success (intro _)); omega)) only [go_sem, simprocAttr, ↓reduceIte, xx, S50, hj, rows_length]
    · simp only [List.length_append, List.length_take, rows_length, hDl, List.length_replicate]; omega
    · rw [List.append_assoc, List.take_append_of_le_length (by simp only [List.length_take, rows_length, hDl]; omega), List.take_take, Nat.min_self]
      rw [rows, ← List.map_take, hDt]; rfl
  · rw [if_neg hkl] at c72
    have hall : keepL len p r = r := List.filter_eq_self.2 fun x hx => by
      obtain ⟨i, hi, rfl⟩ := List.getElem_of_mem hx
      rw [at_get hi]; exact hbef i (by omega)
    refine ⟨rows r, ?_, by rw [hall, rows_length]; omega, by rw [hall, ← rows_length, List.take_length]⟩
    rw [hall]
    simp (disch := ((fail_if_success (intro _)); omega)) only [go_sem, simprocAttr, ↓reduceIte, xx, fd50, m50, bank, rows_length, rows_take', c72]
end
theorem forget_ok (h : 7 ≤ n) (c len : Int) (f : Bool) {sh : Sh} {l : List Q4} (hs : Shp l sh) (hv : VB c len l) (p q : Int) (hp : PV p q) :
    call gl tab n 12 [bank c len f sh l, .agg [i64 p, i64 q]] [] = some (.tup [bank c len false sR (keepL len p l), i64 0], [], []) := by
  obtain ⟨d, rfl⟩ := Nat.exists_eq_add_of_le' h
  have hr := hv.r
  have hn := hv.n
  obtain ⟨p1, p2, p3⟩ := hp
  have c17 := @vb17 gl (d + 6) (by omega) c len f sh l hs hv
  have c49 := @pvalid_at gl (d + 6) (by omega) p q
  rw [decide_eq_true (show PV p q from ⟨p1, p2, p3⟩)] at c49
  have c51 : ∀ f, call gl tab (d + 6) 51 [.lst f sh (rows l)] [] = some (.sl 20000 [] 0 l.length, [], [.grow sR (rows l)]) := fun f => by
    rw [call_giv (fd := fd51) rfl rfl]
    have h1 : l.length ≤ LIM := by unfold LIM; omega
    have h2 : (rows l).isEmpty = true ∨ Sh.beq sR sh = true := hs.imp (fun h => by simp [h, rows]) fun h => by rw [h]; rfl
    have h3 : rows l = [] ∨ Sh.beq sR sh = true := by simpa using h2
    simp [cloneG, rows_length, h1, h3]
  obtain ⟨L, c50, hL1, hL2⟩ := @delete_at gl (d + 6) c len f sh l l p q (by omega) (by omega) ⟨p1, by omega⟩ (by omega)
  simp only [bank] at c17 c50
  rw [call_go (fd := fd12) rfl]
  simp (disch := ((fail_if_success (intro _)); omega)) only [go_sem, simprocAttr, ↓reduceIte, xx, fd12, m12, bank, c17, c49, c51, rows_length, c50, hL1, hL2]
theorem forget_f (h : 7 ≤ n) (c len : Int) (f : Bool) {sh : Sh} {l : List Q4} (hs : Shp l sh) (hl : l.length < 2 ^ 30) (p q : Int) (hv : ¬ (VB c len l ∧ PV p q)) :
    call gl tab n 12 [bank c len f sh l, .agg [i64 p, i64 q]] [] = some (.tup [bank0, i64 1], [], []) := by
  obtain ⟨d, rfl⟩ := Nat.exists_eq_add_of_le' h
  have c49 := @pvalid_at gl (d + 6) (by omega) p q
  rw [call_go (fd := fd12) rfl]
  by_cases hv1 : VB c len l
  · have c17 := @vb17 gl (d + 6) (by omega) c len f sh l hs hv1
    rw [decide_eq_false fun h => hv ⟨hv1, h⟩] at c49
    simp only [bank] at c17
    simp (disch := ((fail_if_success (intro _)); omega)) only [go_sem, simprocAttr, ↓reduceIte, xx, fd12, m12, bank, c17, c49, rows_nil]
  · have c17 := @nvb17 gl (d + 6) (by omega) c len f sh l hs hl hv1
    simp only [bank] at c17
    simp (disch := ((fail_if_success (intro _)); omega)) only [go_sem, simprocAttr, ↓reduceIte, xx, fd12, m12, bank, c17, c49, rows_nil]
end Go.Proofs.S39
