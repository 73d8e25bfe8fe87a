/-
  Chapter 39: coins of windows that are over. No condition.
-/
import Derived.Test.YtdbppejfcolacaaS39cf
import Derived.Test.YtdbppejfcolacaaS39y
set_option linter.unusedVariables false
set_option linter.unusedSimpArgs false
set_option linter.unusedSectionVars false
namespace Go.Proofs.S39
namespace Co
open Go Go.Ev Go.Proofs
set_option linter.unusedSimpArgs false
set_option linter.unusedVariables false
set_option linter.unusedSectionVars false
variable {gl : Gl} {n : Nat}
/-- The test, as it is handed to the library. -/
theorem over_cp (h : 2 ≤ n) (x : Q4) (len : Int) (f : Bool) {sh : Sh} (l : List Q4) (p q : Int) (hl : 1 ≤ len) (hp : 0 ≤ p ∧ p ≤ 1099511627776) :
    call gl tab n 65 [.agg [i64 x.w, i64 x.g, i64 x.d, i64 x.b], .cp (.st [.sc, .sc]) (purse len f sh l), .cp (.st [.sc, .sc]) (.agg [i64 p, i64 q])] [] = some (.bool (decide (x.w < p / len)), [], []) := by
  obtain ⟨d, rfl⟩ := Nat.exists_eq_add_of_le' h
  have c53 := @isOver_at gl (d + 1) (by omega) x.w len hl p q hp
  rw [call_go (fd := fd65) rfl]
  simp (disch := ((fail_if_success (intro _)); omega)) only [go_sem, simprocAttr, ↓reduceIte, xx, fd65, m65, purse, c53]
def fnCp (len : Int) (f : Bool) (sh : Sh) (l : List Q4) (p q : Int) : AV := .fn 65 [.cp (.st [.sc, .sc]) (purse len f sh l), .cp (.st [.sc, .sc]) (.agg [i64 p, i64 q])]
def S77 (r : List Q4) (fv : AV) (i : Nat) : St := ⟨[.set 8 (i64 i), .set 7 (i64 r.length), .set 1 fv, .set 0 (.lst false sR (rows r))], []⟩
def L77 : MC := match m77 with
  | .seq _ (.seq (.seq _ (.block _ (.loop _ b))) _) => b
  | _ => .skip
/-- The first row that goes. -/
theorem index_at (h : 3 ≤ n) (r : List Q4) (hr : r.length < 2 ^ 60) (len : Int) (f : Bool) {sh : Sh} (l : List Q4) (p q : Int) (hl : 1 ≤ len) (hp : 0 ≤ p ∧ p ≤ 1099511627776) :
    ∃ k, k ≤ r.length ∧ (∀ j, j < k → stay len p (at' r j) = true) ∧ (k < r.length → stay len p (at' r k) = false) ∧
      call gl tab n 77 [.lst false sR (rows r), fnCp len f sh l p q] [] = some (i64 (if k < r.length then (k : Int) else -1), [], []) := by
  obtain ⟨d, rfl⟩ := Nat.exists_eq_add_of_le' h
  have c65 := fun x => @over_cp gl (d + 2) (by omega) x len f sh l p q hl hp
  have hs : ∀ i, i < r.length → (∀ j, j < i → ¬ (at' r j).w < p / len) → ¬ (at' r i).w < p / len → contK [.slot 0, .slot 1, .slot 7, .slot 8] (evC gl (call gl tab (d + 2)) L77 (S77 r (fnCp len f sh l p q) i)) = some (S77 r (fnCp len f sh l p q) (i + 1)) := fun i hi _ hp' => by
    have hx := rows_at hi
    have hdec : decide ((at' r i).w < p / len) = false := decide_eq_false hp'
    simp (disch := ((fail_if_success (intro _)); omega)) only [go_sem, simprocAttr, ↓reduceIte, xx, L77, m77, S77, fnCp, hx, rows_length, c65, hdec]
  have hx : ∀ i, i < r.length → ¬ ¬ (at' r i).w < p / len → out1 4 (evC gl (call gl tab (d + 2)) L77 (S77 r (fnCp len f sh l p q) i)) = some (.ret, i64 i) := fun i hi hp' => by
    have hx := rows_at hi
    have hdec : decide ((at' r i).w < p / len) = true := decide_eq_true (Classical.not_not.1 hp')
    simp (disch := ((fail_if_success (intro _)); omega)) only [go_sem, simprocAttr, ↓reduceIte, xx, L77, m77, S77, fnCp, hx, rows_length, c65, hdec]
  obtain ⟨k, hk, hbef, hat, hit⟩ := iter_fst2 (f := evC gl (call gl tab (d + 2)) L77) (ks := [.slot 0, .slot 1, .slot 7, .slot 8]) (S77 r (fnCp len f sh l p q)) r.length (fun i => ¬ (at' r i).w < p / len) (by unfold LF; omega)
    hs (fun i hi _ hp' => out1_isEx (hx i hi hp')) (fun _ => by simp (disch := ((fail_if_success (intro _)); omega)) only [go_sem, simprocAttr, ↓reduceIte, xx, L77, m77, S77])
  refine ⟨k, hk, fun j hj => by simp [stay, hbef j hj], fun hkl => by simpa [stay] using hat hkl, ?_⟩
  simp only [L77, m77] at hit
  rw [call_go (fd := fd77) rfl]
  simp only [fd77, m77, go_sem, simprocAttr, ↓reduceIte, rows_length]
  rw [hit _ (by simp (disch := ((fail_if_success (intro _)); omega)) only [go_sem, simprocAttr, ↓reduceIte, xx, S77, fnCp])]
  by_cases hkl : k < r.length
  · obtain ⟨st, hst, hg⟩ := out1_get (hx k hkl (hat hkl))
    simp only [L77, m77] at hst
    rw [hst]
    simp (disch := ((fail_if_success (intro _)); omega)) only [go_sem, simprocAttr, ↓reduceIte, xx, hg]
  · obtain rfl : k = r.length := by omega
    simp (disch := ((fail_if_success (intro _)); omega)) only [go_sem, simprocAttr, ↓reduceIte, xx, S77, fnCp]
def S63 (r : List Q4) (len : Int) (f : Bool) (sh : Sh) (l : List Q4) (p q : Int) (j : Nat) : St :=
  ⟨[.set 6 (i64 j), .set 5 (i64 (keepL len p (r.take j)).length), .set 1 (.fn 65 [.ptr 100001 [], .ptr 100002 []]), .set 0 (.sl 100000 [] 0 r.length)],
   [(100002, .fix (.st [.sc, .sc]) (.agg [i64 p, i64 q])), (100001, .fix (.st [.sc, .sc]) (purse len f sh l)), (100000, .grow sR (rows (delN len p r j)))]⟩
def L63 : MC := match m63 with
  | .seq _ (.seq _ (.seq _ (.seq (.seq _ (.block _ (.loop _ b))) _))) => b
  | _ => .skip
section
variable {len : Int} {f : Bool} {sh : Sh} {l r : List Q4} {p q : Int} (hr : r.length < 2 ^ 60) (hl : 1 ≤ len) (hp : 0 ≤ p ∧ p ≤ 1099511627776)
include hr hl hp
theorem loop63 (h : 2 ≤ n) {j : Nat} (hj : j < r.length) : contK [.slot 0, .slot 1, .slot 5, .slot 6] (evC gl (call gl tab n) L63 (S63 r len f sh l p q j)) = some (S63 r len f sh l p q (j + 1)) := by
  have c65 := fun x => @over_cp gl n (by omega) x len f sh l p q hl hp
  have hk := keep_len (len := len) (p := p) r j
  have hlen := delN_len (len := len) (p := p) (r := r) (j := j) (by omega)
  have hx := rows_at (show j < (delN len p r j).length by omega)
  rw [delN_at (Nat.le_refl _) hj] at hx
  have hkl : (keepL len p (r.take j)).length < (delN len p r j).length := by omega
  have hx2 := rows_at hkl
  simp only [purse] at c65
  by_cases ho : (at' r j).w < p / len
  · have hdec : decide ((at' r j).w < p / len) = true := decide_eq_true ho
    have e1 : stay len p (at' r j) = false := by simp [stay, ho]
    have e2 := delN_drop hj e1
    have e3 : keepL len p (r.take (j + 1)) = keepL len p (r.take j) := by rw [keep_take hj, e1]; rfl
    simp (disch := ((fail_if_success (intro _)); omega)) only [go_sem, simprocAttr, ↓reduceIte, xx, L63, m63, S63, purse, hx, rows_length, hlen, c65, hdec, e2, e3]
  · have hdec : decide ((at' r j).w < p / len) = false := decide_eq_false ho
    have e1 : stay len p (at' r j) = true := by simp [stay, ho]
    have e2 := delN_keep hj e1
    have e3 : (keepL len p (r.take (j + 1))).length = (keepL len p (r.take j)).length + 1 := by rw [keep_take hj, e1, if_pos rfl]; simp
    simp (disch := ((fail_if_success (intro _)); omega)) only [go_sem, simprocAttr, ↓reduceIte, xx, L63, m63, S63, purse, hx, hx2, hkl, rows_length, hlen, c65, hdec, e2, e3, rows_setAt, List.length_set]
theorem delete_at (h : 4 ≤ n) : ∃ L, call gl tab n 63 [.sl 100000 [] 0 r.length, .fn 65 [.ptr 100001 [], .ptr 100002 []]] [(100000, .grow sR (rows r)), (100001, .fix (.st [.sc, .sc]) (purse len f sh l)), (100002, .fix (.st [.sc, .sc]) (.agg [i64 p, i64 q]))] =
    some (.sl 100000 [] 0 (keepL len p r).length, [(100000, .grow sR L), (100001, .fix (.st [.sc, .sc]) (purse len f sh l)), (100002, .fix (.st [.sc, .sc]) (.agg [i64 p, i64 q]))], []) ∧ (keepL len p r).length ≤ L.length ∧ L.take (keepL len p r).length = rows (keepL len p r) := by
  obtain ⟨d, rfl⟩ := Nat.exists_eq_add_of_le' h
  obtain ⟨k, hk, hbef, hat, c77⟩ := @index_at gl (d + 3) (by omega) r hr len f sh l p q hl hp
  have hlp := fun j hj => @loop63 gl (d + 3) len f sh l r p q hr hl hp (by omega) j hj
  simp only [L63, m63] at hlp
  simp only [fnCp, purse] at c77
  rw [call_gen (fd := fd63) rfl]
  by_cases hkl : k < r.length
  · rw [if_pos hkl] at c77
    have hkeep : keepL len p (r.take k) = r.take k := List.filter_eq_self.2 fun x hx => by
      obtain ⟨i, hi, rfl⟩ := List.getElem_of_mem hx
      rw [List.length_take] at hi
      rw [List.getElem_take, at_get (show i < r.length by omega)]; exact hbef i (by omega)
    have hk1 : keepL len p (r.take (k + 1)) = r.take k := by rw [keep_take hkl, hat hkl, if_neg (by simp), hkeep]
    have hD1 : delN len p r (k + 1) = r := by
      rw [delN, hk1, List.length_take, Nat.min_eq_left (by omega), List.take_append_drop]
    have hl1 : (keepL len p (r.take (k + 1))).length = k := by rw [hk1, List.length_take, Nat.min_eq_left (by omega)]
    have hall : keepL len p (r.take r.length) = keepL len p r := by rw [List.take_length]
    have hKle : (keepL len p r).length ≤ r.length := List.length_filter_le _ _
    have hDl : (delN len p r r.length).length = r.length := delN_len (Nat.le_refl _)
    have hDt : (delN len p r r.length).take (keepL len p r).length = keepL len p r := by rw [delN, hall, List.take_left]
    refine ⟨(rows (delN len p r r.length)).take (keepL len p r).length ++ List.replicate (r.length - (keepL len p r).length) Z4 ++ (rows (delN len p r r.length)).drop ((keepL len p r).length + (r.length - (keepL len p r).length)), ?_, ?_, ?_⟩
    · simp only [fd63, m63, go_sem, simprocAttr, ↓reduceIte, purse, rows_length, rows_take', c77]
      have hb1 : ((k : Int) == -1) = false := by simp
      have hw1 : IntKind.wrap .i64 ((k : Int) + 1) = ((k + 1 : Nat) : Int) := by rw [wrap_i64 (by omega) (by omega)]; rfl
      simp only [go_sem, simprocAttr, ↓reduceIte, hb1, hw1]
      rw [iter_to (fun t => S63 r len f sh l p q (k + 1 + t)) (r.length - (k + 1)) (by unfold LF; omega)]
      · have hj : k + 1 + (r.length - (k + 1)) = r.length := by omega
        have hKi : ((keepL len p r).length : Int) ≤ (r.length : Int) := by omega
        have h5 : (keepL len p r).length + (r.length - (keepL len p r).length) ≤ r.length := by omega
        simp (disch := ((fail_if_success (intro _)); omega)) only [go_sem, simprocAttr, ↓reduceIte, xx, S63, hj, hall, purse, rows_length, hDl, Nat.sub_zero]
      · simp (disch := ((fail_if_success (intro _)); omega)) only [go_sem, simprocAttr, ↓reduceIte, xx, S63, hl1, hD1, purse]
      · intro t ht
        exact hlp (k + 1 + t) (by omega)
      · have hj : k + 1 + (r.length - (k + 1)) = r.length := by omega
        simp (disch := ((fail_if_success (intro _)); omega)) only [go_sem, simprocAttr, ↓reduceIte, xx, S63, hj, rows_length]
    · simp only [List.length_append, List.length_take, rows_length, hDl, List.length_replicate]; omega
    · rw [List.append_assoc, List.take_append_of_le_length (by simp only [List.length_take, rows_length, hDl]; omega), List.take_take, Nat.min_self]
      rw [rows, ← List.map_take, hDt]; rfl
  · rw [if_neg hkl] at c77
    have hall : keepL len p r = r := List.filter_eq_self.2 fun x hx => by
      obtain ⟨i, hi, rfl⟩ := List.getElem_of_mem hx
      rw [at_get hi]; exact hbef i (by omega)
    refine ⟨rows r, ?_, by rw [hall, rows_length]; omega, by rw [hall, ← rows_length, List.take_length]⟩
    rw [hall]
    simp (disch := ((fail_if_success (intro _)); omega)) only [go_sem, simprocAttr, ↓reduceIte, xx, fd63, m63, purse, rows_length, rows_take', c77]
end
theorem drop_ok (h : 7 ≤ n) (len : Int) (f : Bool) {sh : Sh} {l : List Q4} (hs : Shp l sh) (hv : VP len l) (p q : Int) (hp : PV p q) :
    call gl tab n 31 [purse len f sh l, .agg [i64 p, i64 q]] [] = some (.tup [purse len false sR (keepL len p l), i64 0], [], []) := by
  obtain ⟨d, rfl⟩ := Nat.exists_eq_add_of_le' h
  have hr := hv.r
  have hn := hv.n
  obtain ⟨p1, p2, p3⟩ := hp
  have c17 := @vp37 gl (d + 6) (by omega) len f sh l hs hv
  have c49 := @pvalid_at gl (d + 6) (by omega) p q
  rw [decide_eq_true (show PV p q from ⟨p1, p2, p3⟩)] at c49
  have c64 : ∀ f, call gl tab (d + 6) 64 [.lst f sh (rows l)] [] = some (.sl 20000 [] 0 l.length, [], [.grow sR (rows l)]) := fun f => by
    rw [call_giv (fd := fd64) rfl rfl]
    have h1 : l.length ≤ LIM := by unfold LIM; omega
    have h2 : (rows l).isEmpty = true ∨ Sh.beq sR sh = true := hs.imp (fun h => by simp [h, rows]) fun h => by rw [h]; rfl
    have h3 : rows l = [] ∨ Sh.beq sR sh = true := by simpa using h2
    simp [cloneG, rows_length, h1, h3]
  obtain ⟨L, c63, hL1, hL2⟩ := @delete_at gl (d + 6) len f sh l l p q (by omega) (by omega) ⟨p1, by omega⟩ (by omega)
  simp only [purse] at c17 c63
  rw [call_go (fd := fd31) rfl]
  simp (disch := ((fail_if_success (intro _)); omega)) only [go_sem, simprocAttr, ↓reduceIte, xx, fd31, m31, purse, c17, c49, c64, rows_length, c63, hL1, hL2]
theorem drop_f (h : 7 ≤ n) (len : Int) (f : Bool) {sh : Sh} {l : List Q4} (hs : Shp l sh) (hl : l.length < 2 ^ 30) (p q : Int) (hv : ¬ (VP len l ∧ PV p q)) :
    call gl tab n 31 [purse len f sh l, .agg [i64 p, i64 q]] [] = some (.tup [purse0, i64 1], [], []) := by
  obtain ⟨d, rfl⟩ := Nat.exists_eq_add_of_le' h
  have c49 := @pvalid_at gl (d + 6) (by omega) p q
  rw [call_go (fd := fd31) rfl]
  by_cases hv1 : VP len l
  · have c17 := @vp37 gl (d + 6) (by omega) len f sh l hs hv1
    rw [decide_eq_false fun h => hv ⟨hv1, h⟩] at c49
    simp only [purse] at c17
    simp (disch := ((fail_if_success (intro _)); omega)) only [go_sem, simprocAttr, ↓reduceIte, xx, fd31, m31, purse, c17, c49, rows_nil]
  · have c17 := @nvp37 gl (d + 6) (by omega) len f sh l hs hl hv1
    simp only [purse] at c17
    simp (disch := ((fail_if_success (intro _)); omega)) only [go_sem, simprocAttr, ↓reduceIte, xx, fd31, m31, purse, c17, c49, rows_nil]
def S36 (len : Int) (f : Bool) (sh : Sh) (l : List Q4) (p q : Int) (i : Nat) : St :=
  ⟨[.set 6 (i64 i), .set 5 (.sl 5005 [] 0 (keepL len p (l.take i)).length), .set 4 (.ptr 4 []), .set 3 (.ptr 3 []), .set 2 (.ptr 2 [])],
   [(4, .fix (.st [.st [.sc, .sc], .sc]) (.agg [.agg [i64 0, .lst true .sc []], i64 0])), (3, .fix (.st [.sc, .sc]) (.agg [i64 p, i64 q])), (2, .fix (.st [.sc, .sc]) (purse len f sh l)), (5005, .grow sR (rows (keepL len p (l.take i))))]⟩
theorem rdrop_ok (h : 5 ≤ n) (len : Int) (f : Bool) {sh : Sh} {l : List Q4} (hs : Shp l sh) (hv : VP len l) (p q : Int) (hp : PV p q) :
    call gl tab n 36 [purse len f sh l, .agg [i64 p, i64 q]] [] = some (.agg [purse len false sR (keepL len p l), i64 0], [], []) := by
  obtain ⟨d, rfl⟩ := Nat.exists_eq_add_of_le' h
  have hr := hv.r
  have hn := hv.n
  obtain ⟨p1, p2, p3⟩ := hp
  have c18 := @vp38 gl (d + 4) (by omega) len f sh l hs hv
  have c59 := @rpvalid_at gl (d + 4) (by omega) p q
  have hpv : decide (PV p q) = true := decide_eq_true ⟨p1, p2, p3⟩
  rw [hpv] at c59
  simp only [purse] at c18
  rw [call_go (fd := fd36) rfl]
  simp only [fd36, m36, go_sem, simprocAttr, ↓reduceIte, purse, c18, c59]
  rw [iter_to (S36 len f sh l p q) l.length (by unfold LF; omega)]
  · simp (disch := ((fail_if_success (intro _)); omega)) only [go_sem, simprocAttr, ↓reduceIte, xx, S36, purse, rows_length, List.take_length, rows_take']
  · simp (disch := ((fail_if_success (intro _)); omega)) only [go_sem, simprocAttr, ↓reduceIte, xx, S36, purse, keepL, List.filter_nil, rows_nil]
  · intro i hi
    have hx := rows_at hi
    obtain rfl := hs.eq hi
    have hk := (hv.ok i hi).w
    have c60 := @rover_at gl (d + 4) (by omega) (at' l i).w len hk (by omega) p q ⟨by omega, by omega⟩
    have e := keep_take (len := len) (p := p) hi
    have hkl := keep_len (len := len) (p := p) l i
    have h6 : (keepL len p (l.take i)).length + 1 ≤ LIM := by unfold LIM; omega
    by_cases ho : (at' l i).w < p / len
    · have e1 : stay len p (at' l i) = false := by simp [stay, ho]
      rw [e1] at e
      simp only [Bool.false_eq_true, if_false] at e
      simp (disch := ((fail_if_success (intro _)); omega)) only [go_sem, simprocAttr, ↓reduceIte, xx, S36, purse, hx, rows_length, c60, e, ho]
    · have e1 : stay len p (at' l i) = true := by simp [stay, ho]
      rw [e1, if_pos rfl] at e
      simp (disch := ((fail_if_success (intro _)); omega)) only [go_sem, simprocAttr, ↓reduceIte, xx, S36, purse, hx, rows_length, c60, e, h6, rows_snoc, List.length_append, ho]
  · simp (disch := ((fail_if_success (intro _)); omega)) only [go_sem, simprocAttr, ↓reduceIte, xx, S36, purse, rows_length]
theorem rdrop_f (h : 5 ≤ n) (len : Int) (f : Bool) {sh : Sh} {l : List Q4} (hs : Shp l sh) (hl : l.length < 2 ^ 30) (p q : Int) (hv : ¬ (VP len l ∧ PV p q)) :
    call gl tab n 36 [purse len f sh l, .agg [i64 p, i64 q]] [] = some (.agg [purse0, i64 1], [], []) := by
  obtain ⟨d, rfl⟩ := Nat.exists_eq_add_of_le' h
  have c59 := @rpvalid_at gl (d + 4) (by omega) p q
  rw [call_go (fd := fd36) rfl]
  by_cases hv1 : VP len l
  · have c18 := @vp38 gl (d + 4) (by omega) len f sh l hs hv1
    have hpv : decide (PV p q) = false := by simpa using fun h => hv ⟨hv1, h⟩
    rw [hpv] at c59
    simp only [purse] at c18
    simp (disch := ((fail_if_success (intro _)); omega)) only [go_sem, simprocAttr, ↓reduceIte, xx, fd36, m36, purse, c18, c59, rows_nil]
  · have c18 := @nvp38 gl (d + 4) (by omega) len f sh l hs hl hv1
    simp only [purse] at c18
    simp (disch := ((fail_if_success (intro _)); omega)) only [go_sem, simprocAttr, ↓reduceIte, xx, fd36, m36, purse, c18, c59, rows_nil]
end Co
end Go.Proofs.S39
