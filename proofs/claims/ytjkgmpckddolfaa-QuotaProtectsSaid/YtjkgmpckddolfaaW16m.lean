/-
  Chapter 16: the range over what is in excess. No condition.
-/
import Derived.Test.YtjkgmpckddolfaaW16i
import Derived.Test.YtjkgmpckddolfaaW16g
set_option linter.unusedVariables false
set_option linter.unusedSimpArgs false
set_option linter.unusedSectionVars false
namespace Go.Proofs.S16
open Go Go.Ev Go.Proofs
set_option linter.unusedSimpArgs false
set_option linter.unusedVariables false
variable {gl : Gl} {n : Nat}
/-- The victim among the first accounts, and its excess. -/
def bst (l : List A3) (g : List Int) (k : Nat) : Nat → Int × Int
  | 0 => (0, 0)
  | i + 1 => if i ≠ k ∧ (bst l g k i).2 < (aat l i).u - nat g i then ((aat l i).t, (aat l i).u - nat g i) else bst l g k i
theorem bst_nn (l : List A3) (g : List Int) (k : Nat) : ∀ i, 0 ≤ (bst l g k i).2
  | 0 => Int.le_refl _
  | i + 1 => by
    have := bst_nn l g k i
    rw [bst]; split
    · simp only; omega
    · exact this
def L50 : MC := match m50 with | .seq _ (.block _ (.loop _ b)) => b | _ => .skip
def S50 (l : List A3) (g : List Int) (k N : Nat) (o : Int × Int) (i : Nat) : St :=
  ⟨[.set 9 (i64 i), .set 8 (i64 l.length), .set 7 (.lst false sA (ac l)), .set 3 (.ptr 100005 []), .set 2 (.ptr 100004 []), .set 0 (.yld 100000)],
    [(100006, .grow .sc (ns g)), (100005, .fix .sc (.sl 100006 [] 0 N)), (100004, .fix .sc (i64 k)), (100003, .fix .sc (.lst false sA (ac l))), (100002, .fix .sc (i64 o.2)), (100001, .fix .sc (i64 o.1)), (100000, .lp 290 [.ptr 100001 [], .ptr 100002 []] .ready)]⟩
theorem round_at (h : 1 ≤ n) (a b t x : Int) : call gl tab n 1000290 [i64 t, i64 x] [(100000, .lp 290 [.ptr 100001 [], .ptr 100002 []] .ready), (100001, .fix .sc (i64 a)), (100002, .fix .sc (i64 b))] =
    some (.bool true, [(100000, .lp 290 [.ptr 100001 [], .ptr 100002 []] .ready), (100001, .fix .sc (i64 (if b < x then t else a))), (100002, .fix .sc (i64 (if b < x then x else b)))], []) := by
  obtain ⟨d, rfl⟩ := Nat.exists_eq_add_of_le' h
  rw [call_giv (fd := fdR290) rfl rfl]
  by_cases hb : b < x
  · simp (disch := ((fail_if_success (intro _)); omega)) only [go_sem, simprocAttr, ↓reduceIte, xx, fdR290, ma290, mb290]
  · simp (disch := ((fail_if_success (intro _)); omega)) only [go_sem, simprocAttr, ↓reduceIte, xx, fdR290, ma290, mb290]
set_option maxHeartbeats 2000000 in
theorem step50 {d : Nat} {l : List A3} {g : List Int} {k i : Nat} (hv : VA l) (hgl : g.length = l.length) (hi : i < l.length) (hg : 0 ≤ nat g i ∧ nat g i ≤ 1099511627776) :
    contK [.slot 0, .slot 2, .slot 3, .slot 7, .slot 8, .slot 9] (evC gl (call gl tab (d + 1)) L50 (S50 l g k l.length (bst l g k i) i)) = some (S50 l g k l.length (bst l g k (i + 1)) (i + 1)) := by
  have hn := hv.n
  have hx := ac_at hi
  have hu := (hv.ok i hi).u
  have hy := ns_at (show i < g.length by omega)
  by_cases hk : i = k
  · subst hk
    have e : bst l g i (i + 1) = bst l g i i := by rw [bst, if_neg (by omega)]
    simp (disch := ((fail_if_success (intro _)); omega)) only [go_sem, simprocAttr, ↓reduceIte, xx, L50, m50, S50, hx, ac_length, e]
  · have h1 : ((i : Int) == k) = false := by rw [beq_eq_false_iff_ne]; omega
    by_cases h2 : nat g i < (aat l i).u
    · have c290 := @round_at gl (d + 1) (by omega) (bst l g k i).1 (bst l g k i).2 (aat l i).t ((aat l i).u - nat g i)
      have e : bst l g k (i + 1) = (if (bst l g k i).2 < (aat l i).u - nat g i then (aat l i).t else (bst l g k i).1, if (bst l g k i).2 < (aat l i).u - nat g i then (aat l i).u - nat g i else (bst l g k i).2) := by
        rw [bst]
        by_cases h3 : (bst l g k i).2 < (aat l i).u - nat g i
        · rw [if_pos ⟨hk, h3⟩, if_pos h3, if_pos h3]
        · rw [if_neg (fun h => h3 h.2), if_neg h3, if_neg h3]
      rw [e]
      generalize bst l g k i = o at *
      simp (disch := ((fail_if_success (intro _)); omega)) only [go_sem, simprocAttr, ↓reduceIte, xx, L50, m50, S50, hx, ac_length, h1, hy, ns_length, hgl, c290]
    · have e : bst l g k (i + 1) = bst l g k i := by
        rw [bst, if_neg]; intro h
        have := bst_nn l g k i
        omega
      rw [e]
      generalize bst l g k i = o at *
      simp (disch := ((fail_if_success (intro _)); omega)) only [go_sem, simprocAttr, ↓reduceIte, xx, L50, m50, S50, hx, ac_length, h1, hy, ns_length, hgl]
theorem excess_at (h : 1 ≤ n) {l : List A3} {g : List Int} {k N : Nat} :
    call gl tab n 44 [.lst false sA (ac l), .sl 100000 [] 0 N, i64 k] [(100000, .grow .sc (ns g))] = some (.fn 50 [.ptr 20000 [], .ptr 20001 [], .ptr 20002 []], [(100000, .grow .sc (ns g))], [.fix .sc (.lst false sA (ac l)), .fix .sc (i64 k), .fix .sc (.sl 100000 [] 0 N)]) := by
  obtain ⟨d, rfl⟩ := Nat.exists_eq_add_of_le' h
  rw [call_gen (fd := fd44) rfl]
  simp (disch := ((fail_if_success (intro _)); omega)) only [go_sem, simprocAttr, ↓reduceIte, xx, fd44, m44]
theorem excess_all (h : 2 ≤ n) {l : List A3} {g : List Int} {k : Nat} (hv : VA l) (hgl : g.length = l.length) (hg : ∀ i, i < l.length → 0 ≤ nat g i ∧ nat g i ≤ 1099511627776) :
    call gl tab n 50 [.yld 100000, .ptr 100003 [], .ptr 100004 [], .ptr 100005 []]
      [(100000, .lp 290 [.ptr 100001 [], .ptr 100002 []] .ready), (100001, .fix .sc (i64 0)), (100002, .fix .sc (i64 0)), (100003, .fix .sc (.lst false sA (ac l))), (100004, .fix .sc (i64 k)), (100005, .fix .sc (.sl 100006 [] 0 l.length)), (100006, .grow .sc (ns g))] =
    some (.tup [], [(100000, .lp 290 [.ptr 100001 [], .ptr 100002 []] .ready), (100001, .fix .sc (i64 (bst l g k l.length).1)), (100002, .fix .sc (i64 (bst l g k l.length).2)), (100003, .fix .sc (.lst false sA (ac l))), (100004, .fix .sc (i64 k)), (100005, .fix .sc (.sl 100006 [] 0 l.length)), (100006, .grow .sc (ns g))], []) := by
  obtain ⟨d, rfl⟩ := Nat.exists_eq_add_of_le' h
  have hn := hv.n
  have hs := fun i hi => @step50 gl d l g k i hv hgl hi (hg i hi)
  simp only [L50, m50] at hs
  rw [call_gen (fd := fd50) rfl]
  simp (disch := ((fail_if_success (intro _)); omega)) only [go_sem, simprocAttr, ↓reduceIte, xx, fd50, m50, ac_length]
  rw [iter_to (fun i => S50 l g k l.length (bst l g k i) i) l.length (by unfold LF; omega)]
  · simp (disch := ((fail_if_success (intro _)); omega)) only [go_sem, simprocAttr, ↓reduceIte, xx, S50, ac_length]
  · simp (disch := ((fail_if_success (intro _)); omega)) only [go_sem, simprocAttr, ↓reduceIte, xx, S50, ac_length, bst]
  · exact hs
  · simp (disch := ((fail_if_success (intro _)); omega)) only [go_sem, simprocAttr, ↓reduceIte, xx, S50, ac_length]
end Go.Proofs.S16
