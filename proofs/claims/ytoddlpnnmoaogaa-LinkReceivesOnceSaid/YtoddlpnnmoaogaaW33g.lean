/-
  Chapter 33: deleting. No condition.
-/
import Derived.Test.YtoddlpnnmoaogaaW33f
set_option linter.unusedVariables false
set_option linter.unusedSimpArgs false
set_option linter.unusedSectionVars false
namespace Go.Proofs.S33
open Go Go.Ev Go.Proofs
set_option linter.unusedSimpArgs false
set_option linter.unusedVariables false
variable {gl : Gl} {n : Nat}
theorem fm_set (l : List Fm) (i : Nat) (x : Fm) : (fm l).set i (.agg [.bool x.s, i64 x.q, .str x.b]) = fm (l.set i x) := by simp [fm, List.map_set]
theorem fm_len_set (l : List Fm) (i : Nat) (x : Fm) : (l.set i x).length = l.length := List.length_set
def L23 : MC := match m23 with | .seq _ (.seq _ (.seq _ (.seq (.seq _ (.block _ (.loop _ b))) _))) => b | _ => .skip
abbrev k23 : List Kp := [.slot 0, .slot 1, .slot 5, .slot 6, .mv 100002 [] 8020]
def hU (f : Bool) (m : Sh) (nx : Int) (l0 w o : List Fm) : Hp := [(100003, .grow sF (fm o)), (100002, bO 100003 o), (100001, bI f m nx l0), (100000, .grow sF (fm w))]
def hT (f : Bool) (m : Sh) (nx : Int) (l0 w o : List Fm) : Hp := [(100003, .dead), (100002, bO 8020 o), (100001, bI f m nx l0), (100000, .grow sF (fm w)), (8020, .grow sF (fm o))]
def S23 (w : List Fm) (i j : Nat) (h : Hp) : St := ⟨[.set 6 (i64 j), .set 5 (i64 i), .set 1 (.fn 24 [.ptr 100001 [], .ptr 100002 []]), .set 0 (.sl 100000 [] 0 w.length)], h⟩
theorem st1 (h : 1 ≤ n) (f : Bool) (m : Sh) (nx : Int) (l0 w o : List Fm) (i j : Nat) (hnx : 0 ≤ nx ∧ nx ≤ 2199023255552) (hl : w.length ≤ 1000) (ho : o.length < 1000) (hi : i < w.length) (hj : j < w.length) (hq : 0 ≤ (fat w j).q ∧ (fat w j).q < nx) :
    contK k23 (evC gl (call gl tab n) L23 (S23 w i j (hU f m nx l0 w o))) = some (S23 w i (j + 1) (hU f m nx l0 w o)) := by
  have hx := fm_at hj
  have c := @del_gt gl n h f m l0 o (fat w j).s (fat w j).q nx (fat w j).b (by omega) hnx (by omega) (by omega)
  simp (disch := ((fail_if_success (intro _)); omega)) only [go_sem, simprocAttr, ↓reduceIte, xx, L23, m23, S23, hU, bI, bO, fm_length, hx, c]
theorem st4 (h : 1 ≤ n) (f : Bool) (m : Sh) (nx : Int) (l0 w o : List Fm) (i j : Nat) (hnx : 0 ≤ nx ∧ nx ≤ 2199023255552) (hl : w.length ≤ 1000) (ho : o.length < 1000) (hi : i < w.length) (hj : j < w.length) (hq : nx < (fat w j).q ∧ (fat w j).q ≤ 2199023255552) :
    contK k23 (evC gl (call gl tab n) L23 (S23 w i j (hU f m nx l0 w o))) = some (S23 (w.set i (fat w j)) (i + 1) (j + 1) (hU f m nx l0 (w.set i (fat w j)) o)) := by
  have hx := fm_at hj
  have hy := fm_at hi
  have hs := fm_set w i (fat w j)
  have hs2 := fm_len_set w i (fat w j)
  have c := @del_at gl n h f m l0 o (fat w j).s (fat w j).q nx (fat w j).b (by omega) hnx (by omega) (by omega)
  simp (disch := ((fail_if_success (intro _)); omega)) only [go_sem, simprocAttr, ↓reduceIte, xx, L23, m23, S23, hU, bI, bO, fm_length, hx, hy, c, hs, hs2]
theorem st5 (h : 1 ≤ n) (f : Bool) (m : Sh) (nx : Int) (l0 w o : List Fm) (i j : Nat) (hnx : 0 ≤ nx ∧ nx ≤ 2199023255552) (hl : w.length ≤ 1000) (ho : o.length < 1000) (hi : i < w.length) (hj : j < w.length) (hq : nx < (fat w j).q ∧ (fat w j).q ≤ 2199023255552) :
    contK k23 (evC gl (call gl tab n) L23 (S23 w i j (hT f m nx l0 w o))) = some (S23 (w.set i (fat w j)) (i + 1) (j + 1) (hT f m nx l0 (w.set i (fat w j)) o)) := by
  have hx := fm_at hj
  have hy := fm_at hi
  have hs := fm_set w i (fat w j)
  have hs2 := fm_len_set w i (fat w j)
  have c := @del_at gl n h f m l0 o (fat w j).s (fat w j).q nx (fat w j).b (by omega) hnx (by omega) (by omega)
  simp (disch := ((fail_if_success (intro _)); omega)) only [go_sem, simprocAttr, ↓reduceIte, xx, L23, m23, S23, hT, bI, bO, fm_length, hx, hy, c, hs, hs2]
theorem st2 (h : 1 ≤ n) (f : Bool) (m : Sh) (nx : Int) (l0 w o : List Fm) (i j : Nat) (hnx : 0 ≤ nx ∧ nx ≤ 2199023255552) (hl : w.length ≤ 1000) (ho : o.length < 1000) (hi : i < w.length) (hj : j < w.length) (hq : (fat w j).q = nx) :
    contK k23 (evC gl (call gl tab n) L23 (S23 w i j (hU f m nx l0 w o))) = some (S23 w i (j + 1) (hT f m (nx + 1) l0 w (o ++ [fat w j]))) := by
  have hx := fm_at hj
  have c := @del_eq gl n h f m l0 o (fat w j).s nx (fat w j).b hnx (by omega)
  rw [hq] at hx
  have he : (⟨(fat w j).s, nx, (fat w j).b⟩ : Fm) = fat w j := by rw [← hq]
  rw [he] at c
  simp (disch := ((fail_if_success (intro _)); omega)) only [go_sem, simprocAttr, ↓reduceIte, xx, L23, m23, S23, hU, hT, bI, bO, fm_length, hx, c]
theorem st3 (h : 1 ≤ n) (f : Bool) (m : Sh) (nx : Int) (l0 w o : List Fm) (i j : Nat) (hnx : 0 ≤ nx ∧ nx ≤ 2199023255552) (hl : w.length ≤ 1000) (ho : o.length < 1000) (hi : i < w.length) (hj : j < w.length) (hq : (fat w j).q = nx) :
    contK k23 (evC gl (call gl tab n) L23 (S23 w i j (hT f m nx l0 w o))) = some (S23 w i (j + 1) (hT f m (nx + 1) l0 w (o ++ [fat w j]))) := by
  have hx := fm_at hj
  have c := @del_eq gl n h f m l0 o (fat w j).s nx (fat w j).b hnx (by omega)
  rw [hq] at hx
  have he : (⟨(fat w j).s, nx, (fat w j).b⟩ : Fm) = fat w j := by rw [← hq]
  rw [he] at c
  simp (disch := ((fail_if_success (intro _)); omega)) only [go_sem, simprocAttr, ↓reduceIte, xx, L23, m23, S23, hT, bI, bO, fm_length, hx, c]
end Go.Proofs.S33
