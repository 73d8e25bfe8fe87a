/-
  Chapter 33: the first frame ahead that is deleted. No condition.
-/
import Derived.Test.YtoddlpnnmoaogaaW33e
set_option linter.unusedVariables false
set_option linter.unusedSimpArgs false
set_option linter.unusedSectionVars false
namespace Go.Proofs.S33
open Go Go.Ev Go.Proofs
set_option linter.unusedSimpArgs false
set_option linter.unusedVariables false
variable {gl : Gl} {n : Nat}
def L34 : MC := match m34 with | .seq _ (.seq (.seq _ (.block _ (.loop _ b))) _) => b | _ => .skip
def bI (f : Bool) (m : Sh) (nx : Int) (l0 : List Fm) : OB := .fix (.st [.sc, .sc]) (.agg [i64 nx, .lst f m (fm l0)])
def bO (k : Nat) (o : List Fm) : OB := .fix .sc (.sl k [] 0 o.length)
def S34 (f : Bool) (m : Sh) (nx : Int) (l0 l o : List Fm) (i : Nat) : St :=
  ⟨[.set 8 (i64 i), .set 7 (i64 l.length), .set 1 (.fn 24 [.ptr 100001 [], .ptr 100002 []]), .set 0 (.sl 100000 [] 0 l.length)], [(100003, .grow sF (fm o)), (100002, bO 100003 o), (100001, bI f m nx l0), (100000, .grow sF (fm l))]⟩
theorem ix_none (h : 2 ≤ n) (f : Bool) (m : Sh) (nx : Int) (l0 l o : List Fm) (hnx : 0 ≤ nx ∧ nx ≤ 2199023255552) (hl : l.length ≤ 1000) (ho : o.length < 1000) (hq : ∀ i, i < l.length → nx < (fat l i).q ∧ (fat l i).q ≤ 2199023255552) :
    call gl tab n 34 [.sl 100000 [] 0 l.length, .fn 24 [.ptr 100001 [], .ptr 100002 []]] [(100000, .grow sF (fm l)), (100001, bI f m nx l0), (100002, bO 100003 o), (100003, .grow sF (fm o))] =
      some (i64 (-1), [(100000, .grow sF (fm l)), (100001, bI f m nx l0), (100002, bO 100003 o), (100003, .grow sF (fm o))], []) := by
  obtain ⟨d, rfl⟩ := Nat.exists_eq_add_of_le' h
  have hs : ∀ i, i < l.length → contK [.slot 0, .slot 1, .slot 7, .slot 8, .mv 100002 [] 8020] (evC gl (call gl tab (d + 1)) L34 (S34 f m nx l0 l o i)) = some (S34 f m nx l0 l o (i + 1)) := fun i hi => by
    have hx := fm_at hi
    have := hq i hi
    have c := @del_at gl (d + 1) (by omega) f m l0 o (fat l i).s (fat l i).q nx (fat l i).b (by omega) hnx (by omega) (by omega)
    simp (disch := ((fail_if_success (intro _)); omega)) only [go_sem, simprocAttr, ↓reduceIte, xx, L34, m34, S34, bI, bO, fm_length, hx, c]
  simp only [L34, m34] at hs
  rw [call_gen (fd := fd34) rfl]
  simp (disch := ((fail_if_success (intro _)); omega)) only [go_sem, simprocAttr, ↓reduceIte, xx, fd34, m34, fm_length, bI, bO]
  rw [iter_to (S34 f m nx l0 l o) l.length (by unfold LF; omega)]
  · simp (disch := ((fail_if_success (intro _)); omega)) only [go_sem, simprocAttr, ↓reduceIte, xx, S34, fm_length, bI, bO]
  · simp (disch := ((fail_if_success (intro _)); omega)) only [go_sem, simprocAttr, ↓reduceIte, xx, S34, fm_length, bI, bO]
  · exact hs
  · simp (disch := ((fail_if_success (intro _)); omega)) only [go_sem, simprocAttr, ↓reduceIte, xx, S34, fm_length, bI, bO]
theorem ix_gt (h : 2 ≤ n) (f : Bool) (m : Sh) (nx : Int) (l0 l o : List Fm) (hnx : 0 ≤ nx ∧ nx ≤ 2199023255552) (hl : l.length ≤ 1000) (ho : o.length < 1000) (h0 : 0 < l.length) (hq : 0 ≤ (fat l 0).q ∧ (fat l 0).q < nx) :
    call gl tab n 34 [.sl 100000 [] 0 l.length, .fn 24 [.ptr 100001 [], .ptr 100002 []]] [(100000, .grow sF (fm l)), (100001, bI f m nx l0), (100002, bO 100003 o), (100003, .grow sF (fm o))] =
      some (i64 0, [(100000, .grow sF (fm l)), (100001, bI f m nx l0), (100002, bO 100003 o), (100003, .grow sF (fm o))], []) := by
  obtain ⟨d, rfl⟩ := Nat.exists_eq_add_of_le' h
  have hx := fm_at h0
  have c := @del_gt gl (d + 1) (by omega) f m l0 o (fat l 0).s (fat l 0).q nx (fat l 0).b (by omega) hnx (by omega) (by omega)
  rw [call_gen (fd := fd34) rfl]
  simp (disch := ((fail_if_success (intro _)); omega)) only [go_sem, simprocAttr, ↓reduceIte, xx, fd34, m34, fm_length, bI, bO]
  rw [iter_to (S34 f m nx l0 l o) 0 (by unfold LF; omega)]
  · simp (disch := ((fail_if_success (intro _)); omega)) only [go_sem, simprocAttr, ↓reduceIte, xx, S34, fm_length, bI, bO, hx, c]
  · simp (disch := ((fail_if_success (intro _)); omega)) only [go_sem, simprocAttr, ↓reduceIte, xx, S34, fm_length, bI, bO]
  · exact fun i hi => absurd hi (by omega)
  · simp (disch := ((fail_if_success (intro _)); omega)) only [go_sem, simprocAttr, ↓reduceIte, xx, S34, fm_length, bI, bO, hx, c]
theorem ix_eq (h : 2 ≤ n) (f : Bool) (m : Sh) (nx : Int) (l0 l o : List Fm) (hnx : 0 ≤ nx ∧ nx ≤ 2199023255552) (hl : l.length ≤ 1000) (ho : o.length < 1000) (h0 : 0 < l.length) (hq : (fat l 0).q = nx) :
    call gl tab n 34 [.sl 100000 [] 0 l.length, .fn 24 [.ptr 100001 [], .ptr 100002 []]] [(100000, .grow sF (fm l)), (100001, bI f m nx l0), (100002, bO 100003 o), (100003, .grow sF (fm o))] =
      some (i64 0, [(100000, .grow sF (fm l)), (100001, bI f m (nx + 1) l0), (100002, .fix .sc (.sl 20000 [] 0 (o.length + 1))), (100003, .dead)], [.grow sF (fm (o ++ [fat l 0]))]) := by
  obtain ⟨d, rfl⟩ := Nat.exists_eq_add_of_le' h
  have hx := fm_at h0
  have c := @del_eq gl (d + 1) (by omega) f m l0 o (fat l 0).s nx (fat l 0).b hnx (by omega)
  rw [hq] at hx
  have he : (⟨(fat l 0).s, nx, (fat l 0).b⟩ : Fm) = fat l 0 := by rw [← hq]
  rw [he] at c
  rw [call_gen (fd := fd34) rfl]
  simp (disch := ((fail_if_success (intro _)); omega)) only [go_sem, simprocAttr, ↓reduceIte, xx, fd34, m34, fm_length, bI, bO]
  rw [iter_to (S34 f m nx l0 l o) 0 (by unfold LF; omega)]
  · simp (disch := ((fail_if_success (intro _)); omega)) only [go_sem, simprocAttr, ↓reduceIte, xx, S34, fm_length, bI, bO, hx, c]
  · simp (disch := ((fail_if_success (intro _)); omega)) only [go_sem, simprocAttr, ↓reduceIte, xx, S34, fm_length, bI, bO]
  · exact fun i hi => absurd hi (by omega)
  · simp (disch := ((fail_if_success (intro _)); omega)) only [go_sem, simprocAttr, ↓reduceIte, xx, S34, fm_length, bI, bO, hx, c]
end Go.Proofs.S33
