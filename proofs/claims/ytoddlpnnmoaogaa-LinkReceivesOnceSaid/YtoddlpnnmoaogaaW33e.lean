/-
  Chapter 33: what is deleted from those ahead. No condition.
-/
import Derived.Test.YtoddlpnnmoaogaaW33d
set_option linter.unusedVariables false
set_option linter.unusedSimpArgs false
set_option linter.unusedSectionVars false
namespace Go.Proofs.S33
open Go Go.Ev Go.Proofs
set_option linter.unusedSimpArgs false
set_option linter.unusedVariables false
variable {gl : Gl} {n : Nat}
/-- Receive's closure: the box of the inbox (at 100000), the box of what is delivered, and its list. -/
theorem del_at (h : 1 ≤ n) (f : Bool) (m : Sh) (l out : List Fm) (s : Bool) (q nx : Int) (b : List UInt8) (hq : 0 ≤ q ∧ q ≤ 2199023255552) (hnx : 0 ≤ nx ∧ nx ≤ 2199023255552) (ho : out.length < 2 ^ 20) (hqn : nx < q) :
    call gl tab n 24 [.agg [.bool s, i64 q, .str b], .ptr 100000 [], .ptr 100001 []] [(100000, .fix (.st [.sc, .sc]) (.agg [i64 nx, .lst f m (fm l)])), (100001, .fix .sc (.sl 100002 [] 0 out.length)), (100002, .grow sF (fm out))] =
      some (.bool false, [(100000, .fix (.st [.sc, .sc]) (.agg [i64 nx, .lst f m (fm l)])), (100001, .fix .sc (.sl 100002 [] 0 out.length)), (100002, .grow sF (fm out))], []) := by
  obtain ⟨d, rfl⟩ := Nat.exists_eq_add_of_le' h
  have h1 : (q == nx) = false := by rw [beq_eq_false_iff_ne]; omega
  rw [call_gen (fd := fd24) rfl]
  simp (disch := ((fail_if_success (intro _)); omega)) only [go_sem, simprocAttr, ↓reduceIte, xx, fd24, m24, h1]
theorem del_gt (h : 1 ≤ n) (f : Bool) (m : Sh) (l out : List Fm) (s : Bool) (q nx : Int) (b : List UInt8) (hq : 0 ≤ q ∧ q ≤ 2199023255552) (hnx : 0 ≤ nx ∧ nx ≤ 2199023255552) (ho : out.length < 2 ^ 20) (hqn : q < nx) :
    call gl tab n 24 [.agg [.bool s, i64 q, .str b], .ptr 100000 [], .ptr 100001 []] [(100000, .fix (.st [.sc, .sc]) (.agg [i64 nx, .lst f m (fm l)])), (100001, .fix .sc (.sl 100002 [] 0 out.length)), (100002, .grow sF (fm out))] =
      some (.bool true, [(100000, .fix (.st [.sc, .sc]) (.agg [i64 nx, .lst f m (fm l)])), (100001, .fix .sc (.sl 100002 [] 0 out.length)), (100002, .grow sF (fm out))], []) := by
  obtain ⟨d, rfl⟩ := Nat.exists_eq_add_of_le' h
  have h1 : (q == nx) = false := by rw [beq_eq_false_iff_ne]; omega
  rw [call_gen (fd := fd24) rfl]
  simp (disch := ((fail_if_success (intro _)); omega)) only [go_sem, simprocAttr, ↓reduceIte, xx, fd24, m24, h1]
set_option maxHeartbeats 2000000 in
theorem del_eq (h : 1 ≤ n) (f : Bool) (m : Sh) (l out : List Fm) (s : Bool) (nx : Int) (b : List UInt8) (hnx : 0 ≤ nx ∧ nx ≤ 2199023255552) (ho : out.length < 2 ^ 20) :
    call gl tab n 24 [.agg [.bool s, i64 nx, .str b], .ptr 100000 [], .ptr 100001 []] [(100000, .fix (.st [.sc, .sc]) (.agg [i64 nx, .lst f m (fm l)])), (100001, .fix .sc (.sl 100002 [] 0 out.length)), (100002, .grow sF (fm out))] =
      some (.bool true, [(100000, .fix (.st [.sc, .sc]) (.agg [i64 (nx + 1), .lst f m (fm l)])), (100001, .fix .sc (.sl 20000 [] 0 (out.length + 1))), (100002, .dead)], [.grow sF (fm (out ++ [⟨s, nx, b⟩]))]) := by
  obtain ⟨d, rfl⟩ := Nat.exists_eq_add_of_le' h
  have hL : out.length + 1 ≤ LIM := by unfold LIM; omega
  rw [call_gen (fd := fd24) rfl]
  simp (maxSteps := 1000000) (disch := ((fail_if_success (intro _)); omega)) only [go_sem, simprocAttr, ↓reduceIte, xx, fd24, m24, fm_length, fm_app, beq_self_eq_true, hL]
end Go.Proofs.S33
