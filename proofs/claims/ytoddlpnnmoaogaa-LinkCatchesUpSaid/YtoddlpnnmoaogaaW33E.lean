/-
  Chapter 33: what is deleted from those ahead. No condition.
-/
import Derived.Test.YtoddlpnnmoaogaaW33d
set_option linter.unusedVariables false
set_option linter.unusedSimpArgs false
set_option linter.unusedSectionVars false
namespace Go.Proofs.S33
open Go Go.Ev Go.Proofs
set_option linter.unusedSimpArgs false
set_option linter.unusedVariables false
variable {gl : Gl} {n : Nat}
/-- Receive's closure: the box of the inbox (at 100000), the box of what is delivered, and its list. -/
theorem del_at (h : 1 ≤ n) (f : Bool) (m : Sh) (l out : List Fm) (s : Bool) (q nx : Int) (b : List UInt8) (hq : 0 ≤ q ∧ q ≤ 2199023255552) (hnx : 0 ≤ nx ∧ nx ≤ 2199023255552) (ho : out.length < 2 ^ 20) (hqn : nx < q) :
    call gl tab n 24 [.agg [.bool s, i64 q, .str b], .ptr 100000 [], .ptr 100001 []] [(100000, .fix (.st [.sc, .sc]) (.agg [i64 nx, .lst f m (fm l)])), (100001, .fix .sc (.sl 100002 [] 0 out.length)), (100002, .grow sF (fm out))] =
      some (.bool false, [(100000, .fix (.st [.sc, .sc]) (.agg [i64 nx, .lst f m (fm l)])), (100001, .fix .sc (.sl 100002 [] 0 out.length)), (100002, .grow sF (fm out))], []) := by
  obtain ⟨d, rfl⟩ := Nat.exists_eq_add_of_le' h
  have h1 : (q == nx) = false := by rw [beq_eq_false_iff_ne]; omega
  rw [call_gen (fd := fd24) rfl]
  simp (disch := ((fail_if_success (intro _)); omega)) only [go_sem, simprocAttr, ↓reduceIte, ↓Nat.reduceEqDiff, xx, fd24, m24, h1]
theorem del_gt (h : 1 ≤ n) (f : Bool) (m : Sh) (l out : List Fm) (s : Bool) (q nx : Int) (b : List UInt8) (hq : 0 ≤ q ∧ q ≤ 2199023255552) (hnx : 0 ≤ nx ∧ nx ≤ 2199023255552) (ho : out.length < 2 ^ 20) (hqn : q < nx) :
    call gl tab n 24 [.agg [.bool s, i64 q, .str b], .ptr 100000 [], .ptr 100001 []] [(100000, .fix (.st [.sc, .sc]) (.agg [i64 nx, .lst f m (fm l)])), (100001, .fix .sc (.sl 100002 [] 0 out.length)), (100002, .grow sF (fm out))] =
      some (.bool true, [(100000, .fix (.st [.sc, .sc]) (.agg [i64 nx, .lst f m (fm l)])), (100001, .fix .sc (.sl 100002 [] 0 out.length)), (100002, .grow sF (fm out))], []) := by
  obtain ⟨d, rfl⟩ := Nat.exists_eq_add_of_le' h
  have h1 : (q == nx) = false := by rw [beq_eq_false_iff_ne]; omega
  rw [call_gen (fd := fd24) rfl]
  simp (disch := ((fail_if_success (intro _)); omega)) only [go_sem, simprocAttr, ↓reduceIte, ↓Nat.reduceEqDiff, xx, fd24, m24, h1]
set_option maxHeartbeats 2000000 in
theorem del_eq (h : 1 ≤ n) (f : Bool) (m : Sh) (l out : List Fm) (s : Bool) (nx : Int) (b : List UInt8) (hnx : 0 ≤ nx ∧ nx ≤ 2199023255552) (ho : out.length < 2 ^ 20) :
    call gl tab n 24 [.agg [.bool s, i64 nx, .str b], .ptr 100000 [], .ptr 100001 []] [(100000, .fix (.st [.sc, .sc]) (.agg [i64 nx, .lst f m (fm l)])), (100001, .fix .sc (.sl 100002 [] 0 out.length)), (100002, .grow sF (fm out))] =
      some (.bool true, [(100000, .fix (.st [.sc, .sc]) (.agg [i64 (nx + 1), .lst f m (fm l)])), (100001, .fix .sc (.sl 20000 [] 0 (out.length + 1))), (100002, .dead)], [.grow sF (fm (out ++ [⟨s, nx, b⟩]))]) := by
  obtain ⟨d, rfl⟩ := Nat.exists_eq_add_of_le' h
  have hL : out.length + 1 ≤ LIM := by unfold LIM; omega
  rw [call_gen (fd := fd24) rfl]
  simp (maxSteps := 1000000) (disch := ((fail_if_success (intro _)); omega)) only [go_sem, simprocAttr, ↓reduceIte, ↓Nat.reduceEqDiff, xx, fd24, m24, fm_length, fm_app, beq_self_eq_true, hL]
end Go.Proofs.S33
namespace Go.Proofs.S33
open Go Go.Ev Go.Proofs
set_option linter.unusedSimpArgs false
set_option linter.unusedVariables false
variable {gl : Gl} {n : Nat}
def L34 : MC := match m34 with | .seq _ (.seq (.seq _ (.block _ (.loop _ b))) _) => b | _ => .skip
def bI (f : Bool) (m : Sh) (nx : Int) (l0 : List Fm) : OB := .fix (.st [.sc, .sc]) (.agg [i64 nx, .lst f m (fm l0)])
def bO (k : Nat) (o : List Fm) : OB := .fix .sc (.sl k [] 0 o.length)
def S34 (f : Bool) (m : Sh) (nx : Int) (l0 l o : List Fm) (i : Nat) : St :=
  ⟨[.set 8 (i64 i), .set 7 (i64 l.length), .set 1 (.fn 24 [.ptr 100001 [], .ptr 100002 []]), .set 0 (.sl 100000 [] 0 l.length)], [(100003, .grow sF (fm o)), (100002, bO 100003 o), (100001, bI f m nx l0), (100000, .grow sF (fm l))]⟩
theorem ix_none (h : 2 ≤ n) (f : Bool) (m : Sh) (nx : Int) (l0 l o : List Fm) (hnx : 0 ≤ nx ∧ nx ≤ 2199023255552) (hl : l.length ≤ 1000) (ho : o.length < 1000) (hq : ∀ i, i < l.length → nx < (fat l i).q ∧ (fat l i).q ≤ 2199023255552) :
    call gl tab n 34 [.sl 100000 [] 0 l.length, .fn 24 [.ptr 100001 [], .ptr 100002 []]] [(100000, .grow sF (fm l)), (100001, bI f m nx l0), (100002, bO 100003 o), (100003, .grow sF (fm o))] =
      some (i64 (-1), [(100000, .grow sF (fm l)), (100001, bI f m nx l0), (100002, bO 100003 o), (100003, .grow sF (fm o))], []) := by
  obtain ⟨d, rfl⟩ := Nat.exists_eq_add_of_le' h
  have hs : ∀ i, i < l.length → contK [.slot 0, .slot 1, .slot 7, .slot 8, .mv 100002 [] 8020] (evC gl (call gl tab (d + 1)) L34 (S34 f m nx l0 l o i)) = some (S34 f m nx l0 l o (i + 1)) := fun i hi => by
    have hx := fm_at hi
    have := hq i hi
    have c := @del_at gl (d + 1) (by omega) f m l0 o (fat l i).s (fat l i).q nx (fat l i).b (by omega) hnx (by omega) (by omega)
    simp (disch := ((fail_if_success (intro _)); omega)) only [go_sem, simprocAttr, ↓reduceIte, ↓Nat.reduceEqDiff, xx, L34, m34, S34, bI, bO, fm_length, hx, c]
  simp only [L34, m34] at hs
  rw [call_gen (fd := fd34) rfl]
  simp (disch := ((fail_if_success (intro _)); omega)) only [go_sem, simprocAttr, ↓reduceIte, ↓Nat.reduceEqDiff, xx, fd34, m34, fm_length, bI, bO]
  rw [iter_to (S34 f m nx l0 l o) l.length (by unfold LF; omega)]
  · simp (disch := ((fail_if_success (intro _)); omega)) only [go_sem, simprocAttr, ↓reduceIte, ↓Nat.reduceEqDiff, xx, S34, fm_length, bI, bO]
  · simp (disch := ((fail_if_success (intro _)); omega)) only [go_sem, simprocAttr, ↓reduceIte, ↓Nat.reduceEqDiff, xx, S34, fm_length, bI, bO]
  · exact hs
  · simp (disch := ((fail_if_success (intro _)); omega)) only [go_sem, simprocAttr, ↓reduceIte, ↓Nat.reduceEqDiff, xx, S34, fm_length, bI, bO]
theorem ix_gt (h : 2 ≤ n) (f : Bool) (m : Sh) (nx : Int) (l0 l o : List Fm) (hnx : 0 ≤ nx ∧ nx ≤ 2199023255552) (hl : l.length ≤ 1000) (ho : o.length < 1000) (h0 : 0 < l.length) (hq : 0 ≤ (fat l 0).q ∧ (fat l 0).q < nx) :
    call gl tab n 34 [.sl 100000 [] 0 l.length, .fn 24 [.ptr 100001 [], .ptr 100002 []]] [(100000, .grow sF (fm l)), (100001, bI f m nx l0), (100002, bO 100003 o), (100003, .grow sF (fm o))] =
      some (i64 0, [(100000, .grow sF (fm l)), (100001, bI f m nx l0), (100002, bO 100003 o), (100003, .grow sF (fm o))], []) := by
  obtain ⟨d, rfl⟩ := Nat.exists_eq_add_of_le' h
  have hx := fm_at h0
  have c := @del_gt gl (d + 1) (by omega) f m l0 o (fat l 0).s (fat l 0).q nx (fat l 0).b (by omega) hnx (by omega) (by omega)
  rw [call_gen (fd := fd34) rfl]
  simp (disch := ((fail_if_success (intro _)); omega)) only [go_sem, simprocAttr, ↓reduceIte, ↓Nat.reduceEqDiff, xx, fd34, m34, fm_length, bI, bO]
  rw [iter_to (S34 f m nx l0 l o) 0 (by unfold LF; omega)]
  · simp (disch := ((fail_if_success (intro _)); omega)) only [go_sem, simprocAttr, ↓reduceIte, ↓Nat.reduceEqDiff, xx, S34, fm_length, bI, bO, hx, c]
  · simp (disch := ((fail_if_success (intro _)); omega)) only [go_sem, simprocAttr, ↓reduceIte, ↓Nat.reduceEqDiff, xx, S34, fm_length, bI, bO]
  · exact fun i hi => absurd hi (by omega)
  · simp (disch := ((fail_if_success (intro _)); omega)) only [go_sem, simprocAttr, ↓reduceIte, ↓Nat.reduceEqDiff, xx, S34, fm_length, bI, bO, hx, c]
theorem ix_eq (h : 2 ≤ n) (f : Bool) (m : Sh) (nx : Int) (l0 l o : List Fm) (hnx : 0 ≤ nx ∧ nx ≤ 2199023255552) (hl : l.length ≤ 1000) (ho : o.length < 1000) (h0 : 0 < l.length) (hq : (fat l 0).q = nx) :
    call gl tab n 34 [.sl 100000 [] 0 l.length, .fn 24 [.ptr 100001 [], .ptr 100002 []]] [(100000, .grow sF (fm l)), (100001, bI f m nx l0), (100002, bO 100003 o), (100003, .grow sF (fm o))] =
      some (i64 0, [(100000, .grow sF (fm l)), (100001, bI f m (nx + 1) l0), (100002, .fix .sc (.sl 20000 [] 0 (o.length + 1))), (100003, .dead)], [.grow sF (fm (o ++ [fat l 0]))]) := by
  obtain ⟨d, rfl⟩ := Nat.exists_eq_add_of_le' h
  have hx := fm_at h0
  have c := @del_eq gl (d + 1) (by omega) f m l0 o (fat l 0).s nx (fat l 0).b hnx (by omega)
  rw [hq] at hx
  have he : (⟨(fat l 0).s, nx, (fat l 0).b⟩ : Fm) = fat l 0 := by rw [← hq]
  rw [he] at c
  rw [call_gen (fd := fd34) rfl]
  simp (disch := ((fail_if_success (intro _)); omega)) only [go_sem, simprocAttr, ↓reduceIte, ↓Nat.reduceEqDiff, xx, fd34, m34, fm_length, bI, bO]
  rw [iter_to (S34 f m nx l0 l o) 0 (by unfold LF; omega)]
  · simp (disch := ((fail_if_success (intro _)); omega)) only [go_sem, simprocAttr, ↓reduceIte, ↓Nat.reduceEqDiff, xx, S34, fm_length, bI, bO, hx, c]
  · simp (disch := ((fail_if_success (intro _)); omega)) only [go_sem, simprocAttr, ↓reduceIte, ↓Nat.reduceEqDiff, xx, S34, fm_length, bI, bO]
  · exact fun i hi => absurd hi (by omega)
  · simp (disch := ((fail_if_success (intro _)); omega)) only [go_sem, simprocAttr, ↓reduceIte, ↓Nat.reduceEqDiff, xx, S34, fm_length, bI, bO, hx, c]
end Go.Proofs.S33
namespace Go.Proofs.S33
open Go Go.Ev Go.Proofs
set_option linter.unusedSimpArgs false
set_option linter.unusedVariables false
variable {gl : Gl} {n : Nat}
theorem fm_set (l : List Fm) (i : Nat) (x : Fm) : (fm l).set i (.agg [.bool x.s, i64 x.q, .str x.b]) = fm (l.set i x) := by simp [fm, List.map_set]
theorem fm_len_set (l : List Fm) (i : Nat) (x : Fm) : (l.set i x).length = l.length := List.length_set
def L23 : MC := match m23 with | .seq _ (.seq _ (.seq _ (.seq (.seq _ (.block _ (.loop _ b))) _))) => b | _ => .skip
abbrev k23 : List Kp := [.slot 0, .slot 1, .slot 5, .slot 6, .mv 100002 [] 8020]
def hU (f : Bool) (m : Sh) (nx : Int) (l0 w o : List Fm) : Hp := [(100003, .grow sF (fm o)), (100002, bO 100003 o), (100001, bI f m nx l0), (100000, .grow sF (fm w))]
def hT (f : Bool) (m : Sh) (nx : Int) (l0 w o : List Fm) : Hp := [(100003, .dead), (100002, bO 8020 o), (100001, bI f m nx l0), (100000, .grow sF (fm w)), (8020, .grow sF (fm o))]
def S23 (w : List Fm) (i j : Nat) (h : Hp) : St := ⟨[.set 6 (i64 j), .set 5 (i64 i), .set 1 (.fn 24 [.ptr 100001 [], .ptr 100002 []]), .set 0 (.sl 100000 [] 0 w.length)], h⟩
theorem st1 (h : 1 ≤ n) (f : Bool) (m : Sh) (nx : Int) (l0 w o : List Fm) (i j : Nat) (hnx : 0 ≤ nx ∧ nx ≤ 2199023255552) (hl : w.length ≤ 1000) (ho : o.length < 1000) (hi : i < w.length) (hj : j < w.length) (hq : 0 ≤ (fat w j).q ∧ (fat w j).q < nx) :
    contK k23 (evC gl (call gl tab n) L23 (S23 w i j (hU f m nx l0 w o))) = some (S23 w i (j + 1) (hU f m nx l0 w o)) := by
  have hx := fm_at hj
  have c := @del_gt gl n h f m l0 o (fat w j).s (fat w j).q nx (fat w j).b (by omega) hnx (by omega) (by omega)
  simp (disch := ((fail_if_success (intro _)); omega)) only [go_sem, simprocAttr, ↓reduceIte, ↓Nat.reduceEqDiff, xx, L23, m23, S23, hU, bI, bO, fm_length, hx, c]
theorem st4 (h : 1 ≤ n) (f : Bool) (m : Sh) (nx : Int) (l0 w o : List Fm) (i j : Nat) (hnx : 0 ≤ nx ∧ nx ≤ 2199023255552) (hl : w.length ≤ 1000) (ho : o.length < 1000) (hi : i < w.length) (hj : j < w.length) (hq : nx < (fat w j).q ∧ (fat w j).q ≤ 2199023255552) :
    contK k23 (evC gl (call gl tab n) L23 (S23 w i j (hU f m nx l0 w o))) = some (S23 (w.set i (fat w j)) (i + 1) (j + 1) (hU f m nx l0 (w.set i (fat w j)) o)) := by
  have hx := fm_at hj
  have hy := fm_at hi
  have hs := fm_set w i (fat w j)
  have hs2 := fm_len_set w i (fat w j)
  have c := @del_at gl n h f m l0 o (fat w j).s (fat w j).q nx (fat w j).b (by omega) hnx (by omega) (by omega)
  simp (disch := ((fail_if_success (intro _)); omega)) only [go_sem, simprocAttr, ↓reduceIte, ↓Nat.reduceEqDiff, xx, L23, m23, S23, hU, bI, bO, fm_length, hx, hy, c, hs, hs2]
theorem st5 (h : 1 ≤ n) (f : Bool) (m : Sh) (nx : Int) (l0 w o : List Fm) (i j : Nat) (hnx : 0 ≤ nx ∧ nx ≤ 2199023255552) (hl : w.length ≤ 1000) (ho : o.length < 1000) (hi : i < w.length) (hj : j < w.length) (hq : nx < (fat w j).q ∧ (fat w j).q ≤ 2199023255552) :
    contK k23 (evC gl (call gl tab n) L23 (S23 w i j (hT f m nx l0 w o))) = some (S23 (w.set i (fat w j)) (i + 1) (j + 1) (hT f m nx l0 (w.set i (fat w j)) o)) := by
  have hx := fm_at hj
  have hy := fm_at hi
  have hs := fm_set w i (fat w j)
  have hs2 := fm_len_set w i (fat w j)
  have c := @del_at gl n h f m l0 o (fat w j).s (fat w j).q nx (fat w j).b (by omega) hnx (by omega) (by omega)
  simp (disch := ((fail_if_success (intro _)); omega)) only [go_sem, simprocAttr, ↓reduceIte, ↓Nat.reduceEqDiff, xx, L23, m23, S23, hT, bI, bO, fm_length, hx, hy, c, hs, hs2]
theorem st2 (h : 1 ≤ n) (f : Bool) (m : Sh) (nx : Int) (l0 w o : List Fm) (i j : Nat) (hnx : 0 ≤ nx ∧ nx ≤ 2199023255552) (hl : w.length ≤ 1000) (ho : o.length < 1000) (hi : i < w.length) (hj : j < w.length) (hq : (fat w j).q = nx) :
    contK k23 (evC gl (call gl tab n) L23 (S23 w i j (hU f m nx l0 w o))) = some (S23 w i (j + 1) (hT f m (nx + 1) l0 w (o ++ [fat w j]))) := by
  have hx := fm_at hj
  have c := @del_eq gl n h f m l0 o (fat w j).s nx (fat w j).b hnx (by omega)
  rw [hq] at hx
  have he : (⟨(fat w j).s, nx, (fat w j).b⟩ : Fm) = fat w j := by rw [← hq]
  rw [he] at c
  simp (disch := ((fail_if_success (intro _)); omega)) only [go_sem, simprocAttr, ↓reduceIte, ↓Nat.reduceEqDiff, xx, L23, m23, S23, hU, hT, bI, bO, fm_length, hx, c]
theorem st3 (h : 1 ≤ n) (f : Bool) (m : Sh) (nx : Int) (l0 w o : List Fm) (i j : Nat) (hnx : 0 ≤ nx ∧ nx ≤ 2199023255552) (hl : w.length ≤ 1000) (ho : o.length < 1000) (hi : i < w.length) (hj : j < w.length) (hq : (fat w j).q = nx) :
    contK k23 (evC gl (call gl tab n) L23 (S23 w i j (hT f m nx l0 w o))) = some (S23 w i (j + 1) (hT f m (nx + 1) l0 w (o ++ [fat w j]))) := by
  have hx := fm_at hj
  have c := @del_eq gl n h f m l0 o (fat w j).s nx (fat w j).b hnx (by omega)
  rw [hq] at hx
  have he : (⟨(fat w j).s, nx, (fat w j).b⟩ : Fm) = fat w j := by rw [← hq]
  rw [he] at c
  simp (disch := ((fail_if_success (intro _)); omega)) only [go_sem, simprocAttr, ↓reduceIte, ↓Nat.reduceEqDiff, xx, L23, m23, S23, hT, bI, bO, fm_length, hx, c]
end Go.Proofs.S33
namespace Go.Proofs.S33
open Go Go.Ev Go.Proofs
set_option linter.unusedSimpArgs false
set_option linter.unusedVariables false
variable {gl : Gl} {n : Nat}
/-- Where the frames are that are delivered now: those from d to a; those before are old. -/
structure Rn (l : List Fm) (nx : Int) (d a : Nat) : Prop where
  da : d ≤ a
  al : a ≤ l.length
  lo : ∀ j, j < d → 0 ≤ (fat l j).q ∧ (fat l j).q < nx
  eq : ∀ j, d ≤ j → j < a → (fat l j).q = nx + ((j - d : Nat) : Int)
  hi : ∀ j, a ≤ j → j < l.length → nx + ((a - d : Nat) : Int) < (fat l j).q ∧ (fat l j).q ≤ 2199023255552
def eN (d a j : Nat) : Nat := min j a - d
def wA (l : List Fm) (a j : Nat) : List Fm := (l.drop a).take (j - a) ++ l.drop (j - a)
def oA (l o : List Fm) (d a j : Nat) : List Fm := o ++ (l.drop d).take (eN d a j)
theorem wA_length {l : List Fm} {a j : Nat} (ha : a ≤ l.length) (hj : j ≤ l.length) : (wA l a j).length = l.length := by simp [wA]; omega
theorem wA_at {l : List Fm} {a j : Nat} (ha : a ≤ l.length) (hj : j < l.length) : fat (wA l a j) j = fat l j := by
  have h1 : ((l.drop a).take (j - a)).length = j - a := by simp; omega
  have h2 : (wA l a j)[j]? = l[j]? := by
    rw [wA, List.getElem?_append_right (by omega), h1, List.getElem?_drop]; congr 1; omega
  simp only [fat, List.getD_eq_getElem?_getD, h2]
theorem wA_pre {l : List Fm} {a j : Nat} (h : j ≤ a) : wA l a j = l := by simp [wA, Nat.sub_eq_zero_of_le h]
theorem wA_step {l : List Fm} {a j : Nat} (ha : a ≤ j) (hj : j < l.length) : (wA l a j).set (j - a) (fat l j) = wA l a (j + 1) := by
  have e : fat l j = l[j] := by simp [fat, hj]
  have e1 : j + 1 - a = (j - a) + 1 := by omega
  have h1 : ((l.drop a).take (j - a)).length = j - a := by simp; omega
  have h2 : l.drop (j - a) = l[j - a] :: l.drop (j - a + 1) := (List.drop_eq_getElem_cons (by omega))
  have h3 : (l.drop a).take (j - a + 1) = (l.drop a).take (j - a) ++ [l[j]] := by
    rw [List.take_add_one, List.getElem?_drop, show a + (j - a) = j by omega, List.getElem?_eq_getElem hj]; rfl
  rw [e, wA, List.set_append_right _ _ (by omega), h1, Nat.sub_self, h2, List.set_cons_zero, wA, e1, h3, List.append_assoc]; rfl
theorem oA_pre {l o : List Fm} {d a j : Nat} (h : eN d a j = 0) : oA l o d a j = o := by simp [oA, h]
theorem eN_s {d a j : Nat} (h1 : d ≤ j) (h2 : j < a) : eN d a (j + 1) = eN d a j + 1 := by unfold eN; omega
theorem oA_step {l o : List Fm} {d a j : Nat} (h1 : d ≤ j) (h2 : j < a) (h3 : a ≤ l.length) : oA l o d a (j + 1) = oA l o d a j ++ [fat l j] := by
  have e : fat l j = l[j] := by simp [fat, show j < l.length by omega]
  have e1 : eN d a j = j - d := by unfold eN; omega
  rw [oA, oA, eN_s h1 h2, e1, List.take_add_one, List.getElem?_drop, show d + (j - d) = j by omega, List.getElem?_eq_getElem (show j < l.length by omega), List.append_assoc, e]; rfl
theorem oA_len {l o : List Fm} {d a j : Nat} : (oA l o d a j).length ≤ o.length + l.length := by simp [oA]; omega
def hE (f : Bool) (m : Sh) (nx : Int) (l0 l o : List Fm) (d a j : Nat) : Hp := if eN d a j = 0 then hU f m nx l0 (wA l a j) o else hT f m (nx + (eN d a j : Nat)) l0 (wA l a j) (oA l o d a j)
theorem step23 (h : 1 ≤ n) (f : Bool) (m : Sh) (nx : Int) (l0 l o : List Fm) (d a j : Nat) (hnx : 0 ≤ nx ∧ nx ≤ 1099511627777) (hl : l.length ≤ 400) (ho : o.length ≤ 400) (hr : Rn l nx d a) (ha : 0 < a) (hj : j < l.length) :
    contK k23 (evC gl (call gl tab n) L23 (S23 (wA l a j) (j - a) j (hE f m nx l0 l o d a j))) = some (S23 (wA l a (j + 1)) (j + 1 - a) (j + 1) (hE f m nx l0 l o d a (j + 1))) := by
  have hal := hr.al
  have hda := hr.da
  have hw := wA_length hal (show j ≤ l.length by omega)
  have hat := wA_at hal hj
  have hol := @oA_len l o d a j
  have he : eN d a j ≤ 400 := by unfold eN; omega
  by_cases h1 : j < d
  · have e0 : eN d a j = 0 := by unfold eN; omega
    have e1 : eN d a (j + 1) = 0 := by unfold eN; omega
    have hlo := hr.lo j h1
    rw [hE, hE, if_pos e0, if_pos e1, show j + 1 - a = j - a by omega, wA_pre (show j ≤ a by omega), wA_pre (show j + 1 ≤ a by omega)]
    exact st1 h f m nx l0 l o (j - a) j (by omega) (by omega) (by omega) (by omega) hj (by omega)
  by_cases h2 : j < a
  · have e1 : eN d a (j + 1) ≠ 0 := by unfold eN; omega
    have heq := hr.eq j (by omega) h2
    have e2 : j - d = eN d a j := by unfold eN; omega
    have e3 := eN_s (show d ≤ j by omega) h2
    rw [hE, hE, if_neg e1, oA_step (by omega) h2 hal, show j + 1 - a = j - a by omega, wA_pre (show j ≤ a by omega), wA_pre (show j + 1 ≤ a by omega), e3]
    by_cases h3 : eN d a j = 0
    · rw [if_pos h3, oA_pre h3, h3]
      rw [show ((0 + 1 : Nat) : Int) = 1 from rfl]
      exact st2 h f m nx l0 l o (j - a) j (by omega) (by omega) (by omega) (by omega) hj (by omega)
    · rw [if_neg h3, show nx + ((eN d a j + 1 : Nat) : Int) = nx + (eN d a j : Nat) + 1 by omega]
      exact st3 h f m _ l0 l _ (j - a) j (by omega) (by omega) (by omega) (by omega) hj (by omega)
  · have hhi := hr.hi j (by omega) hj
    have e1 : eN d a (j + 1) = eN d a j := by unfold eN; omega
    have e2 : eN d a j = a - d := by unfold eN; omega
    have hst := wA_step (show a ≤ j by omega) hj
    have eo : oA l o d a (j + 1) = oA l o d a j := by rw [oA, oA, e1]
    rw [hE, hE, e1, eo, show j + 1 - a = j - a + 1 by omega, ← hst, ← hat]
    rw [← hat] at hhi
    by_cases h3 : eN d a j = 0
    · rw [if_pos h3, if_pos h3]
      exact st4 h f m nx l0 _ o (j - a) j (by omega) (by omega) (by omega) (by omega) (by omega) (by omega)
    · rw [if_neg h3, if_neg h3]
      exact st5 h f m _ l0 _ _ (j - a) j (by omega) (by omega) (by omega) (by omega) (by omega) (by omega)
theorem wA_all {l : List Fm} {a : Nat} (ha : a ≤ l.length) (z : AV) :
    List.take (l.length - a) (fm (wA l a l.length)) ++ List.replicate (l.length - (l.length - a)) z ++ List.drop (l.length - a + (l.length - (l.length - a))) (fm (wA l a l.length)) = fm (l.drop a) ++ List.replicate a z := by
  have hw := wA_length ha (Nat.le_refl l.length)
  have h1 : l.length - (l.length - a) = a := by omega
  have h2 : l.length - a + (l.length - (l.length - a)) = (fm (wA l a l.length)).length := by rw [fm_length, hw]; omega
  rw [h2, List.drop_length, List.append_nil, h1, wA]
  have h3 : ((l.drop a).take (l.length - a)) = l.drop a := List.take_of_length_le (by simp)
  have h4 : l.length - a = (fm (l.drop a)).length := by simp [fm_length]
  rw [h3, show ∀ x y, fm (x ++ y) = fm x ++ fm y from fun x y => by simp [fm], h4, List.take_left']
  rfl
def zF : AV := .agg [.bool false, i64 0, .str []]
set_option maxHeartbeats 1000000 in
theorem delf_0 (h : 3 ≤ n) (f : Bool) (m : Sh) (nx : Int) (l0 l o : List Fm) (hnx : 0 ≤ nx ∧ nx ≤ 1099511627777) (hl : l.length ≤ 400) (ho : o.length ≤ 400) (hr : Rn l nx 0 0) :
    call gl tab n 23 [.sl 100000 [] 0 l.length, .fn 24 [.ptr 100001 [], .ptr 100002 []]] [(100000, .grow sF (fm l)), (100001, bI f m nx l0), (100002, bO 100003 o), (100003, .grow sF (fm o))] =
      some (.sl 100000 [] 0 l.length, [(100000, .grow sF (fm l)), (100001, bI f m nx l0), (100002, bO 100003 o), (100003, .grow sF (fm o))], []) := by
  obtain ⟨e, rfl⟩ := Nat.exists_eq_add_of_le' h
  have c := @ix_none gl (e + 2) (by omega) f m nx l0 l o (by omega) (by omega) (by omega) (fun i hi => by have := hr.hi i (by omega) hi; omega)
  simp only [bI, bO] at c
  rw [call_gen (fd := fd23) rfl]
  simp (disch := ((fail_if_success (intro _)); omega)) only [go_sem, simprocAttr, ↓reduceIte, ↓Nat.reduceEqDiff, xx, fd23, m23, fm_length, bI, bO, c]
set_option maxHeartbeats 1000000 in
theorem delf_gt (h : 3 ≤ n) (f : Bool) (m : Sh) (nx : Int) (l0 l o : List Fm) (d a : Nat) (hnx : 0 ≤ nx ∧ nx ≤ 1099511627777) (hl : l.length ≤ 400) (ho : o.length ≤ 400) (hr : Rn l nx d a) (hd : 0 < d) :
    call gl tab n 23 [.sl 100000 [] 0 l.length, .fn 24 [.ptr 100001 [], .ptr 100002 []]] [(100000, .grow sF (fm l)), (100001, bI f m nx l0), (100002, bO 100003 o), (100003, .grow sF (fm o))] =
      (if a - d = 0 then some (.sl 100000 [] 0 (l.length - a), [(100000, .grow sF (fm (l.drop a) ++ List.replicate a zF)), (100001, bI f m nx l0), (100002, bO 100003 o), (100003, .grow sF (fm o))], [])
       else some (.sl 100000 [] 0 (l.length - a), [(100000, .grow sF (fm (l.drop a) ++ List.replicate a zF)), (100001, bI f m (nx + (a - d : Nat)) l0), (100002, .fix .sc (.sl 20000 [] 0 (oA l o d a l.length).length)), (100003, .dead)], [.grow sF (fm (oA l o d a l.length))])) := by
  obtain ⟨e, rfl⟩ := Nat.exists_eq_add_of_le' h
  have hal := hr.al
  have hda := hr.da
  have c := @ix_gt gl (e + 2) (by omega) f m nx l0 l o (by omega) (by omega) (by omega) (by omega) (hr.lo 0 hd)
  simp only [bI, bO] at c
  have hs : ∀ i, i < l.length - 1 → contK k23 (evC gl (call gl tab (e + 2)) L23 (S23 (wA l a (i + 1)) (i + 1 - a) (i + 1) (hE f m nx l0 l o d a (i + 1)))) = some (S23 (wA l a (i + 1 + 1)) (i + 1 + 1 - a) (i + 1 + 1) (hE f m nx l0 l o d a (i + 1 + 1))) := fun i hi =>
    step23 (by omega) f m nx l0 l o d a (i + 1) hnx hl ho hr (by omega) (by omega)
  simp only [L23, m23] at hs
  have e1 : eN d a 1 = 0 := by unfold eN; omega
  have e2 : eN d a l.length = a - d := by unfold eN; omega
  have hw := wA_length hal (Nat.le_refl l.length)
  rw [call_gen (fd := fd23) rfl]
  simp (disch := ((fail_if_success (intro _)); omega)) only [go_sem, simprocAttr, ↓reduceIte, ↓Nat.reduceEqDiff, xx, fd23, m23, fm_length, bI, bO, c]
  rw [iter_to (fun i => S23 (wA l a (i + 1)) (i + 1 - a) (i + 1) (hE f m nx l0 l o d a (i + 1))) (l.length - 1) (by unfold LF; omega)]
  rotate_left
  · simp only [hE, Nat.zero_add, e1, if_pos, wA_pre (show 1 ≤ a by omega), show 1 - a = 0 by omega]
    simp (disch := ((fail_if_success (intro _)); omega)) only [go_sem, simprocAttr, ↓reduceIte, ↓Nat.reduceEqDiff, xx, S23, hU, fm_length, bI, bO]
  · exact hs
  · rw [show l.length - 1 + 1 = l.length by omega, hE, e2]
    by_cases h3 : a - d = 0
    · rw [if_pos h3]
      simp (disch := ((fail_if_success (intro _)); omega)) only [go_sem, simprocAttr, ↓reduceIte, ↓Nat.reduceEqDiff, xx, S23, hU, fm_length, bI, bO, hw]
    · rw [if_neg h3]
      simp (disch := ((fail_if_success (intro _)); omega)) only [go_sem, simprocAttr, ↓reduceIte, ↓Nat.reduceEqDiff, xx, S23, hT, fm_length, bI, bO, hw]
  · have hc := wA_all hal (.agg [.bool false, .int .i64 0, .str []])
    rw [show l.length - 1 + 1 = l.length by omega, hE, e2]
    by_cases h3 : a - d = 0
    · rw [if_pos h3, if_pos h3]
      simp (disch := ((fail_if_success (intro _)); omega)) only [go_sem, simprocAttr, ↓reduceIte, ↓Nat.reduceEqDiff, xx, S23, hU, fm_length, bI, bO, hw, hc, Nat.sub_zero, zF]
    · rw [if_neg h3, if_neg h3]
      simp (disch := ((fail_if_success (intro _)); omega)) only [go_sem, simprocAttr, ↓reduceIte, ↓Nat.reduceEqDiff, xx, S23, hT, fm_length, bI, bO, hw, hc, Nat.sub_zero, zF]
set_option maxHeartbeats 1000000 in
theorem delf_eq (h : 3 ≤ n) (f : Bool) (m : Sh) (nx : Int) (l0 l o : List Fm) (a : Nat) (hnx : 0 ≤ nx ∧ nx ≤ 1099511627777) (hl : l.length ≤ 400) (ho : o.length ≤ 400) (hr : Rn l nx 0 a) (ha : 0 < a) :
    call gl tab n 23 [.sl 100000 [] 0 l.length, .fn 24 [.ptr 100001 [], .ptr 100002 []]] [(100000, .grow sF (fm l)), (100001, bI f m nx l0), (100002, bO 100003 o), (100003, .grow sF (fm o))] =
      some (.sl 100000 [] 0 (l.length - a), [(100000, .grow sF (fm (l.drop a) ++ List.replicate a zF)), (100001, bI f m (nx + (a : Nat)) l0), (100002, .fix .sc (.sl 20000 [] 0 (oA l o 0 a l.length).length)), (100003, .dead)], [.grow sF (fm (oA l o 0 a l.length))]) := by
  obtain ⟨e, rfl⟩ := Nat.exists_eq_add_of_le' h
  have hal := hr.al
  have hq := hr.eq 0 (Nat.le_refl 0) ha
  have c := @ix_eq gl (e + 2) (by omega) f m nx l0 l o (by omega) (by omega) (by omega) (by omega) (by simpa using hq)
  simp only [bI, bO] at c
  have hs : ∀ i, i < l.length - 1 → contK k23 (evC gl (call gl tab (e + 2)) L23 (S23 (wA l a (i + 1)) (i + 1 - a) (i + 1) (hE f m nx l0 l o 0 a (i + 1)))) = some (S23 (wA l a (i + 1 + 1)) (i + 1 + 1 - a) (i + 1 + 1) (hE f m nx l0 l o 0 a (i + 1 + 1))) := fun i hi =>
    step23 (by omega) f m nx l0 l o 0 a (i + 1) hnx hl ho hr (by omega) (by omega)
  simp only [L23, m23] at hs
  have e1 : eN 0 a 1 = 1 := by unfold eN; omega
  have e2 : eN 0 a l.length = a := by unfold eN; omega
  have e3 : oA l o 0 a 1 = o ++ [fat l 0] := by rw [oA_step (Nat.le_refl 0) ha hal, oA_pre (by unfold eN; omega)]
  have hw := wA_length hal (Nat.le_refl l.length)
  rw [call_gen (fd := fd23) rfl]
  simp (disch := ((fail_if_success (intro _)); omega)) only [go_sem, simprocAttr, ↓reduceIte, ↓Nat.reduceEqDiff, xx, fd23, m23, fm_length, bI, bO, c]
  rw [iter_to (fun i => S23 (wA l a (i + 1)) (i + 1 - a) (i + 1) (hE f m nx l0 l o 0 a (i + 1))) (l.length - 1) (by unfold LF; omega)]
  rotate_left
  · simp only [hE, Nat.zero_add, e1, e3, wA_pre (show 1 ≤ a by omega), show 1 - a = 0 by omega, show (1 : Nat) = 0 ↔ False by decide, if_false]
    simp (disch := ((fail_if_success (intro _)); omega)) only [go_sem, simprocAttr, ↓reduceIte, ↓Nat.reduceEqDiff, xx, S23, hT, fm_length, bI, bO]
  · exact hs
  · rw [show l.length - 1 + 1 = l.length by omega, hE, e2, if_neg (by omega)]
    simp (disch := ((fail_if_success (intro _)); omega)) only [go_sem, simprocAttr, ↓reduceIte, ↓Nat.reduceEqDiff, xx, S23, hT, fm_length, bI, bO, hw]
  · have hc := wA_all hal (.agg [.bool false, .int .i64 0, .str []])
    rw [show l.length - 1 + 1 = l.length by omega, hE, e2, if_neg (by omega)]
    simp (disch := ((fail_if_success (intro _)); omega)) only [go_sem, simprocAttr, ↓reduceIte, ↓Nat.reduceEqDiff, xx, S23, hT, fm_length, bI, bO, hw, hc, Nat.sub_zero, zF]
end Go.Proofs.S33
