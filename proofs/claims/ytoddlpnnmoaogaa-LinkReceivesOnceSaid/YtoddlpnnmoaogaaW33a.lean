/-
  Chapter 33: frames; inboxes. No condition.
-/
import Derived.Test.YtoddlpnnmoaogaaW33
import Derived.Test.YtoddlpnnmoaogaaEvY
set_option linter.unusedVariables false
set_option linter.unusedSimpArgs false
set_option linter.unusedSectionVars false
namespace Go.Proofs.S33
open Go Go.Ev Go.Proofs
set_option linter.unusedSimpArgs false
set_option linter.unusedVariables false
variable {gl : Gl} {n : Nat}
abbrev i64 (n : Int) : AV := .int .i64 n
structure Fm where
  s : Bool
  q : Int
  b : List UInt8
def Fm.av (f : Fm) : AV := .agg [.bool f.s, i64 f.q, .str f.b]
def fm (l : List Fm) : List AV := l.map fun f => .agg [.bool f.s, i64 f.q, .str f.b]
def fat (l : List Fm) (i : Nat) : Fm := l.getD i ⟨false, 0, []⟩
abbrev sF : Sh := .st [.sc, .sc, .sc]
theorem fm_length (l : List Fm) : (fm l).length = l.length := by simp [fm]
theorem fm_at {l : List Fm} {i : Nat} (h : i < l.length) : (fm l)[i]? = some (.agg [.bool (fat l i).s, i64 (fat l i).q, .str (fat l i).b]) := by simp [fm, fat, h]
theorem fm_nil : fm [] = [] := rfl
theorem fm_app (l : List Fm) (s : Fm) : fm (l ++ [s]) = fm l ++ [.agg [.bool s.s, i64 s.q, .str s.b]] := by simp [fm]
theorem fm_take (l : List Fm) (v : AV) : (fm l ++ [v]).take (l.length + 1) = fm l ++ [v] := by rw [← fm_length]; exact List.take_of_length_le (by simp)
theorem fm_take' (l : List Fm) : (fm l).take l.length = fm l := by rw [← fm_length]; exact List.take_length
def Mk (l : List Fm) (m : Sh) : Prop := l = [] ∨ m = sF
theorem Mk.eq {l : List Fm} {m : Sh} (h : Mk l m) {i : Nat} (hi : i < l.length) : m = sF := h.resolve_left (by rintro rfl; simp at hi)
theorem within_at (h : 1 ≤ n) (x m : Int) : call gl tab n 16 [i64 x, i64 m] [] = some (.bool (decide (0 ≤ x) && decide (x ≤ m)), [], []) := by
  obtain ⟨d, rfl⟩ := Nat.exists_eq_add_of_le' h
  rw [call_go (fd := fd16) rfl]
  simp (disch := ((fail_if_success (intro _)); omega)) only [go_sem, simprocAttr, ↓reduceIte, xx, fd16, m16]
theorem isBody_at (h : 1 ≤ n) (b : List UInt8) (hb : b.length ≤ 9223372036854775807) : call gl tab n 15 [.str b] [] = some (.bool (decide (b.length ≤ 65536)), [], []) := by
  obtain ⟨d, rfl⟩ := Nat.exists_eq_add_of_le' h
  rw [call_go (fd := fd15) rfl]
  simp (disch := ((fail_if_success (intro _)); omega)) only [go_sem, simprocAttr, ↓reduceIte, xx, fd15, m15]
end Go.Proofs.S33
