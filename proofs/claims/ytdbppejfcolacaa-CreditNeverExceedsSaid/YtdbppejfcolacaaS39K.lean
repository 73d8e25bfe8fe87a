/-
  Chapter 39: the examples. No condition.
-/
import Derived.Test.YtdbppejfcolacaaS39
import Derived.KernelRfl
import Derived.Test.YtdbppejfcolacaaS39cb
set_option linter.unusedVariables false
set_option linter.unusedSimpArgs false
set_option linter.unusedSectionVars false
namespace Go.Proofs.S39
open Go Go.Ev Go.Proofs
theorem sanity20 : call (fun _ => none) tab 20 8 [] [] = some (.bool true, [], []) := by kernel_rfl
end Go.Proofs.S39
namespace Go.Proofs.S39
open Go Go.Ev Go.Proofs
set_option linter.unusedSimpArgs false
set_option linter.unusedVariables false
variable {gl : Gl} {n : Nat}
/-! ### What a law is given -/
theorem kd_int {k : IntKind} {a : AV} (h : HasKd (.int k) a) : ∃ n, a = .int k n ∧ k.min ≤ n ∧ n ≤ k.max := h
abbrev kR : Kd := .st [.int .i64, .int .i64, .int .i64, .int .i64]
theorem kd_row {a : AV} (h : HasKd kR a) : ∃ x : Q4, a = x.av := by
  obtain ⟨l, rfl, h⟩ := h
  simp only [HasKds] at h
  obtain ⟨_, _, rfl, ⟨w, rfl, _⟩, _, _, rfl, ⟨g, rfl, _⟩, _, _, rfl, ⟨d, rfl, _⟩, _, _, rfl, ⟨b, rfl, _⟩, rfl⟩ := h
  exact ⟨⟨w, g, d, b⟩, rfl⟩
theorem kd_rows : ∀ {l : List AV}, (∀ x ∈ l, HasKd kR x) → ∃ r : List Q4, l = rows r
  | [], _ => ⟨[], rfl⟩
  | x :: l, h => by
    obtain ⟨x, rfl⟩ := kd_row (h x (by simp))
    obtain ⟨r, rfl⟩ := kd_rows (l := l) fun y hy => h y (by simp [hy])
    exact ⟨x :: r, rfl⟩
abbrev kB : Kd := .st [.int .i64, .int .i64, .sl kR]
theorem kd_bank {a : AV} (h : HasKd kB a) : ∃ c len l, a = bank c len false sR l := by
  obtain ⟨l, rfl, h⟩ := h
  simp only [HasKds] at h
  obtain ⟨_, _, rfl, ⟨w, rfl, _⟩, _, _, rfl, ⟨g, rfl, _⟩, _, _, rfl, ⟨d, rfl, _, h⟩, rfl⟩ := h
  obtain ⟨r, rfl⟩ := kd_rows h
  exact ⟨w, g, r, rfl⟩
abbrev kU : Kd := .st [.int .i64, .sl kR]
theorem kd_purse {a : AV} (h : HasKd kU a) : ∃ len l, a = purse len false sR l := by
  obtain ⟨l, rfl, h⟩ := h
  simp only [HasKds] at h
  obtain ⟨_, _, rfl, ⟨g, rfl, _⟩, _, _, rfl, ⟨d, rfl, _, h⟩, rfl⟩ := h
  obtain ⟨r, rfl⟩ := kd_rows h
  exact ⟨g, r, rfl⟩
/-- As the rule that it is named after, but with a proof that the kernel need not look for. -/
theorem guardK_tt' {gl : Gl} {cl : Cl} {d : Option Nat} {m : MOp} {l : List FO} {st : St} : guardK gl cl d m true l st (.bool true) = flat0K gl cl d l st (stepOp gl cl st d m) := by rw [guardK, if_pos rfl]
end Go.Proofs.S39
