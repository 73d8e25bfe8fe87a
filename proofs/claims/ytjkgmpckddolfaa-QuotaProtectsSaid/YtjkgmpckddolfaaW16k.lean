/-
  Chapter 16: what a law is given; capacities. No condition.
-/
import Derived.Test.YtjkgmpckddolfaaW16a
set_option linter.unusedVariables false
set_option linter.unusedSimpArgs false
set_option linter.unusedSectionVars false
namespace Go.Proofs.S16
open Go Go.Ev Go.Proofs
set_option linter.unusedSimpArgs false
set_option linter.unusedVariables false
variable {gl : Gl} {n : Nat}
abbrev kS : Kd := .st [.int .i64, .int .i64]
abbrev kA : Kd := .st [.int .i64, .int .i64, .int .i64]
theorem kd_sh : ∀ {l : List AV}, (∀ x ∈ l, HasKd kS x) → ∃ r : List S2, l = sh r
  | [], _ => ⟨[], rfl⟩
  | x :: l, h => by
    obtain ⟨k, rfl, hx⟩ := h x (by simp)
    simp only [HasKds] at hx
    obtain ⟨_, _, rfl, ⟨a, rfl, _⟩, _, _, rfl, ⟨b, rfl, _⟩, rfl⟩ := hx
    obtain ⟨r, rfl⟩ := kd_sh (l := l) fun y hy => h y (by simp [hy])
    exact ⟨⟨a, b⟩ :: r, rfl⟩
theorem kd_ac : ∀ {l : List AV}, (∀ x ∈ l, HasKd kA x) → ∃ r : List A3, l = ac r
  | [], _ => ⟨[], rfl⟩
  | x :: l, h => by
    obtain ⟨k, rfl, hx⟩ := h x (by simp)
    simp only [HasKds] at hx
    obtain ⟨_, _, rfl, ⟨a, rfl, _⟩, _, _, rfl, ⟨b, rfl, _⟩, _, _, rfl, ⟨c, rfl, _⟩, rfl⟩ := hx
    obtain ⟨r, rfl⟩ := kd_ac (l := l) fun y hy => h y (by simp [hy])
    exact ⟨⟨a, b, c⟩ :: r, rfl⟩
theorem kd_ns : ∀ {l : List AV}, (∀ x ∈ l, HasKd (.int .i64) x) → ∃ r : List Int, l = ns r
  | [], _ => ⟨[], rfl⟩
  | x :: l, h => by
    obtain ⟨a, rfl, _⟩ := h x (by simp)
    obtain ⟨r, rfl⟩ := kd_ns (l := l) fun y hy => h y (by simp [hy])
    exact ⟨a :: r, rfl⟩
theorem kS_sh : kS.sh = sS := rfl
theorem kA_sh : kA.sh = sA := rfl
theorem kI_sh : (Kd.int .i64).sh = .sc := rfl
theorem capacity_at (h : 1 ≤ n) (c : Int) : call gl tab n 12 [i64 c] [] = some (.bool (decide (0 ≤ c) && decide (c ≤ 1099511627776)), [], []) := by
  obtain ⟨d, rfl⟩ := Nat.exists_eq_add_of_le' h
  rw [call_go (fd := fd12) rfl]
  simp (disch := ((fail_if_success (intro _)); omega)) only [go_sem, simprocAttr, ↓reduceIte, xx, fd12, m12]
end Go.Proofs.S16
