/-
  Chapter 16: shares are as specified. No condition.
-/
import Derived.Test.YtjkgmpckddolfaaW16d
import Derived.Test.YtjkgmpckddolfaaW16e
import Derived.Test.YtjkgmpckddolfaaW16k
set_option linter.unusedVariables false
set_option linter.unusedSimpArgs false
set_option linter.unusedSectionVars false
namespace Go.Proofs.S16
open Go Go.Ev Go.Proofs
set_option linter.unusedSimpArgs false
set_option linter.unusedVariables false
variable {gl : Gl} {n : Nat}
theorem b_eq {b b' : Bool} {p : Prop} (h : b = true ↔ p) (h' : b' = true ↔ p) : b = b' := by
  cases b <;> cases b' <;> simp_all
set_option maxHeartbeats 1000000 in
theorem law3 (hn : 20 ≤ n) (c9 : call gl tab n 9 [] [] = some (.bool true, [], [])) (ar : List AV) (h : HasKds [.int .i64, .sl kS, .sl (.int .i64)] ar) : call gl tab (n + 1) 3 ar [] = some (.bool true, [], []) := by
  simp only [HasKds] at h
  obtain ⟨_, _, rfl, ⟨c, rfl, _⟩, _, _, rfl, ⟨d1, rfl, hd1, h1⟩, _, _, rfl, ⟨d2, rfl, hd2, h2⟩, rfl⟩ := h
  obtain ⟨l, rfl⟩ := kd_sh h1
  obtain ⟨g, rfl⟩ := kd_ns h2
  rw [kS_sh, kI_sh]
  rw [ns_length] at hd2
  by_cases hl : l.length ≤ 60
  case neg =>
    rw [call_go (fd := fd3) rfl]
    simp (disch := ((fail_if_success (intro _)); omega)) only [go_sem, simprocAttr, ↓reduceIte, xx, fd3, m3, sh_length, c9]
  obtain ⟨b1, hb1, c10⟩ := @valid_at gl n (by omega) false sS l (.inr rfl) (by omega)
  obtain ⟨b2, hb2, c11⟩ := @rvalid_at gl n (by omega) false sS l (.inr rfl) (by omega)
  obtain rfl := b_eq hb1 hb2
  have c12 := @capacity_at gl n (by omega) c
  cases b1 with
  | false =>
    rw [call_go (fd := fd3) rfl]
    simp (disch := ((fail_if_success (intro _)); omega)) only [go_sem, simprocAttr, ↓reduceIte, xx, fd3, m3, sh_length, c9, c10, c11]
  | true =>
    have hv := hb1.1 rfl
    cases hc : (decide (0 ≤ c) && decide (c ≤ 1099511627776)) with
    | false =>
      rw [hc] at c12
      rw [call_go (fd := fd3) rfl]
      simp (disch := ((fail_if_success (intro _)); omega)) only [go_sem, simprocAttr, ↓reduceIte, xx, fd3, m3, sh_length, c9, c10, c11, c12]
    | true =>
      rw [hc] at c12
      simp only [Bool.and_eq_true, decide_eq_true_eq] at hc
      obtain ⟨m, hm⟩ := lv_exists hv hc
      have c13 := @level_at gl n (by omega) false sS l (.inr rfl) hv c hc m hm
      have c14 := @rlevel_at gl n (by omega) false sS l (.inr rfl) hv c hc m hm
      have c16 := @fair_at gl n (by omega) false sS l (.inr rfl) hv c hc m hm
      have c17 := @rfair_at gl n (by omega) false sS l (.inr rfl) hv c hc m hm
      have hgl := gets_length l m c l.length
      have c15 := @same_at gl n (by omega) false false .sc .sc (gets l m c l.length) (.inr rfl) (.inr rfl) (by omega)
      obtain ⟨b3, hb3, c18⟩ := @explains_at gl n (by omega) l g false false sS .sc c (.inr rfl) (.inr rfl) hv
      obtain ⟨b4, hb4, c19⟩ := @rexplains_at gl n (by omega) l g false false sS .sc c (.inr rfl) (.inr rfl) hv
      obtain rfl := b_eq hb3 hb4
      have htk := ns_take' (gets l m c l.length)
      rw [hgl] at htk
      rw [call_go (fd := fd3) rfl]
      simp (disch := ((fail_if_success (intro _)); omega)) only [go_sem, simprocAttr, ↓reduceIte, xx, fd3, m3, sh_length, c9, c10, c11, c12, c13, c14, c16, c17, c15, c18, c19, ns_length, hgl, htk]
end Go.Proofs.S16
