/-
  Chapter 16: the victim is the specified one. No condition.
-/
import Derived.Test.YtjkgmpckddolfaaW16v
import Derived.Test.YtjkgmpckddolfaaW16k
set_option linter.unusedVariables false
set_option linter.unusedSimpArgs false
set_option linter.unusedSectionVars false
namespace Go.Proofs.S16
open Go Go.Ev Go.Proofs
set_option linter.unusedSimpArgs false
set_option linter.unusedVariables false
variable {gl : Gl} {n : Nat}
theorem kd_acT7 {r : List A3} (h : ∀ x ∈ ac r, HasKd kA x) : ∀ i, i < r.length → (aat r i).t ≤ 9223372036854775807 := fun i hi => by
  obtain ⟨k, e, hx⟩ := h _ (List.mem_of_getElem? (ac_at hi))
  simp only [AV.agg.injEq] at e
  subst e
  simp only [HasKds, List.cons.injEq] at hx
  obtain ⟨_, _, ⟨rfl, rfl⟩, ⟨a, e, h1, h2⟩, _⟩ := hx
  simp only [AV.int.injEq, true_and] at e
  rw [e]; exact h2
theorem victims (h : 12 ≤ n) {l : List A3} (hv : VA l) (ht : ∀ i, i < l.length → (aat l i).t ≤ 9223372036854775807) {c q : Int} (hc : 0 ≤ c ∧ c ≤ 1099511627776) (hq : -9223372036854775808 ≤ q ∧ q ≤ 9223372036854775807) (v : Int) :
    ∃ a e, call gl tab n 29 [i64 c, .lst false sA (ac l), i64 q, i64 v] [] = some (.tup [i64 a, i64 e], [], []) ∧ call gl tab n 30 [i64 c, .lst false sA (ac l), i64 q, i64 v] [] = some (.agg [i64 a, i64 e], [], []) := by
  obtain ⟨k, b, hk, hp, hb1, hb0, c40, c43⟩ := @places gl (n - 1) (by omega) l hv ht q hq
  by_cases he : b = true → 0 ≤ v ∧ v ≤ 1099511627776 → sumU l l.length + v ≤ c
  · exact ⟨_, _, victim_no h hv he c40, rvictim_no h hv he c43⟩
  · simp only [Classical.not_imp] at he
    obtain ⟨rfl, hvv, hs⟩ := he
    obtain ⟨hkl, hkt⟩ := hb1 rfl
    obtain ⟨m, hm⟩ := lv_exists (wnt_valid hv (k := k) hvv) hc
    have r1 := @victim_all gl n h l hv q c v k hc hvv hkl m hm (by omega) c40
    have r2 := @rvictim_all gl n h l hv q c v k hc hvv hkl hkt m hm (by omega) (by simpa using c43)
    by_cases hg : nat (gets (wnt l k v) m c l.length) k < (aat l k).u + v
    · rw [if_pos hg] at r1 r2; exact ⟨_, _, r1, r2⟩
    · rw [if_neg hg] at r1 r2; exact ⟨_, _, r1, r2⟩
set_option maxHeartbeats 1000000 in
theorem law7 (hn : 20 ≤ n) (c9 : call gl tab n 9 [] [] = some (.bool true, [], [])) (ar : List AV) (h : HasKds [.int .i64, .sl kA, .int .i64, .int .i64] ar) : call gl tab (n + 1) 7 ar [] = some (.bool true, [], []) := by
  simp only [HasKds] at h
  obtain ⟨_, _, rfl, ⟨c, rfl, _⟩, _, _, rfl, ⟨d1, rfl, hd1, h1⟩, _, _, rfl, ⟨q, rfl, hq⟩, _, _, rfl, ⟨v, rfl, _⟩, rfl⟩ := h
  obtain ⟨l, rfl⟩ := kd_ac h1
  have ht := kd_acT7 h1
  rw [kA_sh]
  by_cases hl : l.length ≤ 60
  case neg =>
    rw [call_go (fd := fd7) rfl]
    simp (disch := ((fail_if_success (intro _)); omega)) only [go_sem, simprocAttr, ↓reduceIte, xx, fd7, m7, ac_length, c9]
  obtain ⟨b2, hb2, c21⟩ := @raccounts_at gl n (by omega) false sA l (.inr rfl) (by omega)
  have c12 := @capacity_at gl n (by omega) c
  cases b2 with
  | false =>
    rw [call_go (fd := fd7) rfl]
    simp (disch := ((fail_if_success (intro _)); omega)) only [go_sem, simprocAttr, ↓reduceIte, xx, fd7, m7, ac_length, c9, c21]
  | true =>
    have hv := hb2.1 rfl
    cases hc : (decide (0 ≤ c) && decide (c ≤ 1099511627776)) with
    | false =>
      rw [hc] at c12
      rw [call_go (fd := fd7) rfl]
      simp (disch := ((fail_if_success (intro _)); omega)) only [go_sem, simprocAttr, ↓reduceIte, xx, fd7, m7, ac_length, c9, c21, c12]
    | true =>
      rw [hc] at c12
      simp only [Bool.and_eq_true, decide_eq_true_eq] at hc
      obtain ⟨a, e, c29, c30⟩ := @victims gl n (by omega) l hv ht c q hc hq v
      rw [call_go (fd := fd7) rfl]
      simp (disch := ((fail_if_success (intro _)); omega)) only [go_sem, simprocAttr, ↓reduceIte, xx, fd7, m7, ac_length, c9, c21, c12, c29, c30]
end Go.Proofs.S16
