/-
  Chapter 8: sketches are merged as specified. No condition.
-/
import Derived.Test.YtjpfinklpodhnaaDoorW08WW
set_option linter.unusedVariables false
set_option linter.unusedSimpArgs false
set_option linter.unusedSectionVars false
namespace Go.Proofs.S08
open Go Go.Ev Go.Proofs
set_option linter.unusedSimpArgs false
set_option linter.unusedVariables false
variable {gl : Gl} {n : Nat} [Nonempty (H.GlK gl)]
set_option maxHeartbeats 4000000 in
theorem law6 (hn : 20 ≤ n) (ar : List AV) (h : HasKds [kSk, kSk] ar) : call gl tab (n + 1) 6 ar [] = some (.bool true, [], []) := by
  simp only [HasKds] at h
  obtain ⟨_, _, rfl, ⟨_, rfl, _, _, rfl, ⟨w, rfl, _⟩, _, _, rfl, ⟨s, rfl, _⟩, _, _, rfl, ⟨a, rfl, _⟩, _, _, rfl, ⟨d1, rfl, hd1, h1⟩, rfl⟩, _, _, rfl, ⟨_, rfl, _, _, rfl, ⟨w', rfl, _⟩, _, _, rfl, ⟨s', rfl, _⟩, _, _, rfl, ⟨b, rfl, _⟩, _, _, rfl, ⟨d2, rfl, hd2, h2⟩, rfl⟩, rfl⟩ := h
  obtain ⟨l, rfl⟩ := kd_ns h1
  obtain ⟨r, rfl⟩ := kd_ns h2
  rw [kI_sh]
  rw [ns_length] at hd1 hd2
  have hd3 : l.length ≤ 9223372036854775807 := by simp [Go.maxLen] at hd1; omega
  have hd4 : r.length ≤ 9223372036854775807 := by simp [Go.maxLen] at hd2; omega
  clear hd1 hd2
  have c11 := @sanity_at gl n _ (by omega)
  by_cases hl : l.length ≤ 300
  case neg =>
    rw [call_go (fd := fd6) rfl]
    simp (disch := ((fail_if_success (intro _)); omega)) only [go_sem, simprocAttr, ↓reduceIte, ↓Nat.reduceEqDiff, xx, fd6, m6, c11, ns_length]
  by_cases hr : r.length ≤ 300
  case neg =>
    rw [call_go (fd := fd6) rfl]
    simp (disch := ((fail_if_success (intro _)); omega)) only [go_sem, simprocAttr, ↓reduceIte, ↓Nat.reduceEqDiff, xx, fd6, m6, c11, ns_length]
  obtain ⟨b1, hb1, c10⟩ := @rvalid_at gl n (by omega) false w s a l (by omega)
  cases b1 with
  | false =>
    rw [call_go (fd := fd6) rfl]
    simp (disch := ((fail_if_success (intro _)); omega)) only [go_sem, simprocAttr, ↓reduceIte, ↓Nat.reduceEqDiff, xx, fd6, m6, c11, ns_length, c10]
  | true =>
  obtain ⟨b2, hb2, c10'⟩ := @rvalid_at gl n (by omega) false w' s' b r (by omega)
  cases b2 with
  | false =>
    rw [call_go (fd := fd6) rfl]
    simp (disch := ((fail_if_success (intro _)); omega)) only [go_sem, simprocAttr, ↓reduceIte, ↓Nat.reduceEqDiff, xx, fd6, m6, c11, ns_length, c10, c10']
  | true =>
  have hv := hb1.1 rfl
  have hv' := hb2.1 rfl
  have hva := hv.va
  have hvs := hv.vs
  have hvb := hv'.va
  have hvs' := hv'.vs
  have hvn := hv.vn
  have hvn' := hv'.vn
  have hp1 := isP_pos hv.vp
  have hcl : Cs l := fun i hi => ⟨(hv.vc i hi).1, (hv.vc i hi).2.1⟩
  have hcr : Cs r := fun i hi => ⟨(hv'.vc i hi).1, (hv'.vc i hi).2.1⟩
  have c21 := @halve_at gl n (by omega) false w s a l (by omega) (by omega) hcl
  have c22 := @rhalve_at gl n (by omega) false w s a l (by omega) (by omega) (by omega) hcl
  have c13h := @same_at gl n (by omega) false false w s (a / 2) (hlf l l.length) (by rw [hlf_length]; omega)
  have hhl := hlf_length l l.length
  have htk := ns_take' (hlf l l.length)
  have him := ns_noImms (hlf l l.length)
  rw [hhl] at htk
  simp only [S08.hv] at c21 c22
  have hl0 : 0 < l.length := by omega
  generalize hlf l l.length = H2 at *
  by_cases he : w = w' ∧ s = s'
  · obtain ⟨rfl, rfl⟩ := he
    have hrl : r.length = l.length := by omega
    have m1 := @merge_at gl n (by omega) false false w s a b l r (by omega) (by omega) (by omega) hrl hcl hcr
    have m2 := @merge_at gl n (by omega) false false w s b a r l (by omega) (by omega) (by omega) hrl.symm hcr hcl
    have m3 := @rmerge_at gl n (by omega) false false w s a b l r (by omega) (by omega) hl0 (by omega) hrl hcl hcr
    rw [mgL_comm hrl, hrl, Int.add_comm b a] at m2
    have hml : (if s ≤ a + b then hlf (mgL l r) l.length else mgL l r).length = l.length := by
      split
      · exact hlf_length _ _
      · exact mgL_length _ _
    have c13 := @same_at gl n (by omega) false false w s (if s ≤ a + b then (a + b) / 2 else a + b) (if s ≤ a + b then hlf (mgL l r) l.length else mgL l r) (by rw [hml]; omega)
    generalize (if s ≤ a + b then hlf (mgL l r) l.length else mgL l r) = M at *
    generalize (if s ≤ a + b then (a + b) / 2 else a + b) = X at *
    rw [call_go (fd := fd6) rfl]
    simp (disch := ((fail_if_success (intro _)); omega)) only [go_sem, simprocAttr, ↓reduceIte, ↓Nat.reduceEqDiff, xx, fd6, m6, c11, ns_length, c10, c10', m1, m2, m3, c13, c21, c22, c13h, hhl, htk, him, beq_self_eq_true]
  · have hd : w ≠ w' ∨ s ≠ s' := by
      by_cases h : w = w'
      · exact .inr fun h' => he ⟨h, h'⟩
      · exact .inl h
    have hd' : w' ≠ w ∨ s' ≠ s := by rcases hd with h | h; exact .inl (Ne.symm h); exact .inr (Ne.symm h)
    have m1 := @merge_no gl n (by omega) false false w s a w' s' b l r hd
    have m2 := @merge_no gl n (by omega) false false w' s' b w s a r l hd'
    have m3 := @rmerge_no gl n (by omega) false false w s a w' s' b l r hd
    have c13 := @same_at gl n (by omega) true true 0 0 0 [] (by simp)
    rw [ns_nil] at c13
    rw [call_go (fd := fd6) rfl]
    simp (disch := ((fail_if_success (intro _)); omega)) only [go_sem, simprocAttr, ↓reduceIte, ↓Nat.reduceEqDiff, xx, fd6, m6, c11, ns_length, c10, c10', m1, m2, m3, c13, c21, c22, c13h, hhl, htk, him, beq_self_eq_true]
end Go.Proofs.S08
