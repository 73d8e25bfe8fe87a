/-
  Chapter 8: adding changes a count by at most one. No condition.
-/
import Derived.Test.YtjpfinklpodhnaaDoorW08TT
import Derived.Test.YtjpfinklpodhnaaDoorW08v
set_option linter.unusedVariables false
set_option linter.unusedSimpArgs false
set_option linter.unusedSectionVars false
namespace Go.Proofs.S08
open Go Go.Ev Go.Proofs
set_option linter.unusedSimpArgs false
set_option linter.unusedVariables false
variable {gl : Gl} {n : Nat} [Nonempty (H.GlK gl)]
theorem quoI {x : Int} (h : 0 ≤ x ∧ x ≤ 1099511627776) : binInt .quo .i64 x 2 = some (.int .i64 (x / 2)) := by
  show (if (2 : Int) = 0 then none else some (AV.int .i64 (IntKind.wrap .i64 (x.tdiv 2)))) = _
  rw [if_neg (by decide), quo2 h.1, wrap_i64 (by omega) (by omega)]
set_option maxHeartbeats 4000000 in
theorem law5 (hn : 20 ≤ n) (ar : List AV) (h : HasKds [kSk, .str, .str] ar) : call gl tab (n + 1) 5 ar [] = some (.bool true, [], []) := by
  simp only [HasKds] at h
  obtain ⟨_, _, rfl, ⟨_, rfl, _, _, rfl, ⟨w, rfl, _⟩, _, _, rfl, ⟨s, rfl, _⟩, _, _, rfl, ⟨a, rfl, _⟩, _, _, rfl, ⟨d1, rfl, hd1, h1⟩, rfl⟩, _, _, rfl, ⟨one, rfl, ho1⟩, _, _, rfl, ⟨two, rfl, ho2⟩, rfl⟩ := h
  obtain ⟨l, rfl⟩ := kd_ns h1
  rw [kI_sh]
  rw [ns_length] at hd1
  have hd3 : l.length ≤ 9223372036854775807 := by simp [Go.maxLen] at hd1; omega
  have hd4 : one.length ≤ 9223372036854775807 := by simp [Go.maxLen] at ho1; omega
  have hd5 : two.length ≤ 9223372036854775807 := by simp [Go.maxLen] at ho2; omega
  clear hd1 ho1 ho2
  have c11 := @sanity_at gl n _ (by omega)
  by_cases hl : l.length ≤ 300
  case neg =>
    rw [call_go (fd := fd5) rfl]
    simp (disch := ((fail_if_success (intro _)); omega)) only [go_sem, simprocAttr, ↓reduceIte, ↓Nat.reduceEqDiff, xx, fd5, m5, c11, ns_length]
  by_cases hk1 : one.length ≤ 100
  case neg =>
    rw [call_go (fd := fd5) rfl]
    simp (disch := ((fail_if_success (intro _)); omega)) only [go_sem, simprocAttr, ↓reduceIte, ↓Nat.reduceEqDiff, xx, fd5, m5, c11, ns_length]
  by_cases hk2 : two.length ≤ 100
  case neg =>
    rw [call_go (fd := fd5) rfl]
    simp (disch := ((fail_if_success (intro _)); omega)) only [go_sem, simprocAttr, ↓reduceIte, ↓Nat.reduceEqDiff, xx, fd5, m5, c11, ns_length]
  obtain ⟨b10, hb10, c10⟩ := @rvalid_at gl n (by omega) false w s a l (by omega)
  cases b10 with
  | false =>
    rw [call_go (fd := fd5) rfl]
    simp (disch := ((fail_if_success (intro _)); omega)) only [go_sem, simprocAttr, ↓reduceIte, ↓Nat.reduceEqDiff, xx, fd5, m5, c11, ns_length, c10]
  | true =>
  have hv := hb10.1 rfl
  obtain ⟨w, rfl⟩ : ∃ v : Nat, w = v := ⟨w.toNat, by have := isP_pos hv.vp; omega⟩
  have hsk := hv.sk
  have hkl := hsk.kl
  have hkw := hsk.kw
  have hva := hv.va
  have hvs := hv.vs
  have hp1 : ∀ i, i < 4 → pl one w i < l.length := fun i hi => by rw [hkl]; exact pl_lt hkw.1 hi
  have hp2 : ∀ i, i < 4 → pl two w i < l.length := fun i hi => by rw [hkl]; exact pl_lt hkw.1 hi
  have hinj : ∀ i j, i < j → pl one w i ≠ pl one w j := fun i j hij => pl_inj hkw.1 hij
  have c12 := @add_at gl n _ (by omega) one (by omega) w s a false l hsk
  have c17a := @count_at gl n _ (by omega) one (by omega) w hkw s a false l hkl
  have c17b := @count_at gl n _ (by omega) two (by omega) w hkw s a false l hkl
  have hlen := @addR_len w s a l one
  have c17c := @count_at gl n _ (by omega) one (by omega) w hkw s (addR w s a l one).1 false (addR w s a l one).2 (by omega)
  have c17d := @count_at gl n _ (by omega) two (by omega) w hkw s (addR w s a l one).1 false (addR w s a l one).2 (by omega)
  have hb1 := lea_bd hsk.kc hp1 4 (Nat.le_refl 4)
  have hb2 := lea_bd hsk.kc hp2 4 (Nat.le_refl 4)
  have hA : lea (adL w l one) (pl one w) 4 = mn (lea l (pl one w) 4 + 1) 15 := ad_lea hinj hp1 hsk.kc
  have hB1 : lea l (pl two w) 4 ≤ lea (adL w l one) (pl two w) 4 := lea_mono fun i hi => (ad_bd hinj hp1 _).1
  have hB2 : lea (adL w l one) (pl two w) 4 ≤ lea l (pl two w) 4 + 1 := lea_succ fun i hi => (ad_bd hinj hp1 _).2
  have hcs := adL_cs hsk one
  have hal := adL_length w l one
  have hH : lea (hlf (adL w l one) l.length) (pl one w) 4 = lea (adL w l one) (pl one w) 4 / 2 := lea_half (by omega) fun i hi => ⟨(hcs _ (by rw [hal]; exact hp1 i hi)).1, (hcs _ (by rw [hal]; exact hp1 i hi)).2, nat_hlf (hp1 i hi)⟩
  rw [hA] at hH
  have hmn : (if (15 : Int) < lea l (pl one w) 4 + 1 then 15 else lea l (pl one w) 4 + 1) = mn (lea l (pl one w) 4 + 1) 15 := rfl
  have hmb : 0 ≤ mn (lea l (pl one w) 4 + 1) 15 ∧ mn (lea l (pl one w) 4 + 1) 15 ≤ 15 := by unfold mn; split <;> omega
  have hq1 := quoI (x := mn (lea l (pl one w) 4 + 1) 15) (by omega)
  have hq2 := quoI (x := a + 1) (by omega)
  by_cases he : a + 1 = s
  · have er : addR w s a l one = ((a + 1) / 2, hlf (adL w l one) l.length) := if_pos he
    rw [er] at c12 c17c c17d
    simp only at c12 c17c c17d
    rw [hH] at c17c
    have hne : ((a + 1) / 2 != a + 1) = true := by rw [bne_iff_ne]; omega
    generalize hlf (adL w l one) l.length = L2 at *
    generalize mn (lea l (pl one w) 4 + 1) 15 = X at *
    generalize lea l (pl one w) 4 = c at *
    generalize lea l (pl two w) 4 = c2 at *
    rw [call_go (fd := fd5) rfl]
    simp (disch := ((fail_if_success (intro _)); omega)) only [go_sem, simprocAttr, ↓reduceIte, ↓Nat.reduceEqDiff, xx, fd5, m5, c11, ns_length, c10, c12, c17a, c17b, c17c, hne, hq2, hq1, foldO, minAV, gt_iff_lt, hmn, beq_self_eq_true]
  · have er : addR w s a l one = (a + 1, adL w l one) := if_neg he
    rw [er] at c12 c17c c17d
    simp only at c12 c17c c17d
    rw [hA] at c17c
    have hne : (a + 1 != a + 1) = false := by simp
    generalize lea (adL w l one) (pl two w) 4 = d2 at *
    generalize adL w l one = L2 at *
    generalize mn (lea l (pl one w) 4 + 1) 15 = X at *
    generalize lea l (pl one w) 4 = c at *
    generalize lea l (pl two w) 4 = c2 at *
    rw [call_go (fd := fd5) rfl]
    simp (disch := ((fail_if_success (intro _)); omega)) only [go_sem, simprocAttr, ↓reduceIte, ↓Nat.reduceEqDiff, xx, fd5, m5, c11, ns_length, c10, c12, c17a, c17b, c17c, c17d, hne, foldO, minAV, gt_iff_lt, hmn, beq_self_eq_true]
end Go.Proofs.S08
