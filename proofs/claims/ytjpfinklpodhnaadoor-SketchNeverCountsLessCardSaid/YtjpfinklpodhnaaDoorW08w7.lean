/-
  Chapter 8: a sketch never counts less. No condition.
-/
import Derived.Test.YtjpfinklpodhnaaDoorW08WV
set_option linter.unusedVariables false
set_option linter.unusedSimpArgs false
set_option linter.unusedSectionVars false
namespace Go.Proofs.S08
open Go Go.Ev Go.Proofs
set_option linter.unusedSimpArgs false
set_option linter.unusedVariables false
variable {gl : Gl} {n : Nat} [Nonempty (H.GlK gl)] [Nonempty (H.GlR gl)]
def L4 : MC := match m4 with | .seq _ (.seq _ (.seq _ (.seq _ (.seq _ (.seq (.seq _ (.block _ (.loop _ b))) _))))) => b | _ => .skip
abbrev k4 : List Kp := [.slot 2, .slot 8, .own 10 5010 (.st [.sc, .sc]), .slot 11, .key 8]
def S4 (keys : List (List UInt8)) (w s a : Int) (l0 : List Int) (l : List Ct) (k : Nat) : St := ⟨[.set 11 (i64 k), .set 10 (.sl 5010 [] 0 l.length), .set 8 (.ptr 8 []), .set 2 (.lst false .sc (ks keys))], [(8, .fix sK (sk w s a l0)), (5010, .grow sC (ct l))]⟩
set_option maxHeartbeats 8000000 in
theorem step4 (h : 14 ≤ n) {keys : List (List UInt8)} (hfew : Few keys) {w : Nat} {s a : Int} {l0 : List Int} (hv : VS w s a l0) {cs : List Ct} (hj : J w l0 cs) {k : Nat} (hk : k < keys.length) (hcl : cs.length ≤ k) :
    ∃ a' l0' cs', VS w s a' l0' ∧ J w l0' cs' ∧ cs'.length ≤ k + 1 ∧ contK k4 (evC gl (call gl tab n) L4 (S4 keys w s a l0 cs k)) = some (S4 keys w s a' l0' cs' (k + 1)) := by
  have hsk := hv.sk
  have hw := hsk.kw
  have hl := hsk.kl
  have hcs := hsk.kc
  have hva := hv.va
  have hvs := hv.vs
  have hkn := hfew.2
  have hx := ks_at hk
  have hkl := hfew.1 k hk
  have c12 := @add_at gl n _ (by omega) (kat keys k) (by omega) w s a false l0 hsk
  have hv2 := add_vs hv (kat keys k)
  have hl2 := @addR_len w s a l0 (kat keys k)
  have hAc := adL_cs hsk (kat keys k)
  have hAl := adL_length w l0 (kat keys k)
  generalize hkey : kat keys k = key at *
  -- what 'more' makes
  have hmore : ∃ (cs1 : List Ct) (r : AV × Hp × List OB), J w (adL w l0 key) cs1 ∧ cs1.length ≤ k + 1 ∧ call gl tab n 16 [.sl 100000 [] 0 cs.length, .str key] [(100000, .grow sC (ct cs))] = some r ∧
      (r = (.sl 100000 [] 0 cs1.length, [(100000, .grow sC (ct cs1))], []) ∨ r = (.sl 20000 [] 0 cs1.length, [(100000, .dead)], [.grow sC (ct cs1)])) := by
    rcases first_fail (fun i => (cat cs i).k ≠ key) cs.length with ha | ⟨i, hi, hb', he⟩
    · refine ⟨_, _, hj.no hw.1 hl hcs hkl, by simp; omega, more_no (by omega) (by omega) ha, .inr ?_⟩
      simp
    · have he2 : (cat cs i).k = key := Classical.not_not.1 he
      refine ⟨_, _, hj.yes hw.1 hl hcs hi he2, by simp; omega, more_yes (by omega) (by omega) hi hb' he2 (hj.jc i hi), .inl ?_⟩
      simp
  obtain ⟨cs1, r, hj1, hc1, c16, hr⟩ := hmore
  by_cases he : a + 1 = s
  · have er : addR w s a l0 key = ((a + 1) / 2, hlf (adL w l0 key) l0.length) := if_pos he
    rw [er] at c12 hv2 hl2
    simp only at c12 hv2 hl2
    have hj2 : J w (hlf (adL w l0 key) l0.length) (hfc cs1) := by
      have := hj1.half hw.1 (by omega) hAc
      rwa [hAl] at this
    have hne : ((a + 1) / 2 != a + 1) = true := by rw [bne_iff_ne]; omega
    refine ⟨_, _, hfc cs1, hv2, hj2, by rw [hfc_len]; exact hc1, ?_⟩
    generalize hlf (adL w l0 key) l0.length = l2 at *
    have hs1 := fun i hi => @step4b gl n keys w s ((a + 1) / 2) l2 cs1 (by omega) k i hi (hj1.jc i hi)
    have hs2 := fun i hi => @step4c gl n _ (by omega) keys w hw s ((a + 1) / 2) l2 (by omega) (hfc cs1) (by rw [hfc_len]; omega) hj2 k i hi
    have hfl := hfc_len cs1
    have h0 := hfp_0 cs1
    have hal := hfp_all cs1
    rw [hfl] at hs2
    simp only [L4b, m4] at hs1
    simp only [L4c, m4] at hs2
    have hpl := hfp_len cs1
    generalize hfp cs1 = g at *
    generalize hfc cs1 = cs2 at *
    have e1 : ∀ st, clean k4b st = some (S4b keys w s ((a + 1) / 2) l2 (g 0) k 0) → iter _ k4b LF st = _ := fun st hst => iter_to (fun i => S4b keys w s ((a + 1) / 2) l2 (g i) k i) cs1.length (by unfold LF; omega) hst hs1 (by
      rw [hal, S4b]; simp (disch := ((fail_if_success (intro _)); omega)) only [go_sem, simprocAttr, ↓reduceIte, ↓Nat.reduceEqDiff, xx, ct_length, hfl])
    have e2 : ∀ st, clean k4c st = some (S4c keys w s ((a + 1) / 2) l2 cs2 k 0) → iter _ k4c LF st = _ := fun st hst => iter_to (fun i => S4c keys w s ((a + 1) / 2) l2 cs2 k i) cs1.length (by unfold LF; omega) hst hs2 (by
      rw [S4c]; simp (disch := ((fail_if_success (intro _)); omega)) only [go_sem, simprocAttr, ↓reduceIte, ↓Nat.reduceEqDiff, xx, ct_length, hfl])
    rw [S4, S4]
    rcases hr with rfl | rfl
    · simp (disch := ((fail_if_success (intro _)); omega)) only [go_sem, simprocAttr, ↓reduceIte, ↓Nat.reduceEqDiff, xx, L4, m4, ct_length, ks_length, hx, hkey, c12, c16, hne]
      rw [e1 _ (by rw [h0, S4b]; simp (disch := ((fail_if_success (intro _)); omega)) only [go_sem, simprocAttr, ↓reduceIte, ↓Nat.reduceEqDiff, xx, ct_length])]
      rw [hal, S4b]
      simp (disch := ((fail_if_success (intro _)); omega)) only [go_sem, simprocAttr, ↓reduceIte, ↓Nat.reduceEqDiff, xx, ct_length, hfl]
      rw [e2 _ (by rw [S4c]; simp (disch := ((fail_if_success (intro _)); omega)) only [go_sem, simprocAttr, ↓reduceIte, ↓Nat.reduceEqDiff, xx, ct_length, hfl])]
      rw [S4c]
      simp (disch := ((fail_if_success (intro _)); omega)) only [go_sem, simprocAttr, ↓reduceIte, ↓Nat.reduceEqDiff, xx, ct_length, hfl]
    · simp (disch := ((fail_if_success (intro _)); omega)) only [go_sem, simprocAttr, ↓reduceIte, ↓Nat.reduceEqDiff, xx, L4, m4, ct_length, ks_length, hx, hkey, c12, c16, hne]
      rw [e1 _ (by rw [h0, S4b]; simp (disch := ((fail_if_success (intro _)); omega)) only [go_sem, simprocAttr, ↓reduceIte, ↓Nat.reduceEqDiff, xx, ct_length])]
      rw [hal, S4b]
      simp (disch := ((fail_if_success (intro _)); omega)) only [go_sem, simprocAttr, ↓reduceIte, ↓Nat.reduceEqDiff, xx, ct_length, hfl]
      rw [e2 _ (by rw [S4c]; simp (disch := ((fail_if_success (intro _)); omega)) only [go_sem, simprocAttr, ↓reduceIte, ↓Nat.reduceEqDiff, xx, ct_length, hfl])]
      rw [S4c]
      simp (disch := ((fail_if_success (intro _)); omega)) only [go_sem, simprocAttr, ↓reduceIte, ↓Nat.reduceEqDiff, xx, ct_length, hfl]
  · have er : addR w s a l0 key = (a + 1, adL w l0 key) := if_neg he
    rw [er] at c12 hv2 hl2
    simp only at c12 hv2 hl2
    have hne : (a + 1 != a + 1) = false := by simp
    refine ⟨_, _, cs1, hv2, hj1, hc1, ?_⟩
    generalize adL w l0 key = l2 at *
    have hs2 := fun i hi => @step4c gl n _ (by omega) keys w hw s (a + 1) l2 (by omega) cs1 (by omega) hj1 k i hi
    simp only [L4c, m4] at hs2
    have e2 : ∀ st, clean k4c st = some (S4c keys w s (a + 1) l2 cs1 k 0) → iter _ k4c LF st = _ := fun st hst => iter_to (fun i => S4c keys w s (a + 1) l2 cs1 k i) cs1.length (by unfold LF; omega) hst hs2 (by
      rw [S4c]; simp (disch := ((fail_if_success (intro _)); omega)) only [go_sem, simprocAttr, ↓reduceIte, ↓Nat.reduceEqDiff, xx, ct_length])
    rw [S4, S4]
    rcases hr with rfl | rfl
    · simp (disch := ((fail_if_success (intro _)); omega)) only [go_sem, simprocAttr, ↓reduceIte, ↓Nat.reduceEqDiff, xx, L4, m4, ct_length, ks_length, hx, hkey, c12, c16, hne]
      rw [e2 _ (by rw [S4c]; simp (disch := ((fail_if_success (intro _)); omega)) only [go_sem, simprocAttr, ↓reduceIte, ↓Nat.reduceEqDiff, xx, ct_length])]
      rw [S4c]
      simp (disch := ((fail_if_success (intro _)); omega)) only [go_sem, simprocAttr, ↓reduceIte, ↓Nat.reduceEqDiff, xx, ct_length]
    · simp (disch := ((fail_if_success (intro _)); omega)) only [go_sem, simprocAttr, ↓reduceIte, ↓Nat.reduceEqDiff, xx, L4, m4, ct_length, ks_length, hx, hkey, c12, c16, hne]
      rw [e2 _ (by rw [S4c]; simp (disch := ((fail_if_success (intro _)); omega)) only [go_sem, simprocAttr, ↓reduceIte, ↓Nat.reduceEqDiff, xx, ct_length])]
      rw [S4c]
      simp (disch := ((fail_if_success (intro _)); omega)) only [go_sem, simprocAttr, ↓reduceIte, ↓Nat.reduceEqDiff, xx, ct_length]
end Go.Proofs.S08
