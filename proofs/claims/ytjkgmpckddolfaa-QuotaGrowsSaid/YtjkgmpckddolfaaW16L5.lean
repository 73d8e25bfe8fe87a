/-
  Chapter 16: divisions grow with the capacity. No condition.
-/
import Derived.Test.YtjkgmpckddolfaaW16n
import Derived.Test.YtjkgmpckddolfaaW16k
set_option linter.unusedVariables false
set_option linter.unusedSimpArgs false
set_option linter.unusedSectionVars false
namespace Go.Proofs.S16
open Go Go.Ev Go.Proofs
set_option linter.unusedSimpArgs false
set_option linter.unusedVariables false
variable {gl : Gl} {n : Nat}
def L5 : MC := match m5 with | .seq _ (.seq _ (.seq _ (.seq _ (.seq (.seq _ (.block _ (.loop _ b))) _)))) => b | _ => .skip
def S5 (a b : List Int) (N i : Nat) : St := ⟨[.set 63 (i64 i), .set 62 (i64 N), .set 8 (.sl 39 [] 0 N), .set 7 (.sl 36 [] 0 N)], [(39, .grow .sc (ns b)), (36, .grow .sc (ns a))]⟩
theorem step5 {d N : Nat} {a b : List Int} (ha : a.length = N) (hb : b.length = N) (hN : N ≤ 1000) {i : Nat} (hi : i < N) (h : nat a i ≤ nat b i) :
    contK [.slot 7, .slot 8, .slot 62, .slot 63, .key 36, .key 39] (evC gl (call gl tab d) L5 (S5 a b N i)) = some (S5 a b N (i + 1)) := by
  have hx := ns_at (show i < a.length by omega)
  have hy := ns_at (show i < b.length by omega)
  simp (disch := ((fail_if_success (intro _)); omega)) only [go_sem, simprocAttr, ↓reduceIte, xx, L5, m5, S5, ns_length, ha, hb, hx, hy]
set_option maxHeartbeats 1000000 in
theorem law5 (hn : 20 ≤ n) (c9 : call gl tab n 9 [] [] = some (.bool true, [], [])) (ar : List AV) (h : HasKds [.int .i64, .int .i64, .sl kS] ar) : call gl tab (n + 1) 5 ar [] = some (.bool true, [], []) := by
  simp only [HasKds] at h
  obtain ⟨_, _, rfl, ⟨c, rfl, _⟩, _, _, rfl, ⟨c', rfl, _⟩, _, _, rfl, ⟨d1, rfl, hd1, h1⟩, rfl⟩ := h
  obtain ⟨l, rfl⟩ := kd_sh h1
  rw [kS_sh]
  by_cases hl : l.length ≤ 60
  case neg =>
    rw [call_go (fd := fd5) rfl]
    simp (disch := ((fail_if_success (intro _)); omega)) only [go_sem, simprocAttr, ↓reduceIte, xx, fd5, m5, sh_length, c9]
  obtain ⟨b2, hb2, c11⟩ := @rvalid_at gl n (by omega) false sS l (.inr rfl) (by omega)
  have c12 := @capacity_at gl n (by omega) c
  have c12' := @capacity_at gl n (by omega) c'
  cases b2 with
  | false =>
    rw [call_go (fd := fd5) rfl]
    simp (disch := ((fail_if_success (intro _)); omega)) only [go_sem, simprocAttr, ↓reduceIte, xx, fd5, m5, sh_length, c9, c11]
  | true =>
    have hv := hb2.1 rfl
    cases hc : (decide (0 ≤ c) && decide (c ≤ 1099511627776)) with
    | false =>
      rw [hc] at c12
      rw [call_go (fd := fd5) rfl]
      simp (disch := ((fail_if_success (intro _)); omega)) only [go_sem, simprocAttr, ↓reduceIte, xx, fd5, m5, sh_length, c9, c11, c12]
    | true =>
      rw [hc] at c12
      simp only [Bool.and_eq_true, decide_eq_true_eq] at hc
      cases hc' : (decide (0 ≤ c') && decide (c' ≤ 1099511627776)) with
      | false =>
        rw [hc'] at c12'
        rw [call_go (fd := fd5) rfl]
        simp (disch := ((fail_if_success (intro _)); omega)) only [go_sem, simprocAttr, ↓reduceIte, xx, fd5, m5, sh_length, c9, c11, c12, c12']
      | true =>
        rw [hc'] at c12'
        simp only [Bool.and_eq_true, decide_eq_true_eq] at hc'
        by_cases hcc : c ≤ c'
        case neg =>
          rw [call_go (fd := fd5) rfl]
          simp (disch := ((fail_if_success (intro _)); omega)) only [go_sem, simprocAttr, ↓reduceIte, xx, fd5, m5, sh_length, c9, c11, c12, c12']
        obtain ⟨m, hm⟩ := lv_exists hv hc
        obtain ⟨m', hm'⟩ := lv_exists hv hc'
        have c13 := @level_at gl n (by omega) false sS l (.inr rfl) hv c hc m hm
        have c13' := @level_at gl n (by omega) false sS l (.inr rfl) hv c' hc' m' hm'
        have c16 := @fair_at gl n (by omega) false sS l (.inr rfl) hv c hc m hm
        have c16' := @fair_at gl n (by omega) false sS l (.inr rfl) hv c' hc' m' hm'
        have hmm : m ≤ m' := lv_le hv hm' hm.hi (by have := hm.le; omega)
        have hgr := fun i hi => (gets_grow hv hm hm' hcc (i := i) hi).2
        have ha := gets_length l m c l.length
        have hb := gets_length l m' c' l.length
        generalize gets l m c l.length = a at *
        generalize gets l m' c' l.length = b at *
        have hst := fun i hi => @step5 gl n l.length a b ha hb (by omega) i hi (hgr i hi)
        simp only [L5, m5] at hst
        rw [call_go (fd := fd5) rfl]
        simp (disch := ((fail_if_success (intro _)); omega)) only [go_sem, simprocAttr, ↓reduceIte, xx, fd5, m5, sh_length, c9, c11, c12, c12', c13, c13', c16, c16', ns_length, ha, hb]
        rw [iter_to (S5 a b l.length) l.length (by unfold LF; omega)]
        · simp (disch := ((fail_if_success (intro _)); omega)) only [go_sem, simprocAttr, ↓reduceIte, xx, S5, ns_length, ha, hb, c9]
        · simp (disch := ((fail_if_success (intro _)); omega)) only [go_sem, simprocAttr, ↓reduceIte, xx, S5, ns_length, ha, hb]
        · exact hst
        · simp (disch := ((fail_if_success (intro _)); omega)) only [go_sem, simprocAttr, ↓reduceIte, xx, S5, ns_length, ha, hb]
end Go.Proofs.S16
