/-
  Chapter 16: accounts are kept as specified. No condition.
-/
import Derived.Test.YtjkgmpckddolfaaW16h
import Derived.Test.YtjkgmpckddolfaaW16k
set_option linter.unusedVariables false
set_option linter.unusedSimpArgs false
set_option linter.unusedSectionVars false
namespace Go.Proofs.S16
open Go Go.Ev Go.Proofs
set_option linter.unusedSimpArgs false
set_option linter.unusedVariables false
variable {gl : Gl} {n : Nat}
theorem b_eq6 {b b' : Bool} {p : Prop} (h : b = true ↔ p) (h' : b' = true ↔ p) : b = b' := by
  cases b <;> cases b' <;> simp_all
theorem kd_acT {r : List A3} (h : ∀ x ∈ ac r, HasKd kA x) : ∀ i, i < r.length → (aat r i).t ≤ 9223372036854775807 := fun i hi => by
  obtain ⟨k, e, hx⟩ := h _ (List.mem_of_getElem? (ac_at hi))
  simp only [AV.agg.injEq] at e
  subst e
  simp only [HasKds, List.cons.injEq] at hx
  obtain ⟨_, _, ⟨rfl, rfl⟩, ⟨a, e, h1, h2⟩, _⟩ := hx
  simp only [AV.int.injEq, true_and] at e
  rw [e]; exact h2
theorem va_nil : VA [] := ⟨by simp, fun i hi => by simp at hi⟩
theorem opens (h : 6 ≤ n) {l : List A3} (hv : VA l) (hl : l.length ≤ 60) (ht : ∀ i, i < l.length → (aat l i).t ≤ 9223372036854775807) {q : Int} (hq : -9223372036854775808 ≤ q ∧ q ≤ 9223372036854775807) (w : Int) :
    ∃ f m l' e, Mk l' m sA ∧ VA l' ∧ call gl tab n 22 [.lst false sA (ac l), i64 q, i64 w] [] = some (.tup [.lst f m (ac l'), i64 e], [], []) ∧
      call gl tab n 23 [.lst false sA (ac l), i64 q, i64 w] [] = some (.agg [.lst f m (ac l'), i64 e], [], []) := by
  obtain ⟨k, b, hk, hp, hb1, hb0, c40, c43⟩ := @places gl (n - 1) (by omega) l hv ht q hq
  by_cases he : oerr l q w b = 0
  · have hw : (1 ≤ q) ∧ 1 ≤ w ∧ w ≤ 1048576 := by unfold oerr at he; split at he <;> omega
    have hb : b = false := by
      unfold oerr at he; rw [if_neg (by omega)] at he
      cases b <;> simp_all
    subst hb
    have hpl := hp (by omega)
    exact ⟨false, sA, _, 0, .inr rfl, insA_valid hv hpl (hb0 rfl) hw (by omega), open_ok h hv hk hw (by omega) c40, ropen_ok h hv hpl (hb0 rfl) hw (by omega) c43⟩
  · exact ⟨true, .sc, [], _, .inl rfl, va_nil, open_no h he c40, ropen_no h he c43⟩
theorem uses (h : 6 ≤ n) {l : List A3} (hv : VA l) (hl : l.length ≤ 60) (ht : ∀ i, i < l.length → (aat l i).t ≤ 9223372036854775807) {q : Int} (hq : -9223372036854775808 ≤ q ∧ q ≤ 9223372036854775807) (v : Int) :
    ∃ f m l' e, Mk l' m sA ∧ VA l' ∧ call gl tab n 24 [.lst false sA (ac l), i64 q, i64 v] [] = some (.tup [.lst f m (ac l'), i64 e], [], []) ∧
      call gl tab n 25 [.lst false sA (ac l), i64 q, i64 v] [] = some (.agg [.lst f m (ac l'), i64 e], [], []) := by
  obtain ⟨k, b, hk, hp, hb1, hb0, c40, c43⟩ := @places gl (n - 1) (by omega) l hv ht q hq
  by_cases he : uerr l k v b = 0
  · have hb : b = true := by
      unfold uerr at he
      cases b <;> simp_all
    subst hb
    have hkl := (hb1 rfl).1
    exact ⟨false, sA, _, 0, .inr rfl, updA_valid hv hkl he, use_ok h hv hkl he c40, ruse_ok h hv hkl he c43⟩
  · exact ⟨true, .sc, [], _, .inl rfl, va_nil, use_no h hv (fun h => (hb1 h).1) he c40, ruse_no h hv (fun h => (hb1 h).1) he c43⟩
set_option maxHeartbeats 1000000 in
theorem law6 (hn : 20 ≤ n) (c9 : call gl tab n 9 [] [] = some (.bool true, [], [])) (ar : List AV) (h : HasKds [.sl kA, .int .i64, .int .i64, .int .i64] ar) : call gl tab (n + 1) 6 ar [] = some (.bool true, [], []) := by
  simp only [HasKds] at h
  obtain ⟨_, _, rfl, ⟨d1, rfl, hd1, h1⟩, _, _, rfl, ⟨q, rfl, hq⟩, _, _, rfl, ⟨w, rfl, _⟩, _, _, rfl, ⟨v, rfl, _⟩, rfl⟩ := h
  obtain ⟨l, rfl⟩ := kd_ac h1
  have ht := kd_acT h1
  rw [kA_sh]
  by_cases hl : l.length ≤ 60
  case neg =>
    rw [call_go (fd := fd6) rfl]
    simp (disch := ((fail_if_success (intro _)); omega)) only [go_sem, simprocAttr, ↓reduceIte, xx, fd6, m6, ac_length, c9]
  obtain ⟨b1, hb1, c20⟩ := @accounts_at gl n (by omega) false sA l (.inr rfl) (by omega)
  obtain ⟨b2, hb2, c21⟩ := @raccounts_at gl n (by omega) false sA l (.inr rfl) (by omega)
  obtain rfl := b_eq6 hb1 hb2
  cases b1 with
  | false =>
    rw [call_go (fd := fd6) rfl]
    simp (disch := ((fail_if_success (intro _)); omega)) only [go_sem, simprocAttr, ↓reduceIte, xx, fd6, m6, ac_length, c9, c20, c21]
  | true =>
    have hv := hb1.1 rfl
    obtain ⟨f1, m1, l1, e1, k1, v1, c22, c23⟩ := @opens gl n (by omega) l hv hl ht q hq w
    obtain ⟨f2, m2, l2, e2, k2, v2, c24, c25⟩ := @uses gl n (by omega) l hv hl ht q hq v
    have n1 := v1.n
    have n2 := v2.n
    have s1 := @sameA_at gl n (by omega) f1 f1 m1 m1 l1 k1 k1 (by omega)
    have s2 := @sameA_at gl n (by omega) f2 f2 m2 m2 l2 k2 k2 (by omega)
    obtain ⟨b3, hb3, a1⟩ := @accounts_at gl n (by omega) f1 m1 l1 k1 (by omega)
    obtain ⟨b4, hb4, a2⟩ := @accounts_at gl n (by omega) f2 m2 l2 k2 (by omega)
    obtain rfl : b3 = true := hb3.2 v1
    obtain rfl : b4 = true := hb4.2 v2
    have t1 := @total_at gl n (by omega) false sA l (.inr rfl) hv
    have t2 := @rtotal_at gl n (by omega) false sA l (.inr rfl) hv
    rw [call_go (fd := fd6) rfl]
    simp (disch := ((fail_if_success (intro _)); omega)) only [go_sem, simprocAttr, ↓reduceIte, xx, fd6, m6, ac_length, c9, c20, c21, c22, c23, c24, c25, s1, s2, a1, a2, t1, t2]
end Go.Proofs.S16
