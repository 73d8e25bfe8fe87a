/-
  Chapter 16: the victim, both ways. No condition.
-/
import Derived.Test.YtjkgmpckddolfaaW16j
set_option linter.unusedVariables false
set_option linter.unusedSimpArgs false
set_option linter.unusedSectionVars false
namespace Go.Proofs.S16
open Go Go.Ev Go.Proofs
set_option linter.unusedSimpArgs false
set_option linter.unusedVariables false
variable {gl : Gl} {n : Nat}
/-- Victim's answer where nobody has to be chosen. -/
def verr (l : List A3) (c v : Int) (b : Bool) : Int := if b then (if v < 0 ∨ 1099511627776 < v then 1 else 0) else 5
theorem victim_no (h : 12 ≤ n) {l : List A3} (hv : VA l) {q c v : Int} {k : Nat} {b : Bool} (he : b = true → 0 ≤ v ∧ v ≤ 1099511627776 → sumU l l.length + v ≤ c)
    (c40 : call gl tab (n - 1) 40 [.lst false sA (ac l), i64 q] [] = some (.tup [i64 k, .bool b], [], [])) :
    call gl tab n 29 [i64 c, .lst false sA (ac l), i64 q, i64 v] [] = some (.tup [i64 0, i64 (verr l c v b)], [], []) := by
  obtain ⟨d, rfl⟩ := Nat.exists_eq_add_of_le' h
  rw [show d + 12 - 1 = d + 11 from rfl] at c40
  have hn := hv.n
  have hs := sumU_bd hv (Nat.le_refl l.length)
  have c27 := @total_at gl (d + 11) (by omega) false sA l (.inr rfl) hv
  rw [call_go (fd := fd29) rfl]
  cases b with
  | false => simp (disch := ((fail_if_success (intro _)); omega)) only [go_sem, simprocAttr, ↓reduceIte, xx, fd29, m29, ac_length, c40, verr, Bool.false_eq_true, if_false]
  | true =>
    by_cases h1 : v < 0
    · simp (disch := ((fail_if_success (intro _)); omega)) only [go_sem, simprocAttr, ↓reduceIte, xx, fd29, m29, ac_length, c40, verr, true_or, if_true]
    by_cases h2 : 1099511627776 < v
    · simp (disch := ((fail_if_success (intro _)); omega)) only [go_sem, simprocAttr, ↓reduceIte, xx, fd29, m29, ac_length, c40, verr, true_or, or_true, if_true]
    have he := he rfl ⟨by omega, by omega⟩
    simp (disch := ((fail_if_success (intro _)); omega)) only [go_sem, simprocAttr, ↓reduceIte, xx, fd29, m29, ac_length, c40, c27, verr, or_self, if_false]
theorem rvictim_no (h : 12 ≤ n) {l : List A3} (hv : VA l) {q c v : Int} {k : Nat} {b : Bool} (he : b = true → 0 ≤ v ∧ v ≤ 1099511627776 → sumU l l.length + v ≤ c)
    (c43 : call gl tab (n - 1) 43 [.lst false sA (ac l), i64 q] [] = some (i64 (if b then k else -1), [], [])) :
    call gl tab n 30 [i64 c, .lst false sA (ac l), i64 q, i64 v] [] = some (.agg [i64 0, i64 (verr l c v b)], [], []) := by
  obtain ⟨d, rfl⟩ := Nat.exists_eq_add_of_le' h
  rw [show d + 12 - 1 = d + 11 from rfl] at c43
  have hn := hv.n
  have hs := sumU_bd hv (Nat.le_refl l.length)
  have c28 := @rtotal_at gl (d + 11) (by omega) false sA l (.inr rfl) hv
  rw [call_go (fd := fd30) rfl]
  cases b with
  | false =>
    simp only [Bool.false_eq_true, if_false] at c43
    simp (disch := ((fail_if_success (intro _)); omega)) only [go_sem, simprocAttr, ↓reduceIte, xx, fd30, m30, ac_length, c43, verr, Bool.false_eq_true, if_false]
  | true =>
    simp only [if_true] at c43
    by_cases h1 : v < 0
    · simp (disch := ((fail_if_success (intro _)); omega)) only [go_sem, simprocAttr, ↓reduceIte, xx, fd30, m30, ac_length, c43, verr, true_or, if_true]
    by_cases h2 : 1099511627776 < v
    · simp (disch := ((fail_if_success (intro _)); omega)) only [go_sem, simprocAttr, ↓reduceIte, xx, fd30, m30, ac_length, c43, verr, true_or, or_true, if_true]
    have he := he rfl ⟨by omega, by omega⟩
    simp (disch := ((fail_if_success (intro _)); omega)) only [go_sem, simprocAttr, ↓reduceIte, xx, fd30, m30, ac_length, c43, c28, verr, or_self, if_false]
def L30 : MC := match m30 with | .seq _ (.seq _ (.seq _ (.seq _ (.seq _ (.seq _ (.seq _ (.seq _ (.seq _ (.seq (.seq _ (.block _ (.loop _ b))) _))))))))) => b | _ => .skip
def S30 (l : List A3) (g : List Int) (k : Nat) (o : Int × Int) (i : Nat) : St :=
  ⟨[.set 13 (i64 i), .set 12 (i64 o.2), .set 11 (.ptr 11 []), .set 10 (.lst false .sc (ns g)), .set 9 (i64 k), .set 8 (.ptr 8 []), .set 1 (.lst false sA (ac l))],
    [(11, .fix sS (.agg [i64 o.1, i64 0])), (8, .fix sS (.agg [i64 0, i64 0]))]⟩
set_option maxHeartbeats 2000000 in
theorem step30 {d : Nat} {l : List A3} {g : List Int} {k i : Nat} (hv : VA l) (hgl : g.length = l.length) (hi : i < l.length) (hg : 0 ≤ nat g i ∧ nat g i ≤ 1099511627776) :
    contK [.slot 1, .slot 8, .slot 9, .slot 10, .slot 11, .slot 12, .slot 13, .key 8, .key 11] (evC gl (call gl tab d) L30 (S30 l g k (bst l g k i) i)) = some (S30 l g k (bst l g k (i + 1)) (i + 1)) := by
  have hn := hv.n
  have hx := ac_at hi
  have hu := (hv.ok i hi).u
  have hy := ns_at (show i < g.length by omega)
  by_cases hk : i = k
  · subst hk
    have e : bst l g i (i + 1) = bst l g i i := by rw [bst, if_neg (by omega)]
    rw [e]
    generalize bst l g i i = o at *
    simp (disch := ((fail_if_success (intro _)); omega)) only [go_sem, simprocAttr, ↓reduceIte, xx, L30, m30, S30, hx, ac_length]
  · have h1 : ((i : Int) == k) = false := by rw [beq_eq_false_iff_ne]; omega
    by_cases h3 : (bst l g k i).2 < (aat l i).u - nat g i
    · have e : bst l g k (i + 1) = ((aat l i).t, (aat l i).u - nat g i) := by rw [bst, if_pos ⟨hk, h3⟩]
      rw [e]
      generalize bst l g k i = o at *
      simp (disch := ((fail_if_success (intro _)); omega)) only [go_sem, simprocAttr, ↓reduceIte, xx, L30, m30, S30, hx, ac_length, h1, hy, ns_length, hgl]
    · have e : bst l g k (i + 1) = bst l g k i := by rw [bst, if_neg (fun h => h3 h.2)]
      rw [e]
      generalize bst l g k i = o at *
      simp (disch := ((fail_if_success (intro _)); omega)) only [go_sem, simprocAttr, ↓reduceIte, xx, L30, m30, S30, hx, ac_length, h1, hy, ns_length, hgl]
set_option maxHeartbeats 2000000 in
theorem rvictim_all (h : 12 ≤ n) {l : List A3} (hv : VA l) {q c v : Int} {k : Nat} (hc : 0 ≤ c ∧ c ≤ 1099511627776) (hvv : 0 ≤ v ∧ v ≤ 1099511627776) (hk : k < l.length) (hq : (aat l k).t = q) {m : Int} (hm : Lv (wnt l k v) c m)
    (ht : c < sumU l l.length + v) (c43 : call gl tab (n - 1) 43 [.lst false sA (ac l), i64 q] [] = some (i64 k, [], [])) :
    call gl tab n 30 [i64 c, .lst false sA (ac l), i64 q, i64 v] [] = some (if nat (gets (wnt l k v) m c l.length) k < (aat l k).u + v then .agg [i64 0, i64 160] else .agg [i64 (bst l (gets (wnt l k v) m c l.length) k l.length).1, i64 0], [], []) := by
  obtain ⟨d, rfl⟩ := Nat.exists_eq_add_of_le' h
  rw [show d + 12 - 1 = d + 11 from rfl] at c43
  have hn := hv.n
  have hu := (hv.ok k hk).u
  have hs := sumU_bd hv (Nat.le_refl l.length)
  have c28 := @rtotal_at gl (d + 11) (by omega) false sA l (.inr rfl) hv
  have c31 := @rwants_at gl (d + 11) (by omega) l hv k hk q v hq hvv
  have hx := ac_at hk
  have hws := wnt_valid hv (k := k) hvv
  have c17 := @rfair_at gl (d + 11) (by omega) false sS (wnt l k v) (.inr rfl) hws c hc m hm
  have hgb := fun i hi => @get1_nn (wnt l k v) hws c m hm i hi
  rw [wnt_length] at c17 hgb
  have hgl := gets_length (wnt l k v) m c l.length
  have hgx := ns_at (show k < (gets (wnt l k v) m c l.length).length by rw [hgl]; exact hk)
  generalize gets (wnt l k v) m c l.length = g at *
  have h0 := hgb k hk
  have hst := fun i hi => @step30 gl (d + 11) l g k i hv hgl hi (hgb i hi)
  simp only [L30, m30] at hst
  rw [call_go (fd := fd30) rfl]
  by_cases hg : nat g k < (aat l k).u + v
  · simp (disch := ((fail_if_success (intro _)); omega)) only [go_sem, simprocAttr, ↓reduceIte, xx, fd30, m30, ac_length, c43, c28, c31, c17, hx, hgx, ns_length, hgl, hg]
  · simp (disch := ((fail_if_success (intro _)); omega)) only [go_sem, simprocAttr, ↓reduceIte, xx, fd30, m30, ac_length, c43, c28, c31, c17, hx, hgx, ns_length, hgl, hg]
    rw [iter_to (fun i => S30 l g k (bst l g k i) i) l.length (by unfold LF; omega)]
    · simp (disch := ((fail_if_success (intro _)); omega)) only [go_sem, simprocAttr, ↓reduceIte, xx, S30, ac_length]
    · simp (disch := ((fail_if_success (intro _)); omega)) only [go_sem, simprocAttr, ↓reduceIte, xx, S30, ac_length, bst]
    · exact hst
    · simp (disch := ((fail_if_success (intro _)); omega)) only [go_sem, simprocAttr, ↓reduceIte, xx, S30, ac_length]
end Go.Proofs.S16
