/-
  Chapter 16: who is within its part is protected. No condition.
-/
import Derived.Test.YtjkgmpckddolfaaW16p
import Derived.Test.YtjkgmpckddolfaaW16v
import Derived.Test.YtjkgmpckddolfaaW16k
set_option linter.unusedVariables false
set_option linter.unusedSimpArgs false
set_option linter.unusedSectionVars false
namespace Go.Proofs.S16
open Go Go.Ev Go.Proofs
set_option linter.unusedSimpArgs false
set_option linter.unusedVariables false
variable {gl : Gl} {n : Nat}
theorem kd_acT8 {r : List A3} (h : ∀ x ∈ ac r, HasKd kA x) : ∀ i, i < r.length → (aat r i).t ≤ 9223372036854775807 := fun i hi => by
  obtain ⟨k, e, hx⟩ := h _ (List.mem_of_getElem? (ac_at hi))
  simp only [AV.agg.injEq] at e
  subst e
  simp only [HasKds, List.cons.injEq] at hx
  obtain ⟨_, _, ⟨rfl, rfl⟩, ⟨a, e, h1, h2⟩, _⟩ := hx
  simp only [AV.int.injEq, true_and] at e
  rw [e]; exact h2
def L8 : MC := match m8 with | .seq _ (.seq _ (.seq _ (.seq _ (.seq (.seq _ (.block _ (.loop _ b))) _)))) => b | _ => .skip
def S8 (l : List A3) (k : Nat) (c v : Int) (i : Nat) : St :=
  ⟨[.set 53 (i64 i), .set 52 (i64 l.length), .set 51 (.lst false sA (ac l)), .set 10 (i64 (sumW (wnt l k v) i)), .set 9 (.ptr 9 []), .set 3 (i64 v), .set 1 (.lst false sA (ac l)), .set 0 (i64 c)], [(9, .fix sA (.agg [i64 (aat l k).t, i64 (aat l k).w, i64 (aat l k).u]))]⟩
def L8b : MC := match m8 with | .seq _ (.seq _ (.seq _ (.seq _ (.seq _ (.seq _ (.seq _ (.seq _ (.seq _ (.seq _ (.seq (.seq _ (.block _ (.loop _ b))) _)))))))))) => b | _ => .skip
def S8b (l : List A3) (k : Nat) (g : List Int) (c v q : Int) (i : Nat) : St :=
  ⟨[.set 116 (i64 i), .set 115 (i64 l.length), .set 114 (.lst false sA (ac l)), .set 16 (.sl 113 [] 0 l.length), .set 13 (i64 q), .set 10 (i64 (sumW (wnt l k v) l.length)), .set 9 (.ptr 9 []), .set 0 (i64 c)], [(113, .grow .sc (ns g)), (9, .fix sA (.agg [i64 (aat l k).t, i64 (aat l k).w, i64 (aat l k).u]))]⟩
theorem step8 {l : List A3} {k : Nat} {c v : Int} (hv : VA l) (hvv : 0 ≤ v ∧ v ≤ 1099511627776) {i : Nat} (hi : i < l.length) :
    contK [.slot 0, .slot 1, .slot 3, .slot 9, .slot 10, .slot 51, .slot 52, .slot 53, .key 9] (evC gl (call gl tab n) L8 (S8 l k c v i)) = some (S8 l k c v (i + 1)) := by
  have hn := hv.n
  have hx := ac_at hi
  have hw := wnt_valid hv (k := k) hvv
  have b := sumW_bd hw (show i ≤ (wnt l k v).length by rw [wnt_length]; omega)
  have o := (hv.ok i hi).w
  have e := @sumW_wnt l v k i hi
  simp (disch := ((fail_if_success (intro _)); omega)) only [go_sem, simprocAttr, ↓reduceIte, xx, L8, m8, S8, ac_length, hx, e]
theorem step8b {l : List A3} {k : Nat} {g : List Int} {c v q : Int} (hn : l.length ≤ 1000) {i : Nat} (hi : i < l.length) (hne : (aat l i).t ≠ q) :
    contK [.slot 0, .slot 9, .slot 10, .slot 13, .slot 16, .slot 114, .slot 115, .slot 116, .key 9, .key 113] (evC gl (call gl tab n) L8b (S8b l k g c v q i)) = some (S8b l k g c v q (i + 1)) := by
  have hx := ac_at hi
  have e : ((aat l i).t == q) = false := by rw [beq_eq_false_iff_ne]; exact hne
  simp (disch := ((fail_if_success (intro _)); omega)) only [go_sem, simprocAttr, ↓reduceIte, xx, L8b, m8, S8b, ac_length, hx, e]
theorem rem_ok {w : Int} (hw : 0 ≤ w) {N : Nat} : Int.tmod w N = ((w.toNat % N : Nat) : Int) := by
  obtain ⟨a, rfl⟩ := Int.eq_ofNat_of_zero_le hw
  rw [Int.toNat_natCast]; exact Int.ofNat_tmod a N
set_option maxHeartbeats 4000000 in
theorem law8 (hn : 20 ≤ n) (c9 : call gl tab n 9 [] [] = some (.bool true, [], [])) (ar : List AV) (h : HasKds [.int .i64, .sl kA, .int .u8, .int .i64] ar) : call gl tab (n + 1) 8 ar [] = some (.bool true, [], []) := by
  simp only [HasKds] at h
  obtain ⟨_, _, rfl, ⟨c, rfl, _⟩, _, _, rfl, ⟨d1, rfl, hd1, h1⟩, _, _, rfl, ⟨w, rfl, hw1, hw2⟩, _, _, rfl, ⟨v, rfl, _⟩, rfl⟩ := h
  obtain ⟨l, rfl⟩ := kd_ac h1
  have ht := kd_acT8 h1
  have hw1 : (0 : Int) ≤ w := hw1
  have hw2 : w ≤ 255 := hw2
  rw [kA_sh]
  by_cases hl0 : l.length = 0
  · rw [call_go (fd := fd8) rfl]
    simp (disch := ((fail_if_success (intro _)); omega)) only [go_sem, simprocAttr, ↓reduceIte, xx, fd8, m8, ac_length, c9, hl0]
  by_cases hl : l.length ≤ 60
  case neg =>
    rw [call_go (fd := fd8) rfl]
    simp (disch := ((fail_if_success (intro _)); omega)) only [go_sem, simprocAttr, ↓reduceIte, xx, fd8, m8, ac_length, c9]
  obtain ⟨b2, hb2, c21⟩ := @raccounts_at gl n (by omega) false sA l (.inr rfl) (by omega)
  have c12 := @capacity_at gl n (by omega) c
  have c12' := @capacity_at gl n (by omega) v
  cases b2 with
  | false =>
    rw [call_go (fd := fd8) rfl]
    simp (disch := ((fail_if_success (intro _)); omega)) only [go_sem, simprocAttr, ↓reduceIte, xx, fd8, m8, ac_length, c9, c21]
  | true =>
    have hv := hb2.1 rfl
    cases hc : (decide (0 ≤ c) && decide (c ≤ 1099511627776)) with
    | false =>
      rw [hc] at c12
      rw [call_go (fd := fd8) rfl]
      simp (disch := ((fail_if_success (intro _)); omega)) only [go_sem, simprocAttr, ↓reduceIte, xx, fd8, m8, ac_length, c9, c21, c12]
    | true =>
      rw [hc] at c12
      simp only [Bool.and_eq_true, decide_eq_true_eq] at hc
      cases hvv : (decide (0 ≤ v) && decide (v ≤ 1099511627776)) with
      | false =>
        rw [hvv] at c12'
        rw [call_go (fd := fd8) rfl]
        simp (disch := ((fail_if_success (intro _)); omega)) only [go_sem, simprocAttr, ↓reduceIte, xx, fd8, m8, ac_length, c9, c21, c12, c12']
      | true =>
        rw [hvv] at c12'
        simp only [Bool.and_eq_true, decide_eq_true_eq] at hvv
        have hrem := @rem_ok w hw1 l.length
        have hkl : w.toNat % l.length < l.length := Nat.mod_lt _ (by omega)
        generalize w.toNat % l.length = k at *
        have hx := ac_at hkl
        have hn1 := hv.n
        obtain ⟨k', b, hk', hp, hb1, hb0, c40, c43⟩ := @places gl (n - 1) (by omega) l hv ht (aat l k).t (by have := ten_pos hv hkl; have := ht k hkl; omega)
        obtain rfl : b = true := by
          cases b
          · exact absurd ⟨k, hkl, rfl⟩ (hb0 rfl)
          · rfl
        obtain rfl : k' = k := by
          obtain ⟨a1, a2⟩ := hb1 rfl
          rcases Nat.lt_trichotomy k' k with h3 | h3 | h3
          · have := ten_lt hv h3 hkl; omega
          · exact h3
          · have := ten_lt hv h3 a1; omega
        simp only [if_true] at c43
        have hws := wnt_valid hv (k := k') hvv
        have hu := (hv.ok k' hkl).u
        have hs := sumU_bd hv (Nat.le_refl l.length)
        have c27 := @total_at gl n (by omega) false sA l (.inr rfl) hv
        obtain ⟨m, hm⟩ := lv_exists hws hc
        have pb := fun i hi => @part_bd l c m v k' hv hkl hc hvv hm i hi
        have pbk := pb k' hkl
        have b3 := sumW_bd hws (Nat.le_refl _)
        rw [wnt_length] at b3
        have w0 : ¬ sumW (wnt l k' v) l.length = 0 := by omega
        have d1 : Int.tdiv c (sumW (wnt l k' v) l.length) = c / sumW (wnt l k' v) l.length := Int.tdiv_eq_ediv_of_nonneg hc.1
        have q1 : 0 ≤ c / sumW (wnt l k' v) l.length := Int.ediv_nonneg hc.1 (by omega)
        have q2 : c / sumW (wnt l k' v) l.length ≤ c := Int.ediv_le_self _ hc.1
        have l0 : ¬ (l.length : Int) = 0 := by omega
        have hst := fun i hi => @step8 gl n l k' c v hv hvv i hi
        simp only [L8, m8] at hst
        by_cases hle : sumU l l.length + v ≤ c
        · have c29 := @victim_no gl n (by omega) l hv (aat l k').t c v k' true (fun _ _ => hle) c40
          rw [show verr l c v true = 0 by unfold verr; rw [if_pos rfl, if_neg (by omega)]] at c29
          rw [call_go (fd := fd8) rfl]
          simp (disch := ((fail_if_success (intro _)); omega)) only [go_sem, simprocAttr, ↓reduceIte, xx, fd8, m8, ac_length, c9, c21, c12, c12', binInt, l0, hrem, hx]
          rw [iter_to (S8 l k' c v) l.length (by unfold LF; omega)]
          · simp (disch := ((fail_if_success (intro _)); omega)) only [go_sem, simprocAttr, ↓reduceIte, xx, S8, ac_length, c29, binInt, w0, d1, c9, c27]
          · simp (disch := ((fail_if_success (intro _)); omega)) only [go_sem, simprocAttr, ↓reduceIte, xx, S8, ac_length, sumW]
          · exact hst
          · simp (disch := ((fail_if_success (intro _)); omega)) only [go_sem, simprocAttr, ↓reduceIte, xx, S8, ac_length]
        · have c29 := @victim_all gl n (by omega) l hv (aat l k').t c v k' hc hvv hkl m hm (by omega) c40
          by_cases hg : nat (gets (wnt l k' v) m c l.length) k' < (aat l k').u + v
          · rw [if_pos hg] at c29
            have ho := @over_part l c m v k' hv hkl hc hvv hm hg
            rw [call_go (fd := fd8) rfl]
            simp (disch := ((fail_if_success (intro _)); omega)) only [go_sem, simprocAttr, ↓reduceIte, xx, fd8, m8, ac_length, c9, c21, c12, c12', binInt, l0, hrem, hx]
            rw [iter_to (S8 l k' c v) l.length (by unfold LF; omega)]
            · simp (disch := ((fail_if_success (intro _)); omega)) only [go_sem, simprocAttr, ↓reduceIte, xx, S8, ac_length, c29, binInt, w0, d1, c9, c27]
            · simp (disch := ((fail_if_success (intro _)); omega)) only [go_sem, simprocAttr, ↓reduceIte, xx, S8, ac_length, sumW]
            · exact hst
            · simp (disch := ((fail_if_success (intro _)); omega)) only [go_sem, simprocAttr, ↓reduceIte, xx, S8, ac_length]
          · rw [if_neg hg] at c29
            obtain ⟨j, hj, hjk, f1, f2, f3⟩ := @found l c m v k' hv hkl hc hvv hm (by omega) hg
            rw [f1] at c29
            have pbj := pb j hj
            have c31 := @rwants_at gl n (by omega) l hv k' hkl (aat l k').t v rfl hvv
            have c16 := @fair_at gl n (by omega) false sS (wnt l k' v) (.inr rfl) hws c hc m hm
            have hgb := fun i hi => @get1_nn (wnt l k' v) hws c m hm i hi
            rw [wnt_length] at c16 hgb
            have hgl := gets_length (wnt l k' v) m c l.length
            have hne : ∀ i, i < j → (aat l i).t ≠ (aat l j).t := fun i hi => by have := ten_lt hv hi hj; omega
            have hjne : ((aat l j).t == (aat l k').t) = false := by
              rw [beq_eq_false_iff_ne]; intro h'
              rcases Nat.lt_or_gt_of_ne hjk with h3 | h3
              · have := ten_lt hv h3 hkl; omega
              · have := ten_lt hv h3 hj; omega
            have hjne2 : ((aat l j).t != (aat l k').t) = true := by rw [bne, hjne]; rfl
            have hj0 : ((aat l j).t == 0) = false := by rw [beq_eq_false_iff_ne]; have := ten_pos hv hj; omega
            generalize gets (wnt l k' v) m c l.length = g at *
            have hgj := hgb j hj
            have hst2 := fun i hi => @step8b gl n l k' g c v (aat l j).t hn1 i (by omega) (hne i hi)
            have hxj := ac_at hj
            have hyj := ns_at (show j < g.length by omega)
            have ouj := (hv.ok j hj).u
            simp only [L8b, m8] at hst2
            rw [call_go (fd := fd8) rfl]
            simp (disch := ((fail_if_success (intro _)); omega)) only [go_sem, simprocAttr, ↓reduceIte, xx, fd8, m8, ac_length, c9, c21, c12, c12', binInt, l0, hrem, hx]
            rw [iter_to (S8 l k' c v) l.length (by unfold LF; omega)]
            · simp (disch := ((fail_if_success (intro _)); omega)) only [go_sem, simprocAttr, ↓reduceIte, xx, S8, ac_length, c29, binInt, w0, d1, c9, c27, hj0, c31, c16]
              rw [iter_to (S8b l k' g c v (aat l j).t) j (by unfold LF; omega)]
              · simp (disch := ((fail_if_success (intro _)); omega)) only [go_sem, simprocAttr, ↓reduceIte, xx, S8b, ac_length, hxj, hyj, ns_length, hgl, c9, hjne2, binInt, w0, d1]
              · simp (disch := ((fail_if_success (intro _)); omega)) only [go_sem, simprocAttr, ↓reduceIte, xx, S8b, ac_length]
              · exact hst2
              · simp (disch := ((fail_if_success (intro _)); omega)) only [go_sem, simprocAttr, ↓reduceIte, xx, S8b, ac_length, hxj, hyj, ns_length, hgl, c9, hjne2, binInt, w0, d1]
            · simp (disch := ((fail_if_success (intro _)); omega)) only [go_sem, simprocAttr, ↓reduceIte, xx, S8, ac_length, sumW]
            · exact hst
            · simp (disch := ((fail_if_success (intro _)); omega)) only [go_sem, simprocAttr, ↓reduceIte, xx, S8, ac_length]
end Go.Proofs.S16
