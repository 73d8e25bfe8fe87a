/-
  Chapter 16: divisions are fair. No condition.
-/
import Derived.Test.YtjkgmpckddolfaaW16n
import Derived.Test.YtjkgmpckddolfaaW16k
set_option linter.unusedVariables false
set_option linter.unusedSimpArgs false
set_option linter.unusedSectionVars false
namespace Go.Proofs.S16
open Go Go.Ev Go.Proofs
set_option linter.unusedSimpArgs false
set_option linter.unusedVariables false
variable {gl : Gl} {n : Nat}
def L4 : MC := match m4 with | .seq _ (.seq _ (.seq _ (.seq _ (.seq _ (.seq (.seq _ (.block _ (.loop _ b))) _))))) => b | _ => .skip
def L4b : MC := match m4 with | .seq _ (.seq _ (.seq _ (.seq _ (.seq _ (.seq _ (.seq (.seq _ (.block _ (.loop _ b))) _)))))) => b | _ => .skip
def L4c : MC := match m4 with | .seq _ (.seq _ (.seq _ (.seq _ (.seq _ (.seq _ (.seq (.seq _ (.block _ (.loop _ (.seq _ (.seq _ (.seq (.block _ (.seq _ (.seq _ (.seq _ (.block _ (.loop _ b)))))) _)))))) _)))))) => b | _ => .skip
def S4 (l : List S2) (g : List Int) (c : Int) (i : Nat) : St :=
  ⟨[.set 46 (i64 i), .set 45 (i64 l.length), .set 44 (.lst false sS (sh l)), .set 8 (i64 (sumW l i)), .set 7 (i64 (sumX l i)), .set 6 (i64 (sumG g i)), .set 5 (.sl 31 [] 0 l.length), .set 1 (.lst false sS (sh l)), .set 0 (i64 c)], [(31, .grow .sc (ns g))]⟩
def S4b (l : List S2) (g : List Int) (c : Int) (i : Nat) : St :=
  ⟨[.set 82 (i64 i), .set 81 (i64 l.length), .set 80 (.lst false sS (sh l)), .set 8 (i64 (sumW l l.length)), .set 7 (i64 (sumX l l.length)), .set 6 (i64 (sumG g l.length)), .set 5 (.sl 31 [] 0 l.length), .set 1 (.lst false sS (sh l)), .set 0 (i64 c)], [(31, .grow .sc (ns g))]⟩
def S4c (l : List S2) (g : List Int) (c : Int) (i k : Nat) : St :=
  ⟨[.set 109 (i64 k), .set 108 (i64 l.length), .set 107 (.lst false sS (sh l)), .set 82 (i64 i), .set 81 (i64 l.length), .set 80 (.lst false sS (sh l)), .set 12 (.ptr 12 []), .set 11 (i64 i), .set 8 (i64 (sumW l l.length)), .set 7 (i64 (sumX l l.length)), .set 6 (i64 (sumG g l.length)), .set 5 (.sl 31 [] 0 l.length), .set 1 (.lst false sS (sh l)), .set 0 (i64 c)],
    [(31, .grow .sc (ns g)), (12, .fix sS (.agg [i64 (sat l i).w, i64 (sat l i).x]))]⟩
section
variable {l : List S2} {g : List Int} {c : Int} (hv : VS l) (hg : g.length = l.length) (ok : ∀ i, i < l.length → GOk (sat l i) (nat g i))
include hv hg ok
set_option maxHeartbeats 1000000 in
theorem step4 {i : Nat} (hi : i < l.length) : contK [.slot 0, .slot 1, .slot 5, .slot 6, .slot 7, .slot 8, .slot 44, .slot 45, .slot 46, .key 31] (evC gl (call gl tab n) L4 (S4 l g c i)) = some (S4 l g c (i + 1)) := by
  have hn := hv.n
  have hx := sh_at hi
  have hy := ns_at (show i < g.length by omega)
  have b1 := sumG_bd hv (show i ≤ l.length by omega) (fun j hj => ok j (by omega))
  have b2 := sumX_bd hv (show i ≤ l.length by omega)
  have b3 := sumW_bd hv (show i ≤ l.length by omega)
  obtain ⟨g1, g2⟩ := ok i hi
  obtain ⟨⟨s1, s2⟩, ⟨s3, s4⟩⟩ := hv.ok i hi
  simp (disch := ((fail_if_success (intro _)); omega)) only [go_sem, simprocAttr, ↓reduceIte, xx, L4, m4, S4, sh_length, ns_length, hg, hx, hy, sumG, sumX, sumW]
set_option maxHeartbeats 1000000 in
theorem step4c {i k : Nat} (hi : i < l.length) (hk : k < l.length) (he : nat g i < (sat l i).x → nat g k * (sat l i).w ≤ (nat g i + (sat l i).w) * (sat l k).w) :
    contK [.slot 0, .slot 1, .slot 5, .slot 6, .slot 7, .slot 8, .slot 11, .slot 12, .slot 80, .slot 81, .slot 82, .slot 107, .slot 108, .slot 109, .key 12, .key 31] (evC gl (call gl tab n) L4c (S4c l g c i k)) = some (S4c l g c i (k + 1)) := by
  have hn := hv.n
  have hx := sh_at hk
  have hy := ns_at (show i < g.length by omega)
  have hz := ns_at (show k < g.length by omega)
  obtain ⟨g1, g2⟩ := ok i hi
  obtain ⟨⟨s1, s2⟩, ⟨s3, s4⟩⟩ := hv.ok i hi
  obtain ⟨k1, k2⟩ := ok k hk
  obtain ⟨⟨t1, t2⟩, ⟨t3, t4⟩⟩ := hv.ok k hk
  by_cases h1 : nat g i < (sat l i).x
  · have he := he h1
    have a1 : 0 ≤ nat g k * (sat l i).w := Int.mul_nonneg k1 (by omega)
    have a2 : nat g k * (sat l i).w ≤ 1099511627776 * 1048576 := Int.le_trans (Int.mul_le_mul_of_nonneg_right (show nat g k ≤ 1099511627776 by omega) (by omega)) (Int.mul_le_mul_of_nonneg_left s2 (by decide))
    have a3 : 0 ≤ (nat g i + (sat l i).w) * (sat l k).w := Int.mul_nonneg (by omega) (by omega)
    have a4 : (nat g i + (sat l i).w) * (sat l k).w ≤ 1099512676352 * 1048576 := Int.le_trans (Int.mul_le_mul_of_nonneg_right (show nat g i + (sat l i).w ≤ 1099512676352 by omega) (by omega)) (Int.mul_le_mul_of_nonneg_left t2 (by decide))
    simp (disch := ((fail_if_success (intro _)); omega)) only [go_sem, simprocAttr, ↓reduceIte, xx, L4c, m4, S4c, sh_length, ns_length, hg, hx, hy, hz]
  · simp (disch := ((fail_if_success (intro _)); omega)) only [go_sem, simprocAttr, ↓reduceIte, xx, L4c, m4, S4c, sh_length, ns_length, hg, hx, hy, hz]
set_option maxHeartbeats 2000000 in
theorem step4b (hc : 0 ≤ c ∧ c ≤ 1099511627776) {i : Nat} (hi : i < l.length) (hp : nat g i < (sat l i).x → (sat l i).w * (c / sumW l l.length) ≤ nat g i)
    (he : ∀ k, k < l.length → nat g i < (sat l i).x → nat g k * (sat l i).w ≤ (nat g i + (sat l i).w) * (sat l k).w) :
    contK [.slot 0, .slot 1, .slot 5, .slot 6, .slot 7, .slot 8, .slot 80, .slot 81, .slot 82, .key 31] (evC gl (call gl tab n) L4b (S4b l g c i)) = some (S4b l g c (i + 1)) := by
  have hn := hv.n
  have hx := sh_at hi
  have hy := ns_at (show i < g.length by omega)
  have b3 := sumW_bd hv (Nat.le_refl l.length)
  obtain ⟨g1, g2⟩ := ok i hi
  obtain ⟨⟨s1, s2⟩, ⟨s3, s4⟩⟩ := hv.ok i hi
  have w0 : ¬ sumW l l.length = 0 := by omega
  have d1 : Int.tdiv c (sumW l l.length) = c / sumW l l.length := Int.tdiv_eq_ediv_of_nonneg hc.1
  have q1 : 0 ≤ c / sumW l l.length := Int.ediv_nonneg hc.1 (by omega)
  have q2 : c / sumW l l.length ≤ c := Int.ediv_le_self _ hc.1
  have q3 := mul_bd (hv.ok i hi) (show 0 ≤ c / sumW l l.length ∧ c / sumW l l.length ≤ 1099511627777 by omega)
  have hst := fun k hk => @step4c gl n l g c hv hg ok i k hi hk (he k hk)
  simp only [L4c, m4] at hst
  by_cases h1 : nat g i < (sat l i).x
  · have hp := hp h1
    simp (disch := ((fail_if_success (intro _)); omega)) only [go_sem, simprocAttr, ↓reduceIte, xx, L4b, m4, S4b, sh_length, ns_length, hg, hx, hy, binInt, w0, d1]
    rw [iter_to (S4c l g c i) l.length (by unfold LF; omega)]
    · simp (disch := ((fail_if_success (intro _)); omega)) only [go_sem, simprocAttr, ↓reduceIte, xx, S4c, sh_length, ns_length]
    · simp (disch := ((fail_if_success (intro _)); omega)) only [go_sem, simprocAttr, ↓reduceIte, xx, S4c, sh_length, ns_length]
    · exact hst
    · simp (disch := ((fail_if_success (intro _)); omega)) only [go_sem, simprocAttr, ↓reduceIte, xx, S4c, sh_length, ns_length]
  · simp (disch := ((fail_if_success (intro _)); omega)) only [go_sem, simprocAttr, ↓reduceIte, xx, L4b, m4, S4b, sh_length, ns_length, hg, hx, hy, binInt, w0, d1]
    rw [iter_to (S4c l g c i) l.length (by unfold LF; omega)]
    · simp (disch := ((fail_if_success (intro _)); omega)) only [go_sem, simprocAttr, ↓reduceIte, xx, S4c, sh_length, ns_length]
    · simp (disch := ((fail_if_success (intro _)); omega)) only [go_sem, simprocAttr, ↓reduceIte, xx, S4c, sh_length, ns_length]
    · exact hst
    · simp (disch := ((fail_if_success (intro _)); omega)) only [go_sem, simprocAttr, ↓reduceIte, xx, S4c, sh_length, ns_length]
end
set_option maxHeartbeats 2000000 in
theorem law4 (hn : 20 ≤ n) (c9 : call gl tab n 9 [] [] = some (.bool true, [], [])) (ar : List AV) (h : HasKds [.int .i64, .sl kS] ar) : call gl tab (n + 1) 4 ar [] = some (.bool true, [], []) := by
  simp only [HasKds] at h
  obtain ⟨_, _, rfl, ⟨c, rfl, _⟩, _, _, rfl, ⟨d1, rfl, hd1, h1⟩, rfl⟩ := h
  obtain ⟨l, rfl⟩ := kd_sh h1
  rw [kS_sh]
  by_cases hl : l.length ≤ 60
  case neg =>
    rw [call_go (fd := fd4) rfl]
    simp (disch := ((fail_if_success (intro _)); omega)) only [go_sem, simprocAttr, ↓reduceIte, xx, fd4, m4, sh_length, c9]
  obtain ⟨b2, hb2, c11⟩ := @rvalid_at gl n (by omega) false sS l (.inr rfl) (by omega)
  have c12 := @capacity_at gl n (by omega) c
  cases b2 with
  | false =>
    rw [call_go (fd := fd4) rfl]
    simp (disch := ((fail_if_success (intro _)); omega)) only [go_sem, simprocAttr, ↓reduceIte, xx, fd4, m4, sh_length, c9, c11]
  | true =>
    have hv := hb2.1 rfl
    cases hc : (decide (0 ≤ c) && decide (c ≤ 1099511627776)) with
    | false =>
      rw [hc] at c12
      rw [call_go (fd := fd4) rfl]
      simp (disch := ((fail_if_success (intro _)); omega)) only [go_sem, simprocAttr, ↓reduceIte, xx, fd4, m4, sh_length, c9, c11, c12]
    | true =>
      rw [hc] at c12
      simp only [Bool.and_eq_true, decide_eq_true_eq] at hc
      obtain ⟨m, hm⟩ := lv_exists hv hc
      have c16 := @fair_at gl n (by omega) false sS l (.inr rfl) hv c hc m hm
      obtain ⟨b3, hb3, c18⟩ := @explains_at gl n (by omega) l (gets l m c l.length) false false sS .sc c (.inr rfl) (.inr rfl) hv
      obtain rfl : b3 = true := hb3.2 (gets_exp hv hm)
      have ha := gets_length l m c l.length
      have ok := fun i hi => gets_ok hv hm (i := i) hi
      have hp := fun i hi hx => gets_part hv hc hm (i := i) hi hx
      have he := fun i hi k hk hx => gets_even hv hm (i := i) (k := k) hi hk hx
      have hsum := gets_sum hv hm
      have htk := ns_take' (gets l m c l.length)
      rw [ha] at htk
      generalize gets l m c l.length = g at *
      have s1 := fun i hi => @step4 gl n l g c hv ha ok i hi
      have s2 := fun i hi => @step4b gl n l g c hv ha ok hc i hi (hp i hi) (he i hi)
      have hmn : (if sumX l l.length < c then sumX l l.length else c) = mn c (sumX l l.length) := rfl
      simp only [L4, L4b, m4] at s1 s2
      rw [call_go (fd := fd4) rfl]
      simp (disch := ((fail_if_success (intro _)); omega)) only [go_sem, simprocAttr, ↓reduceIte, xx, fd4, m4, sh_length, c9, c11, c12, c16, ns_length, ha, htk, c18]
      rw [iter_to (S4 l g c) l.length (by unfold LF; omega)]
      · simp (disch := ((fail_if_success (intro _)); omega)) only [go_sem, simprocAttr, ↓reduceIte, xx, S4, sh_length, ns_length, ha]
        rw [iter_to (S4b l g c) l.length (by unfold LF; omega)]
        · simp (disch := ((fail_if_success (intro _)); omega)) only [go_sem, simprocAttr, ↓reduceIte, xx, S4b, sh_length, ns_length, ha, c9, foldO, minAV, hmn, hsum]
        · simp (disch := ((fail_if_success (intro _)); omega)) only [go_sem, simprocAttr, ↓reduceIte, xx, S4b, sh_length, ns_length]
        · exact s2
        · simp (disch := ((fail_if_success (intro _)); omega)) only [go_sem, simprocAttr, ↓reduceIte, xx, S4b, sh_length, ns_length]
      · simp (disch := ((fail_if_success (intro _)); omega)) only [go_sem, simprocAttr, ↓reduceIte, xx, S4, sh_length, ns_length, sumG, sumX, sumW]
      · exact s1
      · simp (disch := ((fail_if_success (intro _)); omega)) only [go_sem, simprocAttr, ↓reduceIte, xx, S4, sh_length, ns_length]
end Go.Proofs.S16
