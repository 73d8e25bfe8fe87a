/-
  Chapter 33: a frame is received once. No condition.
-/
import Derived.Test.YtoddlpnnmoaogaaW33o
import Derived.Test.YtoddlpnnmoaogaaW33c
set_option linter.unusedVariables false
set_option linter.unusedSimpArgs false
set_option linter.unusedSectionVars false
namespace Go.Proofs.S33
open Go Go.Ev Go.Proofs
set_option linter.unusedSimpArgs false
set_option linter.unusedVariables false
variable {gl : Gl} {n : Nat}
abbrev kF : Kd := .st [.bool, .int .i64, .str]
theorem kd_fm : ∀ {l : List AV}, (∀ x ∈ l, HasKd kF x) → ∃ r : List Fm, l = fm r ∧ ∀ i, i < r.length → (fat r i).b.length ≤ 9223372036854775807
  | [], _ => ⟨[], rfl, fun i hi => by simp at hi⟩
  | x :: l, h => by
    obtain ⟨k, rfl, hx⟩ := h x (by simp)
    simp only [HasKds] at hx
    obtain ⟨_, _, rfl, ⟨a, rfl⟩, _, _, rfl, ⟨b, rfl, _⟩, _, _, rfl, ⟨c, rfl, hc⟩, rfl⟩ := hx
    obtain ⟨r, rfl, hr⟩ := kd_fm (l := l) fun y hy => h y (by simp [hy])
    refine ⟨⟨a, b, c⟩ :: r, rfl, fun i hi => ?_⟩
    cases i with
    | zero => simp [fat]; simp [Go.maxLen] at hc; omega
    | succ i => exact hr i (by simpa using hi)
theorem kF_sh : kF.sh = sF := rfl
theorem app_nil (l : List Fm) : ([] : List AV) ++ fm l = fm l := rfl
def L3 : MC := match m3 with | .seq _ (.seq _ (.seq (.seq _ (.block _ (.loop _ b))) _)) => b | _ => .skip
def S3 (nx : Int) (l : List Fm) (x : Fm) (i : Nat) : St :=
  ⟨[.set 5 (i64 i), .set 3 (.ptr 3 []), .set 2 (.ptr 2 [])], [(3, .fix (.st [.sc, .sc, .sc]) (.agg [.bool x.s, i64 x.q, .str x.b])), (2, .fix (.st [.sc, .sc]) (.agg [i64 nx, .lst false sF (fm l)]))]⟩
set_option maxHeartbeats 4000000 in
theorem law3 (hn : 20 ≤ n) (c7 : call gl tab n 7 [] [] = some (.bool true, [], [])) (ar : List AV) (h : HasKds [.st [.int .i64, .sl kF], kF] ar) : call gl tab (n + 1) 3 ar [] = some (.bool true, [], []) := by
  simp only [HasKds] at h
  obtain ⟨_, _, rfl, ⟨_, rfl, _, _, rfl, ⟨nx, rfl, _⟩, _, _, rfl, ⟨d1, rfl, hd1, h1⟩, rfl⟩, _, _, rfl, ⟨_, rfl, _, _, rfl, ⟨s, rfl⟩, _, _, rfl, ⟨q, rfl, _⟩, _, _, rfl, ⟨b, rfl, hbl⟩, rfl⟩, rfl⟩ := h
  obtain ⟨l, rfl, hbs⟩ := kd_fm h1
  rw [kF_sh]
  rw [fm_length] at hd1
  have hd2 : l.length ≤ 9223372036854775807 := by simp [Go.maxLen] at hd1; omega
  have hbl2 : b.length ≤ 9223372036854775807 := by simp [Go.maxLen] at hbl; omega
  clear hd1 hbl
  by_cases g1 : l.length ≤ 64
  case neg =>
    rw [call_go (fd := fd3) rfl]
    simp (disch := ((fail_if_success (intro _)); omega)) only [go_sem, simprocAttr, ↓reduceIte, xx, fd3, m3, fm_length, c7]
  by_cases g2 : b.length ≤ 100
  case neg =>
    rw [call_go (fd := fd3) rfl]
    simp (disch := ((fail_if_success (intro _)); omega)) only [go_sem, simprocAttr, ↓reduceIte, xx, fd3, m3, fm_length, c7]
  obtain ⟨vb, hvb, c6⟩ := @validIn_at gl n (by omega) false sF nx l (.inr rfl) (by omega) hbs
  cases vb with
  | false =>
    rw [call_go (fd := fd3) rfl]
    simp (disch := ((fail_if_success (intro _)); omega)) only [go_sem, simprocAttr, ↓reduceIte, xx, fd3, m3, fm_length, c7, c6]
  | true =>
    have hv := hvb.1 rfl
    have hs : ∀ i, i < l.length → (fat l i).b.length ≤ 100 → contK [.slot 2, .slot 3, .slot 5, .key 2, .key 3] (evC gl (call gl tab n) L3 (S3 nx l ⟨s, q, b⟩ i)) = some (S3 nx l ⟨s, q, b⟩ (i + 1)) := fun i hi hb => by
      have hx := fm_at hi
      simp (disch := ((fail_if_success (intro _)); omega)) only [go_sem, simprocAttr, ↓reduceIte, xx, L3, m3, S3, fm_length, hx]
    have hf : ∀ i, i < l.length → ¬ (fat l i).b.length ≤ 100 → out1 4 (evC gl (call gl tab n) L3 (S3 nx l ⟨s, q, b⟩ i)) = some (.ret, .bool true) := fun i hi hb => by
      have hx := fm_at hi
      have := hbs i hi
      simp (disch := ((fail_if_success (intro _)); omega)) only [go_sem, simprocAttr, ↓reduceIte, xx, L3, m3, S3, fm_length, hx, c7]
    rcases first_fail (fun i => (fat l i).b.length ≤ 100) l.length with ha | ⟨k, hk, hb', he⟩
    · have hs2 := fun i hi => hs i hi (ha i hi)
      simp only [L3, m3] at hs2
      obtain ⟨nx', l', o, f', f'', m', m'', e, hro, hm', hm'', c8⟩ := @rcv_at gl n (by omega) false sF nx l (.inr rfl) hv ⟨s, q, b⟩ (by simp only; omega)
      obtain ⟨hv', hle⟩ := ro_vi hv (by simp only; omega) hro
      have hn' := hv'.n
      have c9 := @sameF_at gl n (by omega) false false sF sF l (.inr rfl) (.inr rfl) (by omega)
      obtain ⟨vb2, hvb2, c6'⟩ := @validIn_at gl n (by omega) f' m' nx' l' hm' (by omega) (fun i hi => by have := (hv'.ok i hi).b; omega)
      rw [hvb2.2 hv'] at c6'
      have happ : fm l = fm l := rfl
      have hL : l.length ≤ LIM := by unfold LIM; omega
      have hft := fm_take' l
      rw [call_go (fd := fd3) rfl]
      simp (disch := ((fail_if_success (intro _)); omega)) only [go_sem, simprocAttr, ↓reduceIte, xx, fd3, m3, fm_length, c6]
      rw [iter_to (S3 nx l ⟨s, q, b⟩) l.length (by unfold LF; omega)]
      rotate_left
      · simp (disch := ((fail_if_success (intro _)); omega)) only [go_sem, simprocAttr, ↓reduceIte, xx, S3, fm_length]
      · exact hs2
      · simp (disch := ((fail_if_success (intro _)); omega)) only [go_sem, simprocAttr, ↓reduceIte, xx, S3, fm_length]
      by_cases he : e = 0
      · subst he
        have c8' := @again_at gl n (by omega) f' m' nx nx' l l' o hv ⟨s, q, b⟩ (by simp only; omega) hro hm'
        have c10 := @sameIn_at gl n (by omega) f' f' m' m' nx' l' hm' hm' (by omega)
        simp only at c8 c8'
        simp (disch := ((fail_if_success (intro _)); omega)) only [go_sem, simprocAttr, ↓reduceIte, xx, S3, fm_length, c8, c9, c6', c8', c10, c7, app_nil, hL, hft]
      · have hoe : o = [] ∧ l' = l ∧ nx' = nx ∧ e = 1 := by
          cases hro with
          | arg h => exact ⟨rfl, rfl, rfl, rfl⟩
          | _ => exact absurd rfl he
        obtain ⟨rfl, rfl, rfl, rfl⟩ := hoe
        have c10 := @sameIn_at gl n (by omega) f' false m' sF nx' l' hm' (.inr rfl) (by omega)
        simp only at c8
        simp (disch := ((fail_if_success (intro _)); omega)) only [go_sem, simprocAttr, ↓reduceIte, xx, S3, fm_length, c8, c9, c6', c10, c7, app_nil, hL, hft]
    · obtain ⟨st, hst, hg⟩ := out1_get (hf k hk he)
      have hs2 := fun i (hi : i < k) => hs i (by omega) (hb' i hi)
      simp only [L3, m3] at hs2 hst
      rw [call_go (fd := fd3) rfl]
      simp (disch := ((fail_if_success (intro _)); omega)) only [go_sem, simprocAttr, ↓reduceIte, xx, fd3, m3, fm_length, c6]
      rw [iter_to (S3 nx l ⟨s, q, b⟩) k (by unfold LF; omega), hst]
      · simp (disch := ((fail_if_success (intro _)); omega)) only [go_sem, simprocAttr, ↓reduceIte, xx, hg]
      · simp (disch := ((fail_if_success (intro _)); omega)) only [go_sem, simprocAttr, ↓reduceIte, xx, S3, fm_length]
      · exact hs2
      · rw [hst]; rfl
end Go.Proofs.S33
