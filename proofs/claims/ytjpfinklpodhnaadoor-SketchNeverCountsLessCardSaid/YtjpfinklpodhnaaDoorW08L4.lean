/-
  Chapter 8: a sketch never counts less. No condition.
-/
import Derived.Test.YtjpfinklpodhnaaDoorW08w7
set_option linter.unusedVariables false
set_option linter.unusedSimpArgs false
set_option linter.unusedSectionVars false
namespace Go.Proofs.S08
open Go Go.Ev Go.Proofs
set_option linter.unusedSimpArgs false
set_option linter.unusedVariables false
theorem vs_new {w : Nat} {s : Int} (hp : isP w) (hw : w ≤ 4096) (hs : 1 ≤ s ∧ s ≤ 1048576) : VS w s 0 (List.replicate (4 * w) 0) :=
  ⟨hp, by omega, hs, by omega, by rw [rep_len]; omega, fun i hi => by rw [rep_len] at hi; unfold CO; rw [nat_rep hi]; omega⟩
theorem j_new {w : Nat} (hw : 1 ≤ w) : J w (List.replicate (4 * w) 0) [] :=
  ⟨fun x _ r hr => nat_rep (pl_lt hw hr) 0, fun i hi => absurd hi (Nat.not_lt_zero _), fun i hi => absurd hi (Nat.not_lt_zero _), fun i hi => absurd hi (Nat.not_lt_zero _), fun i hi => absurd hi (Nat.not_lt_zero _)⟩
theorem shl1 (e : Nat) (he : e < 8) : binShift .shl .i64 1 (e : Int) = some (.int .i64 ((2 ^ e : Nat) : Int)) := by
  match e, he with
  | 0, _ => rfl
  | 1, _ => rfl
  | 2, _ => rfl
  | 3, _ => rfl
  | 4, _ => rfl
  | 5, _ => rfl
  | 6, _ => rfl
  | 7, _ => rfl
theorem rem8u (v : Nat) : binInt .rem .u8 (v : Int) 8 = some (.int .u8 ((v % 8 : Nat) : Int)) := by
  show (if (8 : Int) = 0 then none else some (AV.int .u8 ((v : Int).tmod 8))) = _
  rw [if_neg (by decide)]; rfl
variable {gl : Gl} {n : Nat} [Nonempty (H.GlK gl)] [Nonempty (H.GlR gl)]
set_option maxHeartbeats 4000000 in
theorem law4 (hn : 20 ≤ n) (ar : List AV) (h : HasKds [.int .u8, .int .u16, .sl .str] ar) : call gl tab (n + 1) 4 ar [] = some (.bool true, [], []) := by
  simp only [HasKds] at h
  obtain ⟨_, _, rfl, ⟨v, rfl, hv⟩, _, _, rfl, ⟨sm, rfl, hsm⟩, _, _, rfl, ⟨d2, rfl, hd2, h2⟩, rfl⟩ := h
  obtain ⟨keys, rfl, hkb⟩ := kd_ks h2
  rw [kS_sh]
  rw [ks_length] at hd2
  have hd4 : keys.length ≤ 9223372036854775807 := by simp [Go.maxLen] at hd2; omega
  have m1 : IntKind.min .u8 = 0 := rfl
  have m2 : IntKind.max .u8 = 255 := rfl
  have m3' : IntKind.min .u16 = 0 := rfl
  have m4' : IntKind.max .u16 = 65535 := rfl
  rw [m1, m2] at hv
  rw [m3', m4'] at hsm
  clear hd2
  obtain ⟨v, rfl⟩ : ∃ u : Nat, v = u := ⟨v.toNat, by omega⟩
  obtain ⟨sm, rfl⟩ : ∃ u : Nat, sm = u := ⟨sm.toNat, by omega⟩
  have he : v % 8 < 8 := Nat.mod_lt _ (by omega)
  have hrm := rem8u v
  have hsh := shl1 _ he
  have hcv : IntKind.wrap .i64 (sm : Int) = (sm : Int) := wrap_i64 (by omega) (by omega)
  have hpw : isP ((2 ^ (v % 8) : Nat) : Int) := ⟨v % 8, by omega, by rw [pw_lo (by omega)]⟩
  have hpb : 1 ≤ 2 ^ (v % 8) ∧ 2 ^ (v % 8) ≤ 128 := by
    generalize v % 8 = e at *
    match e, he with
    | 0, _ => decide
    | 1, _ => decide
    | 2, _ => decide
    | 3, _ => decide
    | 4, _ => decide
    | 5, _ => decide
    | 6, _ => decide
    | 7, _ => decide
  generalize 2 ^ (v % 8) = w at *
  generalize v % 8 = e at *
  obtain ⟨bp, hbp, c35⟩ := @power_at gl (n - 1) (by omega) (w : Int) (by omega)
  rw [hbp.2 hpw] at c35
  have c15 := @new_ok gl n (by omega) w (1 + (sm : Int)) (by omega) (by omega) c35
  have c11 := @sanity_at gl n _ (by omega)
  obtain ⟨b9, hb9, c9⟩ := @short_at gl n (by omega) keys hd4 hkb
  have hv0 := vs_new (w := w) (s := 1 + (sm : Int)) hpw (by omega) (by omega)
  have hj0 := j_new (w := w) hpb.1
  generalize List.replicate (4 * w) (0 : Int) = z at *
  cases b9 with
  | false =>
    rw [call_go (fd := fd4) rfl]
    simp (disch := ((fail_if_success (intro _)); omega)) only [go_sem, simprocAttr, ↓reduceIte, ↓Nat.reduceEqDiff, xx, fd4, m4, c9, hrm, hsh, hcv, c15, c11]
  | true =>
  have hfew := hb9.1 rfl
  have hkn := hfew.2
  obtain ⟨st, ⟨a, l0, cs, hv, hj, hcl, rfl⟩, hit⟩ := iter_inv (f := evC gl (call gl tab n) L4) (ks := k4) (s0 := S4 keys w (1 + (sm : Int)) 0 z [] 0) (fun k st => ∃ a l0 cs, VS w (1 + (sm : Int)) a l0 ∧ J w l0 cs ∧ cs.length ≤ k ∧ st = S4 keys w (1 + (sm : Int)) a l0 cs k) keys.length (by unfold LF; omega)
    ⟨0, z, [], hv0, hj0, Nat.le_refl _, rfl⟩
    (fun k st hk ⟨a, l0, cs, hv, hj, hcl, he⟩ => by
      subst he
      obtain ⟨a', l0', cs', g1, g2, g3, g4⟩ := @step4 gl n _ _ (by omega) keys hfew w (1 + (sm : Int)) a l0 hv cs hj k hk hcl
      exact ⟨_, g4, a', l0', cs', g1, g2, g3, rfl⟩)
    (fun st ⟨a, l0, cs, hv, hj, hcl, he⟩ => by
      subst he
      rw [S4]
      simp (disch := ((fail_if_success (intro _)); omega)) only [go_sem, simprocAttr, ↓reduceIte, ↓Nat.reduceEqDiff, xx, L4, m4, ks_length])
  have hsk := hv.sk
  have hst := fun i hi => @step4d gl n _ _ (by omega) w hsk.kw (1 + (sm : Int)) a l0 hsk.kl cs (by omega) hj i hi
  simp only [L4, m4] at hit
  simp only [L4d, m4] at hst
  rw [call_go (fd := fd4) rfl]
  simp (disch := ((fail_if_success (intro _)); omega)) only [go_sem, simprocAttr, ↓reduceIte, ↓Nat.reduceEqDiff, xx, fd4, m4, c9, hrm, hsh, hcv, c15]
  rw [hit _ (by rw [S4]; simp (disch := ((fail_if_success (intro _)); omega)) only [go_sem, simprocAttr, ↓reduceIte, ↓Nat.reduceEqDiff, xx, ct, List.map_nil, List.length_nil])]
  rw [S4]
  simp (disch := ((fail_if_success (intro _)); omega)) only [go_sem, simprocAttr, ↓reduceIte, ↓Nat.reduceEqDiff, xx, ks_length]
  rw [iter_to (S4d w (1 + (sm : Int)) a l0 cs) cs.length (by unfold LF; omega)]
  · rw [S4d]; simp (disch := ((fail_if_success (intro _)); omega)) only [go_sem, simprocAttr, ↓reduceIte, ↓Nat.reduceEqDiff, xx, ct_length, c11]
  · rw [S4d]; simp (disch := ((fail_if_success (intro _)); omega)) only [go_sem, simprocAttr, ↓reduceIte, ↓Nat.reduceEqDiff, xx, ct_length]
  · exact hst
  · rw [S4d]; simp (disch := ((fail_if_success (intro _)); omega)) only [go_sem, simprocAttr, ↓reduceIte, ↓Nat.reduceEqDiff, xx, ct_length]
end Go.Proofs.S08
