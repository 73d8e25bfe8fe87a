/-
  Chapter 8: powers of two, as specified. No condition.
-/
import Derived.Test.YtjpfinklpodhnaaDoorW08FF
import Derived.Test.YtjpfinklpodhnaaDoorW08II
set_option linter.unusedVariables false
set_option linter.unusedSimpArgs false
set_option linter.unusedSectionVars false
namespace Go.Proofs.S08
open Go Go.Ev Go.Proofs
set_option linter.unusedSimpArgs false
set_option linter.unusedVariables false
section
variable {gl : Gl} {n : Nat}
def pw (i : Nat) : Int := if i < 63 then 2 ^ i else -9223372036854775808
theorem pw_lo {i : Nat} (h : i < 63) : pw i = ((2 ^ i : Nat) : Int) := by rw [pw, if_pos h]; simp
theorem pw_bd {i : Nat} (h : i < 63) : 1 ≤ pw i ∧ pw i ≤ 4611686018427387904 := by
  rw [pw_lo h]
  have h1 : 2 ^ i ≤ 2 ^ 62 := Nat.pow_le_pow_right (by omega) (by omega)
  have h2 : 0 < 2 ^ i := Nat.pow_pos (by omega)
  have h3 : (2 : Nat) ^ 62 = 4611686018427387904 := by decide
  omega
theorem pw_mul {i : Nat} (h : i < 63) : IntKind.wrap .i64 (pw i * 2) = pw (i + 1) := by
  by_cases h2 : i + 1 < 63
  · have h3 := pw_bd h2
    have h4 : pw i * 2 = pw (i + 1) := by rw [pw_lo h, pw_lo h2, Nat.pow_succ]; omega
    rw [h4, wrap_i64 (by omega) (by omega)]
  · obtain rfl : i = 62 := by omega
    decide
theorem pw_mono {i j : Nat} (hij : i ≤ j) (hj : j < 63) : pw i ≤ pw j := by
  rw [pw_lo (by omega), pw_lo hj]
  have : 2 ^ i ≤ 2 ^ j := Nat.pow_le_pow_right (by omega) hij
  omega
def isP (w : Int) : Prop := ∃ i, i < 63 ∧ w = pw i
def L30 : MC := match m30 with | .seq _ (.seq (.seq _ (.block _ (.loop _ b))) _) => b | _ => .skip
def S30 (w : Int) (i : Nat) : St := ⟨[.set 3 (i64 (pw i)), .set 0 (i64 w)], []⟩
theorem rpower_at (h : 1 ≤ n) (w : Int) : ∃ b : Bool, (b = true ↔ isP w) ∧ call gl tab n 30 [i64 w] [] = some (.bool b, [], []) := by
  obtain ⟨d, rfl⟩ := Nat.exists_eq_add_of_le' h
  have h63 : pw 63 = -9223372036854775808 := by decide
  obtain ⟨k, hk, hb, he, hit⟩ := iter_fst2 (f := evC gl (call gl tab d) L30) (ks := [.slot 0, .slot 3]) (S30 w) 63 (fun i => pw i ≤ w ∧ pw i ≠ w) (by unfold LF; omega)
    (fun i hi _ ⟨h1, h2⟩ => by
      have hp := pw_bd hi
      have hm := pw_mul hi
      have h3 : (pw i == w) = false := by rw [beq_eq_false_iff_ne]; exact h2
      rw [S30, S30, ← hm]
      generalize pw i = x at *
      simp (disch := ((fail_if_success (intro _)); omega)) only [go_sem, simprocAttr, ↓reduceIte, ↓Nat.reduceEqDiff, xx, L30, m30, h3])
    (fun i hi _ h1 => by
      have hp := pw_bd hi
      rw [S30]
      generalize pw i = x at *
      by_cases h2 : x ≤ w
      · have h3 : x = w := Classical.byContradiction fun h3 => h1 ⟨h2, h3⟩
        subst h3
        simp (disch := ((fail_if_success (intro _)); omega)) only [go_sem, simprocAttr, ↓reduceIte, ↓Nat.reduceEqDiff, xx, L30, m30, beq_self_eq_true]
      · simp (disch := ((fail_if_success (intro _)); omega)) only [go_sem, simprocAttr, ↓reduceIte, ↓Nat.reduceEqDiff, xx, L30, m30])
    (fun _ => by
      rw [S30, h63]
      simp (disch := ((fail_if_success (intro _)); omega)) only [go_sem, simprocAttr, ↓reduceIte, ↓Nat.reduceEqDiff, xx, L30, m30])
  simp only [L30, m30] at hit
  have h0 : pw 0 = 1 := by decide
  by_cases hk2 : k < 63
  · have hp := pw_bd hk2
    by_cases h2 : pw k = w
    · refine ⟨true, ⟨fun _ => ⟨k, hk2, h2.symm⟩, fun _ => rfl⟩, ?_⟩
      rw [call_go (fd := fd30) rfl]
      simp (disch := ((fail_if_success (intro _)); omega)) only [go_sem, simprocAttr, ↓reduceIte, ↓Nat.reduceEqDiff, xx, fd30, m30]
      rw [hit _ (by rw [S30, h0]; simp (disch := ((fail_if_success (intro _)); omega)) only [go_sem, simprocAttr, ↓reduceIte, ↓Nat.reduceEqDiff, xx])]
      rw [S30, h2]
      rw [h2] at hp
      simp (disch := ((fail_if_success (intro _)); omega)) only [go_sem, simprocAttr, ↓reduceIte, ↓Nat.reduceEqDiff, xx, beq_self_eq_true]
    · have h3 : w < pw k := by
        have := he hk2
        refine Int.not_le.1 fun h4 => this ⟨h4, h2⟩
      refine ⟨false, ⟨(fun h => by cases h), fun ⟨i, hi, e⟩ => ?_⟩, ?_⟩
      · exfalso
        by_cases h4 : i < k
        · exact (hb i h4).2 e.symm
        · have := pw_mono (show k ≤ i by omega) hi; omega
      · rw [call_go (fd := fd30) rfl]
        simp (disch := ((fail_if_success (intro _)); omega)) only [go_sem, simprocAttr, ↓reduceIte, ↓Nat.reduceEqDiff, xx, fd30, m30]
        rw [hit _ (by rw [S30, h0]; simp (disch := ((fail_if_success (intro _)); omega)) only [go_sem, simprocAttr, ↓reduceIte, ↓Nat.reduceEqDiff, xx])]
        rw [S30]
        generalize pw k = x at *
        simp (disch := ((fail_if_success (intro _)); omega)) only [go_sem, simprocAttr, ↓reduceIte, ↓Nat.reduceEqDiff, xx]
  · obtain rfl : k = 63 := by omega
    refine ⟨false, ⟨(fun h => by cases h), fun ⟨i, hi, e⟩ => absurd e.symm (hb i hi).2⟩, ?_⟩
    rw [call_go (fd := fd30) rfl]
    simp (disch := ((fail_if_success (intro _)); omega)) only [go_sem, simprocAttr, ↓reduceIte, ↓Nat.reduceEqDiff, xx, fd30, m30]
    rw [hit _ (by rw [S30, h0]; simp (disch := ((fail_if_success (intro _)); omega)) only [go_sem, simprocAttr, ↓reduceIte, ↓Nat.reduceEqDiff, xx])]
    rw [S30, h63]
    simp (disch := ((fail_if_success (intro _)); omega)) only [go_sem, simprocAttr, ↓reduceIte, ↓Nat.reduceEqDiff, xx]
end
end Go.Proofs.S08
namespace Go.Proofs.S08
open Go Go.Ev Go.Proofs
set_option linter.unusedSimpArgs false
set_option linter.unusedVariables false
section
variable {gl : Gl} {n : Nat}
theorem first_fail (p : Nat → Prop) (N : Nat) : (∀ i, i < N → p i) ∨ ∃ k, k < N ∧ (∀ j, j < k → p j) ∧ ¬ p k := by
  classical
  by_cases h : ∀ i, i < N → p i
  · exact .inl h
  · obtain ⟨h1, h2, h3⟩ := fst_spec p N
    refine .inr ⟨fstN p N, ?_⟩
    rcases Nat.lt_or_ge (fstN p N) N with h4 | h4
    · exact ⟨h4, h2, h3 h4⟩
    · exact absurd (fun i hi => h2 i (by omega)) h
def CO (a : Int) (l : List Int) (i : Nat) : Prop := 0 ≤ nat l i ∧ nat l i ≤ 15 ∧ nat l i ≤ a
/-- A valid sketch. -/
structure VS (w s a : Int) (l : List Int) : Prop where
  vp : isP w
  vw : w ≤ 4096
  vs : 1 ≤ s ∧ s ≤ 1048576
  va : 0 ≤ a ∧ a < s
  vn : (l.length : Int) = 4 * w
  vc : ∀ i, i < l.length → CO a l i
theorem isP_pos {w : Int} (h : isP w) : 1 ≤ w := by obtain ⟨i, hi, rfl⟩ := h; exact (pw_bd hi).1
def L10 : MC := match m10 with | .seq _ (.seq _ (.seq _ (.seq (.seq _ (.block _ (.loop _ b))) _))) => b | _ => .skip
def S10 (w s a : Int) (f : Bool) (l : List Int) (i : Nat) : St := ⟨[.set 4 (i64 i), .set 1 (.ptr 1 [])], [(1, .fix sK (.agg [i64 w, i64 s, i64 a, .lst f .sc (ns l)]))]⟩
set_option maxHeartbeats 4000000 in
theorem rvalid_at (h : 3 ≤ n) {f : Bool} {w s a : Int} {l : List Int} (hl : l.length < 2 ^ 20) :
    ∃ b : Bool, (b = true ↔ VS w s a l) ∧ call gl tab n 10 [.agg [i64 w, i64 s, i64 a, .lst f .sc (ns l)]] [] = some (.bool b, [], []) := by
  obtain ⟨d, rfl⟩ := Nat.exists_eq_add_of_le' h
  obtain ⟨bp, hbp, c30⟩ := @rpower_at gl (d + 2) (by omega) w
  rw [call_go (fd := fd10) rfl]
  cases bp with
  | false =>
    refine ⟨false, ⟨(fun h => by cases h), fun h => by have := hbp.2 h.vp; cases this⟩, ?_⟩
    simp (disch := ((fail_if_success (intro _)); omega)) only [go_sem, simprocAttr, ↓reduceIte, ↓Nat.reduceEqDiff, xx, fd10, m10, c30]
  | true =>
  have hP := hbp.1 rfl
  have hw1 := isP_pos hP
  by_cases h1 : w ≤ 4096
  case neg =>
    refine ⟨false, ⟨(fun h => by cases h), fun h => absurd h.vw h1⟩, ?_⟩
    simp (disch := ((fail_if_success (intro _)); omega)) only [go_sem, simprocAttr, ↓reduceIte, ↓Nat.reduceEqDiff, xx, fd10, m10, c30]
  by_cases h2 : 1 ≤ s
  case neg =>
    refine ⟨false, ⟨(fun h => by cases h), fun h => absurd h.vs.1 h2⟩, ?_⟩
    simp (disch := ((fail_if_success (intro _)); omega)) only [go_sem, simprocAttr, ↓reduceIte, ↓Nat.reduceEqDiff, xx, fd10, m10, c30]
  by_cases h3 : s ≤ 1048576
  case neg =>
    refine ⟨false, ⟨(fun h => by cases h), fun h => absurd h.vs.2 h3⟩, ?_⟩
    simp (disch := ((fail_if_success (intro _)); omega)) only [go_sem, simprocAttr, ↓reduceIte, ↓Nat.reduceEqDiff, xx, fd10, m10, c30]
  by_cases h4 : 0 ≤ a
  case neg =>
    refine ⟨false, ⟨(fun h => by cases h), fun h => absurd h.va.1 h4⟩, ?_⟩
    simp (disch := ((fail_if_success (intro _)); omega)) only [go_sem, simprocAttr, ↓reduceIte, ↓Nat.reduceEqDiff, xx, fd10, m10, c30]
  by_cases h5 : a < s
  case neg =>
    refine ⟨false, ⟨(fun h => by cases h), fun h => absurd h.va.2 h5⟩, ?_⟩
    simp (disch := ((fail_if_success (intro _)); omega)) only [go_sem, simprocAttr, ↓reduceIte, ↓Nat.reduceEqDiff, xx, fd10, m10, c30]
  by_cases h6 : (l.length : Int) = 4 * w
  case neg =>
    refine ⟨false, ⟨(fun h => by cases h), fun h => absurd h.vn h6⟩, ?_⟩
    have h7 : ((l.length : Int) != 4 * w) = true := by rw [bne_iff_ne]; exact h6
    simp (disch := ((fail_if_success (intro _)); omega)) only [go_sem, simprocAttr, ↓reduceIte, ↓Nat.reduceEqDiff, xx, fd10, m10, c30, ns_length, h7]
  have h7 : ((l.length : Int) != 4 * w) = false := by rw [h6]; simp
  have hs : ∀ i, i < l.length → CO a l i → contK [.slot 1, .slot 4, .key 1] (evC gl (call gl tab (d + 2)) L10 (S10 w s a f l i)) = some (S10 w s a f l (i + 1)) := fun i hi ⟨p1, p2, p3⟩ => by
    have hx := ns_at hi
    simp (implicitDefEqProofs := false) (disch := ((fail_if_success (intro _)); omega)) only [go_sem, simprocAttr, ↓reduceIte, ↓Nat.reduceEqDiff, xx, L10, m10, S10, ns_length, hx]
  have hf : ∀ i, i < l.length → ¬ CO a l i → out1 2 (evC gl (call gl tab (d + 2)) L10 (S10 w s a f l i)) = some (.ret, .bool false) := fun i hi hp => by
    have hx := ns_at hi
    by_cases g1 : 0 ≤ nat l i
    case neg => simp (implicitDefEqProofs := false) (disch := ((fail_if_success (intro _)); omega)) only [go_sem, simprocAttr, ↓reduceIte, ↓Nat.reduceEqDiff, xx, L10, m10, S10, ns_length, hx]
    by_cases g2 : nat l i ≤ 15
    case neg => simp (implicitDefEqProofs := false) (disch := ((fail_if_success (intro _)); omega)) only [go_sem, simprocAttr, ↓reduceIte, ↓Nat.reduceEqDiff, xx, L10, m10, S10, ns_length, hx]
    have g3 : ¬ nat l i ≤ a := fun h => hp ⟨g1, g2, h⟩
    simp (implicitDefEqProofs := false) (disch := ((fail_if_success (intro _)); omega)) only [go_sem, simprocAttr, ↓reduceIte, ↓Nat.reduceEqDiff, xx, L10, m10, S10, ns_length, hx]
  rcases first_fail (CO a l) l.length with ha | ⟨k, hk, hb', he⟩
  · refine ⟨true, ⟨fun _ => ⟨hP, h1, ⟨h2, h3⟩, ⟨h4, h5⟩, h6, ha⟩, fun _ => rfl⟩, ?_⟩
    have hs2 := fun i hi => hs i hi (ha i hi)
    simp only [L10, m10] at hs2
    simp (disch := ((fail_if_success (intro _)); omega)) only [go_sem, simprocAttr, ↓reduceIte, ↓Nat.reduceEqDiff, xx, fd10, m10, c30, ns_length, h7]
    rw [iter_to (S10 w s a f l) l.length (by unfold LF; omega)]
    · simp (disch := ((fail_if_success (intro _)); omega)) only [go_sem, simprocAttr, ↓reduceIte, ↓Nat.reduceEqDiff, xx, S10, ns_length]
    · simp (disch := ((fail_if_success (intro _)); omega)) only [go_sem, simprocAttr, ↓reduceIte, ↓Nat.reduceEqDiff, xx, S10]
    · exact hs2
    · simp (disch := ((fail_if_success (intro _)); omega)) only [go_sem, simprocAttr, ↓reduceIte, ↓Nat.reduceEqDiff, xx, S10, ns_length]
  · obtain ⟨st, hst, hg⟩ := out1_get (hf k hk he)
    have hs2 := fun i (hi : i < k) => hs i (by omega) (hb' i hi)
    simp only [L10, m10] at hs2 hst
    refine ⟨false, ⟨(fun h => by cases h), fun h => absurd (h.vc k hk) he⟩, ?_⟩
    simp (disch := ((fail_if_success (intro _)); omega)) only [go_sem, simprocAttr, ↓reduceIte, ↓Nat.reduceEqDiff, xx, fd10, m10, c30, ns_length, h7]
    rw [iter_to (S10 w s a f l) k (by unfold LF; omega), hst]
    · simp (disch := ((fail_if_success (intro _)); omega)) only [go_sem, simprocAttr, ↓reduceIte, ↓Nat.reduceEqDiff, xx, hg]
    · simp (disch := ((fail_if_success (intro _)); omega)) only [go_sem, simprocAttr, ↓reduceIte, ↓Nat.reduceEqDiff, xx, S10]
    · exact hs2
    · rw [hst]; rfl
end
theorem VS.sk {w : Nat} {s a : Int} {l : List Int} (h : VS w s a l) : Sk w s a l :=
  ⟨⟨by have := isP_pos h.vp; omega, by have := h.vw; omega⟩, h.vs, h.va, by have := h.vn; omega, fun i hi => ⟨(h.vc i hi).1, (h.vc i hi).2.1⟩⟩
end Go.Proofs.S08
