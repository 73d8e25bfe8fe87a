/-
  Chapter 33: where a frame is, or belongs. No condition.
-/
import Derived.Test.YtoddlpnnmoaogaaW33A
set_option linter.unusedVariables false
set_option linter.unusedSimpArgs false
set_option linter.unusedSectionVars false
namespace Go.Proofs.S33
open Go Go.Ev Go.Proofs
set_option linter.unusedSimpArgs false
set_option linter.unusedVariables false
variable {gl : Gl} {n : Nat}
theorem fq_lt {nx : Int} {l : List Fm} (hv : VI nx l) {i : Nat} : ∀ {j : Nat}, i < j → j < l.length → (fat l i).q < (fat l j).q
  | j + 1, hij, hj => by
    have h1 := (hv.ok (j + 1) hj).lo
    rw [lastQ_s] at h1
    by_cases h : i = j
    · subst h; exact h1
    · have := fq_lt hv (show i < j by omega) (by omega); omega
theorem fq_pos {nx : Int} {l : List Fm} (hv : VI nx l) : ∀ {i : Nat}, i < l.length → nx < (fat l i).q
  | 0, h => (hv.ok 0 h).lo
  | i + 1, h => by
    have h1 := (hv.ok (i + 1) h).lo
    rw [lastQ_s] at h1
    have := fq_pos hv (show i < l.length by omega); omega
/-- Where a number belongs. -/
structure Pl (l : List Fm) (q : Int) (k : Nat) : Prop where
  le : k ≤ l.length
  lo : ∀ j, j < k → (fat l j).q < q
  hi : ∀ j, k ≤ j → j < l.length → q ≤ (fat l j).q
theorem cmpF_at (h : 1 ≤ n) (s : Bool) (x : Int) (b : List UInt8) (q : Int) (hx : 0 ≤ x ∧ x ≤ 2199023255552) (hq : 0 ≤ q ∧ q ≤ 1099511627776) : call gl tab n 20 [.agg [.bool s, i64 x, .str b], i64 q] [] = some (i64 (x - q), [], []) := by
  obtain ⟨d, rfl⟩ := Nat.exists_eq_add_of_le' h
  rw [call_go (fd := fd20) rfl]
  simp (disch := ((fail_if_success (intro _)); omega)) only [go_sem, simprocAttr, ↓reduceIte, ↓Nat.reduceEqDiff, xx, fd20, m20]
theorem mid_ok (i j : Nat) (h : i + j < 2 ^ 62) : ((BitVec.ofInt 64 ((i : Int) + (j : Int))) >>> (1 : Nat)).toInt = (((i + j) / 2 : Nat) : Int) := by
  have e : BitVec.ofInt 64 ((i : Int) + (j : Int)) = BitVec.ofNat 64 (i + j) := by
    rw [show ((i : Int) + (j : Int)) = ((i + j : Nat) : Int) by omega, BitVec.ofInt_natCast]
  rw [e, BitVec.toInt_eq_toNat_of_lt]
  · rw [BitVec.toNat_ushiftRight, BitVec.toNat_ofNat, Nat.mod_eq_of_lt (by omega), Nat.shiftRight_eq_div_pow]
  · rw [BitVec.toNat_ushiftRight, BitVec.toNat_ofNat, Nat.mod_eq_of_lt (by omega), Nat.shiftRight_eq_div_pow]; omega
def L19 : MC := match m19 with | .seq _ (.seq _ (.seq _ (.seq (.block _ (.loop _ b)) _))) => b | _ => .skip
def S19 (f : Bool) (m : Sh) (l : List Fm) (q : Int) (a : Nat × Nat) : St :=
  ⟨[.set 10 (i64 a.2), .set 9 (i64 a.1), .set 8 (i64 l.length), .set 2 (.fn 20 []), .set 1 (i64 q), .set 0 (.lst f m (fm l))], []⟩
def nxtF (l : List Fm) (q : Int) (a : Nat × Nat) : Nat × Nat := if (fat l ((a.1 + a.2) / 2)).q - q < 0 then ((a.1 + a.2) / 2 + 1, a.2) else (a.1, (a.1 + a.2) / 2)
set_option maxHeartbeats 800000 in
theorem search_at (h : 2 ≤ n) {f : Bool} {m : Sh} {nx : Int} {l : List Fm} (hm : Mk l m) (hv : VI nx l) {q : Int} (hq : 0 ≤ q ∧ q ≤ 1099511627776) :
    ∃ k : Nat, Pl l q k ∧ call gl tab n 19 [.lst f m (fm l), i64 q, .fn 20 []] [] = some (.tup [i64 k, .bool (decide (k < l.length) && ((fat l k).q - q == 0))], [], []) := by
  obtain ⟨d, rfl⟩ := Nat.exists_eq_add_of_le' h
  have hn := hv.n
  have c47 := fun i (hi : i < l.length) => @cmpF_at gl (d + 1) (by omega) (fat l i).s (fat l i).q (fat l i).b q (by have := fq_pos hv hi; have := (hv.ok i hi).hi; have := hv.pos; omega) hq
  obtain ⟨⟨k, k'⟩, ⟨i1, i2, i3⟩, hgo, hit⟩ := iter_meas (f := evC gl (call gl tab (d + 1)) L19) (ks := [.slot 0, .slot 1, .slot 2, .slot 8, .slot 9, .slot 10]) (S19 f m l q)
    (fun a => a.1 ≤ a.2 ∧ a.2 ≤ l.length ∧ (∀ t, t < a.1 → (fat l t).q < q) ∧ ∀ t, a.2 ≤ t → t < l.length → q ≤ (fat l t).q) (fun a => a.2 - a.1)
    (nxtF l q) (fun a => decide (a.1 < a.2)) (a0 := (0, l.length)) (by unfold LF; simp; omega)
    ⟨Nat.zero_le _, Nat.le_refl _, fun t ht => absurd ht (Nat.not_lt_zero _), fun t h1 h2 => absurd h2 (by simp at h1; omega)⟩
    (fun a ⟨h1, h2, h3⟩ hg => by
      obtain ⟨i, j⟩ := a
      simp only [decide_eq_true_eq] at hg h1 h2 h3 ⊢
      have hmid := mid_ok i j (by omega)
      have hml : (i + j) / 2 < l.length := by omega
      have hx := fm_at hml
      have hm2 := hm.eq hml
      have c := c47 _ hml
      have hp := fq_pos hv hml
      have hps := hv.pos
      have hhi := (hv.ok _ hml).hi
      by_cases hc : (fat l ((i + j) / 2)).q - q < 0
      · have e : nxtF l q (i, j) = ((i + j) / 2 + 1, j) := if_pos hc
        rw [e]
        refine ⟨?_, ⟨by simp only; omega, h2, fun t ht' => ?_, h3.2⟩, by simp only; omega⟩
        · generalize (i + j) / 2 = m' at *
          simp (disch := ((fail_if_success (intro _)); omega)) only [go_sem, simprocAttr, ↓reduceIte, ↓Nat.reduceEqDiff, xx, L19, m19, S19, hmid, hx, hm2, fm_length, c]
        · simp only at ht'
          by_cases h5 : t = (i + j) / 2
          · rw [h5]; omega
          · have := fq_lt hv (show t < (i + j) / 2 by omega) hml; omega
      · have e : nxtF l q (i, j) = (i, (i + j) / 2) := if_neg hc
        rw [e]
        refine ⟨?_, ⟨by simp only; omega, by simp only; omega, h3.1, fun t ht' h6 => ?_⟩, by simp only; omega⟩
        · generalize (i + j) / 2 = m' at *
          simp (disch := ((fail_if_success (intro _)); omega)) only [go_sem, simprocAttr, ↓reduceIte, ↓Nat.reduceEqDiff, xx, L19, m19, S19, hmid, hx, hm2, fm_length, c]
        · simp only at ht'
          by_cases h5 : t = (i + j) / 2
          · rw [h5]; omega
          · have := fq_lt hv (show (i + j) / 2 < t by omega) h6; omega)
    (fun a ⟨h1, h2, h3⟩ hg => by
      simp only [decide_eq_false_iff_not] at hg
      simp (disch := ((fail_if_success (intro _)); omega)) only [go_sem, simprocAttr, ↓reduceIte, ↓Nat.reduceEqDiff, xx, L19, m19, S19, fm_length])
  simp only [decide_eq_false_iff_not] at hgo i1 i2 i3
  obtain rfl : k = k' := by omega
  simp only [L19, m19] at hit
  refine ⟨k, ⟨i2, i3.1, i3.2⟩, ?_⟩
  by_cases hkl : k < l.length
  · have hx := fm_at hkl
    have hm2 := hm.eq hkl
    have c := c47 k hkl
    rw [decide_eq_true hkl, Bool.true_and]
    rw [call_go (fd := fd19) rfl]
    simp (disch := ((fail_if_success (intro _)); omega)) only [go_sem, simprocAttr, ↓reduceIte, ↓Nat.reduceEqDiff, xx, fd19, m19, fm_length]
    rw [hit _ (by simp (disch := ((fail_if_success (intro _)); omega)) only [go_sem, simprocAttr, ↓reduceIte, ↓Nat.reduceEqDiff, xx, S19])]
    simp (disch := ((fail_if_success (intro _)); omega)) only [go_sem, simprocAttr, ↓reduceIte, ↓Nat.reduceEqDiff, xx, S19, fm_length, hx, hm2, c]
  · rw [decide_eq_false hkl, Bool.false_and]
    rw [call_go (fd := fd19) rfl]
    simp (disch := ((fail_if_success (intro _)); omega)) only [go_sem, simprocAttr, ↓reduceIte, ↓Nat.reduceEqDiff, xx, fd19, m19, fm_length]
    rw [hit _ (by simp (disch := ((fail_if_success (intro _)); omega)) only [go_sem, simprocAttr, ↓reduceIte, ↓Nat.reduceEqDiff, xx, S19])]
    simp (disch := ((fail_if_success (intro _)); omega)) only [go_sem, simprocAttr, ↓reduceIte, ↓Nat.reduceEqDiff, xx, S19, fm_length]
end Go.Proofs.S33
