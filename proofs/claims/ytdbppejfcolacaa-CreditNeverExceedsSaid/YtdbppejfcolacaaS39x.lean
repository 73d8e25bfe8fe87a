/-
  Chapter 39: the program drops windows that are over. No condition.
-/
import Derived.Test.YtdbppejfcolacaaS39h
set_option linter.unusedVariables false
set_option linter.unusedSimpArgs false
set_option linter.unusedSectionVars false
namespace Go.Proofs.S39
open Go Go.Ev Go.Proofs
set_option linter.unusedSimpArgs false
set_option linter.unusedVariables false
variable {gl : Gl} {n : Nat}
/-- The test, as it is handed to the library. -/
theorem over_cp (h : 2 ≤ n) (x : Q4) (c len : Int) (f : Bool) {sh : Sh} (l : List Q4) (p q : Int) (hl : 1 ≤ len) (hp : 0 ≤ p ∧ p ≤ 1099511627776) :
    call gl tab n 52 [.agg [i64 x.w, i64 x.g, i64 x.d, i64 x.b], .cp (.st [.sc, .sc, .sc]) (bank c len f sh l), .cp (.st [.sc, .sc]) (.agg [i64 p, i64 q])] [] = some (.bool (decide (x.w < p / len)), [], []) := by
  obtain ⟨d, rfl⟩ := Nat.exists_eq_add_of_le' h
  have c53 := @isOver_at gl (d + 1) (by omega) x.w len hl p q hp
  rw [call_go (fd := fd52) rfl]
  simp (disch := ((fail_if_success (intro _)); omega)) only [go_sem, simprocAttr, ↓reduceIte, xx, fd52, m52, bank, c53]
def fnCp (c len : Int) (f : Bool) (sh : Sh) (l : List Q4) (p q : Int) : AV := .fn 52 [.cp (.st [.sc, .sc, .sc]) (bank c len f sh l), .cp (.st [.sc, .sc]) (.agg [i64 p, i64 q])]
def S72 (r : List Q4) (fv : AV) (i : Nat) : St := ⟨[.set 8 (i64 i), .set 7 (i64 r.length), .set 1 fv, .set 0 (.lst false sR (rows r))], []⟩
def L72 : MC := match m72 with
  | .seq _ (.seq (.seq _ (.block _ (.loop _ b))) _) => b
  | _ => .skip
/-- The first row that goes. -/
theorem index_at (h : 3 ≤ n) (r : List Q4) (hr : r.length < 2 ^ 60) (c len : Int) (f : Bool) {sh : Sh} (l : List Q4) (p q : Int) (hl : 1 ≤ len) (hp : 0 ≤ p ∧ p ≤ 1099511627776) :
    ∃ k, k ≤ r.length ∧ (∀ j, j < k → stay len p (at' r j) = true) ∧ (k < r.length → stay len p (at' r k) = false) ∧
      call gl tab n 72 [.lst false sR (rows r), fnCp c len f sh l p q] [] = some (i64 (if k < r.length then (k : Int) else -1), [], []) := by
  obtain ⟨d, rfl⟩ := Nat.exists_eq_add_of_le' h
  have c52 := fun x => @over_cp gl (d + 2) (by omega) x c len f sh l p q hl hp
  have hs : ∀ i, i < r.length → (∀ j, j < i → ¬ (at' r j).w < p / len) → ¬ (at' r i).w < p / len → contK [.slot 0, .slot 1, .slot 7, .slot 8] (evC gl (call gl tab (d + 2)) L72 (S72 r (fnCp c len f sh l p q) i)) = some (S72 r (fnCp c len f sh l p q) (i + 1)) := fun i hi _ hp' => by
    have hx := rows_at hi
    have hdec : decide ((at' r i).w < p / len) = false := decide_eq_false hp'
    simp (disch := ((fail_if_success (intro _)); omega)) only [go_sem, simprocAttr, ↓reduceIte, xx, L72, m72, S72, fnCp, hx, rows_length, c52, hdec]
  have hx : ∀ i, i < r.length → ¬ ¬ (at' r i).w < p / len → out1 4 (evC gl (call gl tab (d + 2)) L72 (S72 r (fnCp c len f sh l p q) i)) = some (.ret, i64 i) := fun i hi hp' => by
    have hx := rows_at hi
    have hdec : decide ((at' r i).w < p / len) = true := decide_eq_true (Classical.not_not.1 hp')
    simp (disch := ((fail_if_success (intro _)); omega)) only [go_sem, simprocAttr, ↓reduceIte, xx, L72, m72, S72, fnCp, hx, rows_length, c52, hdec]
  obtain ⟨k, hk, hbef, hat, hit⟩ := iter_fst2 (f := evC gl (call gl tab (d + 2)) L72) (ks := [.slot 0, .slot 1, .slot 7, .slot 8]) (S72 r (fnCp c len f sh l p q)) r.length (fun i => ¬ (at' r i).w < p / len) (by unfold LF; omega)
    hs (fun i hi _ hp' => out1_isEx (hx i hi hp')) (fun _ => by simp (disch := ((fail_if_success (intro _)); omega)) only [go_sem, simprocAttr, ↓reduceIte, xx, L72, m72, S72])
  refine ⟨k, hk, fun j hj => by simp [stay, hbef j hj], fun hkl => by simpa [stay] using hat hkl, ?_⟩
  simp only [L72, m72] at hit
  rw [call_go (fd := fd72) rfl]
  simp only [fd72, m72, go_sem, simprocAttr, ↓reduceIte, rows_length]
  rw [hit _ (by simp (disch := ((fail_if_success (intro _)); omega)) only [go_sem, simprocAttr, ↓reduceIte, xx, S72, fnCp])]
  by_cases hkl : k < r.length
  · obtain ⟨st, hst, hg⟩ := out1_get (hx k hkl (hat hkl))
    simp only [L72, m72] at hst
    rw [hst]
    simp (disch := ((fail_if_success (intro _)); omega)) only [go_sem, simprocAttr, ↓reduceIte, xx, hg]
  · obtain rfl : k = r.length := by omega
    simp (disch := ((fail_if_success (intro _)); omega)) only [go_sem, simprocAttr, ↓reduceIte, xx, S72, fnCp]
end Go.Proofs.S39
