/-
  Chapter 33: frames; inboxes. No condition.
-/
import Derived.Test.YtoddlpnnmoaogaaW33
import Derived.Test.YtoddlpnnmoaogaaEvY
set_option linter.unusedVariables false
set_option linter.unusedSimpArgs false
set_option linter.unusedSectionVars false
namespace Go.Proofs.S33
open Go Go.Ev Go.Proofs
set_option linter.unusedSimpArgs false
set_option linter.unusedVariables false
variable {gl : Gl} {n : Nat}
abbrev i64 (n : Int) : AV := .int .i64 n
structure Fm where
  s : Bool
  q : Int
  b : List UInt8
def Fm.av (f : Fm) : AV := .agg [.bool f.s, i64 f.q, .str f.b]
def fm (l : List Fm) : List AV := l.map fun f => .agg [.bool f.s, i64 f.q, .str f.b]
def fat (l : List Fm) (i : Nat) : Fm := l.getD i ⟨false, 0, []⟩
abbrev sF : Sh := .st [.sc, .sc, .sc]
theorem fm_length (l : List Fm) : (fm l).length = l.length := by simp [fm]
theorem fm_at {l : List Fm} {i : Nat} (h : i < l.length) : (fm l)[i]? = some (.agg [.bool (fat l i).s, i64 (fat l i).q, .str (fat l i).b]) := by simp [fm, fat, h]
theorem fm_nil : fm [] = [] := rfl
theorem fm_app (l : List Fm) (s : Fm) : fm (l ++ [s]) = fm l ++ [.agg [.bool s.s, i64 s.q, .str s.b]] := by simp [fm]
theorem fm_take (l : List Fm) (v : AV) : (fm l ++ [v]).take (l.length + 1) = fm l ++ [v] := by rw [← fm_length]; exact List.take_of_length_le (by simp)
theorem fm_take' (l : List Fm) : (fm l).take l.length = fm l := by rw [← fm_length]; exact List.take_length
def Mk (l : List Fm) (m : Sh) : Prop := l = [] ∨ m = sF
theorem Mk.eq {l : List Fm} {m : Sh} (h : Mk l m) {i : Nat} (hi : i < l.length) : m = sF := h.resolve_left (by rintro rfl; simp at hi)
theorem within_at (h : 1 ≤ n) (x m : Int) : call gl tab n 16 [i64 x, i64 m] [] = some (.bool (decide (0 ≤ x) && decide (x ≤ m)), [], []) := by
  obtain ⟨d, rfl⟩ := Nat.exists_eq_add_of_le' h
  rw [call_go (fd := fd16) rfl]
  simp (disch := ((fail_if_success (intro _)); omega)) only [go_sem, simprocAttr, ↓reduceIte, ↓Nat.reduceEqDiff, xx, fd16, m16]
theorem isBody_at (h : 1 ≤ n) (b : List UInt8) (hb : b.length ≤ 9223372036854775807) : call gl tab n 15 [.str b] [] = some (.bool (decide (b.length ≤ 65536)), [], []) := by
  obtain ⟨d, rfl⟩ := Nat.exists_eq_add_of_le' h
  rw [call_go (fd := fd15) rfl]
  simp (disch := ((fail_if_success (intro _)); omega)) only [go_sem, simprocAttr, ↓reduceIte, ↓Nat.reduceEqDiff, xx, fd15, m15]
end Go.Proofs.S33
namespace Go.Proofs.S33
open Go Go.Ev Go.Proofs
set_option linter.unusedSimpArgs false
set_option linter.unusedVariables false
variable {gl : Gl} {n : Nat}
theorem first_fail (p : Nat → Prop) (N : Nat) : (∀ i, i < N → p i) ∨ ∃ k, k < N ∧ (∀ j, j < k → p j) ∧ ¬ p k := by
  classical
  by_cases h : ∀ i, i < N → p i
  · exact .inl h
  · obtain ⟨h1, h2, h3⟩ := fst_spec p N
    refine .inr ⟨fstN p N, ?_⟩
    rcases Nat.lt_or_ge (fstN p N) N with h4 | h4
    · exact ⟨h4, h2, h3 h4⟩
    · exact absurd (fun i hi => h2 i (by omega)) h
def lastQ (nx : Int) (l : List Fm) : Nat → Int
  | 0 => nx
  | i + 1 => (fat l i).q
theorem lastQ_0 (nx : Int) (l : List Fm) : lastQ nx l 0 = nx := rfl
theorem lastQ_s (nx : Int) (l : List Fm) (i : Nat) : lastQ nx l (i + 1) = (fat l i).q := rfl
structure FOk (nx : Int) (l : List Fm) (i : Nat) : Prop where
  s : (fat l i).s = false
  lo : lastQ nx l i < (fat l i).q
  hi : (fat l i).q ≤ 2199023255552
  b : (fat l i).b.length ≤ 65536
structure VI (nx : Int) (l : List Fm) : Prop where
  pos : 0 ≤ nx ∧ nx ≤ 2199023255552
  n : l.length ≤ 64
  ok : ∀ i, i < l.length → FOk nx l i
def L6 : MC := match m6 with | .seq _ (.seq _ (.seq (.seq _ (.block _ (.loop _ b))) _)) => b | _ => .skip
def S6 (f : Bool) (m : Sh) (nx : Int) (l : List Fm) (i : Nat) : St :=
  ⟨[.set 11 (i64 i), .set 10 (i64 l.length), .set 9 (.lst f m (fm l)), .set 3 (i64 (lastQ nx l i)), .set 1 (.ptr 1 [])], [(1, .fix (.st [.sc, .sc]) (.agg [i64 nx, .lst f m (fm l)]))]⟩
set_option maxHeartbeats 1000000 in
theorem validIn_at (h : 2 ≤ n) {f : Bool} {m : Sh} {nx : Int} {l : List Fm} (hm : Mk l m) (hl : l.length < 2 ^ 60) (hb : ∀ i, i < l.length → (fat l i).b.length ≤ 9223372036854775807) :
    ∃ b : Bool, (b = true ↔ VI nx l) ∧ call gl tab n 6 [.agg [i64 nx, .lst f m (fm l)]] [] = some (.bool b, [], []) := by
  obtain ⟨d, rfl⟩ := Nat.exists_eq_add_of_le' h
  have c16 := @within_at gl (d + 1) (by omega) nx 2199023255552
  have hs : ∀ i, i < l.length → FOk nx l i → contK [.slot 1, .slot 3, .slot 9, .slot 10, .slot 11, .key 1] (evC gl (call gl tab (d + 1)) L6 (S6 f m nx l i)) = some (S6 f m nx l (i + 1)) := fun i hi ⟨p1, p2, p3, p4⟩ => by
    have hx := fm_at hi
    obtain rfl := hm.eq hi
    have c15 := @isBody_at gl (d + 1) (by omega) (fat l i).b (hb i hi)
    rw [decide_eq_true p4] at c15
    rw [p1] at hx
    simp (disch := ((fail_if_success (intro _)); omega)) only [go_sem, simprocAttr, ↓reduceIte, ↓Nat.reduceEqDiff, xx, L6, m6, S6, fm_length, hx, c15, lastQ_s]
  have hf : ∀ i, i < l.length → ¬ FOk nx l i → out1 2 (evC gl (call gl tab (d + 1)) L6 (S6 f m nx l i)) = some (.ret, .bool false) := fun i hi hp => by
    have hx := fm_at hi
    obtain rfl := hm.eq hi
    have c15 := @isBody_at gl (d + 1) (by omega) (fat l i).b (hb i hi)
    by_cases h1 : (fat l i).s = true
    · rw [h1] at hx
      simp (disch := ((fail_if_success (intro _)); omega)) only [go_sem, simprocAttr, ↓reduceIte, ↓Nat.reduceEqDiff, xx, L6, m6, S6, fm_length, hx]
    · rw [Bool.not_eq_true] at h1
      rw [h1] at hx
      by_cases h2 : (fat l i).q ≤ lastQ nx l i
      · simp (disch := ((fail_if_success (intro _)); omega)) only [go_sem, simprocAttr, ↓reduceIte, ↓Nat.reduceEqDiff, xx, L6, m6, S6, fm_length, hx]
      by_cases h3 : 2199023255552 < (fat l i).q
      · simp (disch := ((fail_if_success (intro _)); omega)) only [go_sem, simprocAttr, ↓reduceIte, ↓Nat.reduceEqDiff, xx, L6, m6, S6, fm_length, hx]
      have h4 : ¬ (fat l i).b.length ≤ 65536 := fun h4 => hp ⟨h1, by omega, by omega, h4⟩
      rw [decide_eq_false h4] at c15
      simp (disch := ((fail_if_success (intro _)); omega)) only [go_sem, simprocAttr, ↓reduceIte, ↓Nat.reduceEqDiff, xx, L6, m6, S6, fm_length, hx, c15]
  rw [call_go (fd := fd6) rfl]
  rcases first_fail (FOk nx l) l.length with ha | ⟨k, hk, hb', he⟩
  · refine ⟨decide (0 ≤ nx) && decide (nx ≤ 2199023255552) && decide (l.length ≤ 64), ?_, ?_⟩
    · simp only [Bool.and_eq_true, decide_eq_true_eq]
      exact ⟨fun ⟨h1, h2⟩ => ⟨h1, h2, ha⟩, fun h => ⟨h.pos, h.n⟩⟩
    have hs2 := fun i hi => hs i hi (ha i hi)
    simp only [L6, m6] at hs2
    simp (disch := ((fail_if_success (intro _)); omega)) only [go_sem, simprocAttr, ↓reduceIte, ↓Nat.reduceEqDiff, xx, fd6, m6, fm_length]
    rw [iter_to (S6 f m nx l) l.length (by unfold LF; omega)]
    · cases hb0 : (decide (0 ≤ nx) && decide (nx ≤ 2199023255552)) with
      | false => rw [hb0] at c16; simp (disch := ((fail_if_success (intro _)); omega)) only [go_sem, simprocAttr, ↓reduceIte, ↓Nat.reduceEqDiff, xx, S6, fm_length, c16]
      | true => rw [hb0] at c16; simp (disch := ((fail_if_success (intro _)); omega)) only [go_sem, simprocAttr, ↓reduceIte, ↓Nat.reduceEqDiff, xx, S6, fm_length, c16]
    · simp (disch := ((fail_if_success (intro _)); omega)) only [go_sem, simprocAttr, ↓reduceIte, ↓Nat.reduceEqDiff, xx, S6, fm_length, lastQ_0]
    · exact hs2
    · simp (disch := ((fail_if_success (intro _)); omega)) only [go_sem, simprocAttr, ↓reduceIte, ↓Nat.reduceEqDiff, xx, S6, fm_length]
  · obtain ⟨st, hst, hg⟩ := out1_get (hf k hk he)
    have hs2 := fun i hi => hs i (by omega) (hb' i hi)
    simp only [L6, m6] at hs2 hst
    refine ⟨false, ⟨(fun h => by cases h), fun h => absurd (h.ok k hk) he⟩, ?_⟩
    simp (disch := ((fail_if_success (intro _)); omega)) only [go_sem, simprocAttr, ↓reduceIte, ↓Nat.reduceEqDiff, xx, fd6, m6, fm_length]
    rw [iter_to (S6 f m nx l) k (by unfold LF; omega), hst]
    · simp (disch := ((fail_if_success (intro _)); omega)) only [go_sem, simprocAttr, ↓reduceIte, ↓Nat.reduceEqDiff, xx, hg]
    · simp (disch := ((fail_if_success (intro _)); omega)) only [go_sem, simprocAttr, ↓reduceIte, ↓Nat.reduceEqDiff, xx, S6, fm_length, lastQ_0]
    · exact hs2
    · rw [hst]; rfl
end Go.Proofs.S33
