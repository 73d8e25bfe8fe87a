/-
  Chapter 39: windows that are over are dropped. No condition.
-/
import Derived.Test.YtdbppejfcolacaaS39p
import Derived.Test.YtdbppejfcolacaaS39E
set_option linter.unusedVariables false
set_option linter.unusedSimpArgs false
set_option linter.unusedSectionVars false
namespace Go.Proofs.S39
open Go Go.Ev Go.Proofs
set_option linter.unusedSimpArgs false
set_option linter.unusedVariables false
variable {gl : Gl} {n : Nat}
def PV (p q : Int) : Prop := 0 ≤ p ∧ p ≤ q ∧ q ≤ 1099511627776
instance (p q : Int) : Decidable (PV p q) := inferInstanceAs (Decidable (_ ∧ _ ∧ _))
theorem pvalid_at (h : 1 ≤ n) (p q : Int) : call gl tab n 49 [.agg [i64 p, i64 q]] [] = some (.bool (decide (PV p q)), [], []) := by
  obtain ⟨d, rfl⟩ := Nat.exists_eq_add_of_le' h
  rw [call_go (fd := fd49) rfl]
  simp (disch := ((fail_if_success (intro _)); omega)) only [go_sem, simprocAttr, ↓reduceIte, xx, fd49, m49]
  have e : ((decide (0 ≤ p) && decide (p ≤ q)) && decide (q ≤ 1099511627776)) = decide (PV p q) := by
    rw [Bool.eq_iff_iff, Bool.and_eq_true, Bool.and_eq_true, decide_eq_true_eq, decide_eq_true_eq, decide_eq_true_eq, decide_eq_true_eq]
    exact ⟨fun ⟨⟨a, b⟩, c⟩ => ⟨a, b, c⟩, fun ⟨a, b, c⟩ => ⟨⟨a, b⟩, c⟩⟩
  rw [e]
theorem rpvalid_at (h : 2 ≤ n) (p q : Int) : call gl tab n 59 [.agg [i64 p, i64 q]] [] = some (.bool (decide (PV p q)), [], []) := by
  obtain ⟨d, rfl⟩ := Nat.exists_eq_add_of_le' h
  have c73 : ∀ a, call gl tab (d + 1) 73 [i64 a] [] = some (.bool (decide (0 ≤ a) && decide (a ≤ 1099511627776)), [], []) := fun a => by
    rw [call_go (fd := fd73) rfl]
    simp (disch := ((fail_if_success (intro _)); omega)) only [go_sem, simprocAttr, ↓reduceIte, xx, fd73, m73]
  rw [call_go (fd := fd59) rfl]
  simp (disch := ((fail_if_success (intro _)); omega)) only [go_sem, simprocAttr, ↓reduceIte, xx, fd59, m59, c73]
  have e : ((decide (0 ≤ p) && decide (p ≤ 1099511627776)) && (decide (0 ≤ q) && decide (q ≤ 1099511627776)) && decide (p ≤ q)) = decide (PV p q) := by
    rw [Bool.eq_iff_iff]
    simp only [Bool.and_eq_true, decide_eq_true_eq]
    exact ⟨fun ⟨⟨⟨a, b⟩, ⟨c, d⟩⟩, e⟩ => ⟨a, e, d⟩, fun ⟨a, b, c⟩ => ⟨⟨⟨a, by omega⟩, ⟨by omega, c⟩⟩, b⟩⟩
  rw [e]
theorem rover_at (h : 1 ≤ n) (a len : Int) (ha : 0 ≤ a ∧ a ≤ 1099511627776) (hl : 1 ≤ len) (p q : Int) (hp : 0 ≤ p ∧ p ≤ 1099511627776) :
    call gl tab n 60 [i64 a, i64 len, .agg [i64 p, i64 q]] [] = some (.bool (decide (a < p / len)), [], []) := by
  obtain ⟨d, rfl⟩ := Nat.exists_eq_add_of_le' h
  have hl0 : ¬ len = 0 := by omega
  have h1 : p / len ≤ p := Int.ediv_le_self _ hp.1
  have h2 : 0 ≤ p / len := Int.ediv_nonneg hp.1 (by omega)
  have hw : IntKind.wrap .i64 (p.tdiv len) = p / len := by
    rw [Int.tdiv_eq_ediv_of_nonneg hp.1]
    exact wrap_i64 (by omega) (by omega)
  have h3 : decide (a + 1 ≤ p / len) = decide (a < p / len) := decide_eq_decide.2 (by omega)
  rw [call_go (fd := fd60) rfl]
  simp (disch := ((fail_if_success (intro _)); omega)) only [go_sem, simprocAttr, ↓reduceIte, xx, fd60, m60, binInt, hl0, hw, h3]
/-- What stays. -/
def stay (len p : Int) (x : Q4) : Bool := !decide (x.w < p / len)
def keepL (len p : Int) (l : List Q4) : List Q4 := l.filter (stay len p)
theorem keep_take {len p : Int} {l : List Q4} {i : Nat} (h : i < l.length) : keepL len p (l.take (i + 1)) = if stay len p (at' l i) then keepL len p (l.take i) ++ [at' l i] else keepL len p (l.take i) := by
  rw [take_at h, keepL, List.filter_append, List.filter_cons, List.filter_nil]
  split <;> simp [keepL]
theorem keep_len {len p : Int} (l : List Q4) (i : Nat) : (keepL len p (l.take i)).length ≤ i := by
  have := List.length_filter_le (stay len p) (l.take i)
  have h2 : (l.take i).length ≤ i := by simp; omega
  exact Nat.le_trans this h2
/-! ### The specification -/
def S16 (c len : Int) (f : Bool) (sh : Sh) (l : List Q4) (p q : Int) (i : Nat) : St :=
  ⟨[.set 6 (i64 i), .set 5 (.sl 5005 [] 0 (keepL len p (l.take i)).length), .set 4 (.ptr 4 []), .set 3 (.ptr 3 []), .set 2 (.ptr 2 [])],
   [(4, .fix (.st [.st [.sc, .sc, .sc], .sc]) (.agg [.agg [i64 0, i64 0, .lst true .sc []], i64 0])), (3, .fix (.st [.sc, .sc]) (.agg [i64 p, i64 q])), (2, .fix (.st [.sc, .sc, .sc]) (bank c len f sh l)), (5005, .grow sR (rows (keepL len p (l.take i))))]⟩
theorem rforget_ok (h : 5 ≤ n) (c len : Int) (f : Bool) {sh : Sh} {l : List Q4} (hs : Shp l sh) (hv : VB c len l) (p q : Int) (hp : PV p q) :
    call gl tab n 16 [bank c len f sh l, .agg [i64 p, i64 q]] [] = some (.agg [bank c len false sR (keepL len p l), i64 0], [], []) := by
  obtain ⟨d, rfl⟩ := Nat.exists_eq_add_of_le' h
  have hr := hv.r
  have hn := hv.n
  obtain ⟨p1, p2, p3⟩ := hp
  have c18 := @vb18 gl (d + 4) (by omega) c len f sh l hs hv
  have c59 := @rpvalid_at gl (d + 4) (by omega) p q
  have hpv : decide (PV p q) = true := decide_eq_true ⟨p1, p2, p3⟩
  rw [hpv] at c59
  simp only [bank] at c18
  rw [call_go (fd := fd16) rfl]
  simp only [fd16, m16, go_sem, simprocAttr, ↓reduceIte, bank, c18, c59]
  rw [iter_to (S16 c len f sh l p q) l.length (by unfold LF; omega)]
  · simp (disch := ((fail_if_success (intro _)); omega)) only [go_sem, simprocAttr, ↓reduceIte, xx, S16, bank, rows_length, List.take_length, rows_take']
  · simp (disch := ((fail_if_success (intro _)); omega)) only [go_sem, simprocAttr, ↓reduceIte, xx, S16, bank, keepL, List.filter_nil, rows_nil]
  · intro i hi
    have hx := rows_at hi
    obtain rfl := hs.eq hi
    have hk := (hv.ok i hi).w
    have c60 := @rover_at gl (d + 4) (by omega) (at' l i).w len hk (by omega) p q ⟨by omega, by omega⟩
    have e := keep_take (len := len) (p := p) hi
    have hkl := keep_len (len := len) (p := p) l i
    have h6 : (keepL len p (l.take i)).length + 1 ≤ LIM := by unfold LIM; omega
    by_cases ho : (at' l i).w < p / len
    · have e1 : stay len p (at' l i) = false := by simp [stay, ho]
      rw [e1] at e
      simp only [Bool.false_eq_true, if_false] at e
      simp (disch := ((fail_if_success (intro _)); omega)) only [go_sem, simprocAttr, ↓reduceIte, xx, S16, bank, hx, rows_length, c60, e, ho]
    · have e1 : stay len p (at' l i) = true := by simp [stay, ho]
      rw [e1, if_pos rfl] at e
      simp (disch := ((fail_if_success (intro _)); omega)) only [go_sem, simprocAttr, ↓reduceIte, xx, S16, bank, hx, rows_length, c60, e, h6, rows_snoc, List.length_append, ho]
  · simp (disch := ((fail_if_success (intro _)); omega)) only [go_sem, simprocAttr, ↓reduceIte, xx, S16, bank, rows_length]
theorem rforget_f (h : 5 ≤ n) (c len : Int) (f : Bool) {sh : Sh} {l : List Q4} (hs : Shp l sh) (hl : l.length < 2 ^ 30) (p q : Int) (hv : ¬ (VB c len l ∧ PV p q)) :
    call gl tab n 16 [bank c len f sh l, .agg [i64 p, i64 q]] [] = some (.agg [bank0, i64 1], [], []) := by
  obtain ⟨d, rfl⟩ := Nat.exists_eq_add_of_le' h
  have c59 := @rpvalid_at gl (d + 4) (by omega) p q
  rw [call_go (fd := fd16) rfl]
  by_cases hv1 : VB c len l
  · have c18 := @vb18 gl (d + 4) (by omega) c len f sh l hs hv1
    have hpv : decide (PV p q) = false := by simpa using fun h => hv ⟨hv1, h⟩
    rw [hpv] at c59
    simp only [bank] at c18
    simp (disch := ((fail_if_success (intro _)); omega)) only [go_sem, simprocAttr, ↓reduceIte, xx, fd16, m16, bank, c18, c59, rows_nil]
  · have c18 := @nvb18 gl (d + 4) (by omega) c len f sh l hs hl hv1
    simp only [bank] at c18
    simp (disch := ((fail_if_success (intro _)); omega)) only [go_sem, simprocAttr, ↓reduceIte, xx, fd16, m16, bank, c18, c59, rows_nil]
end Go.Proofs.S39
