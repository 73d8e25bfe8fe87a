/-
  Chapter 8: sketches; halves. No condition.
-/
import Derived.Test.YtjpfinklpodhnaaDoorW08
import Derived.Test.YtjpfinklpodhnaaDoorEvY
set_option linter.unusedVariables false
set_option linter.unusedSimpArgs false
set_option linter.unusedSectionVars false
namespace Go.Proofs.S08
open Go Go.Ev Go.Proofs
set_option linter.unusedSimpArgs false
set_option linter.unusedVariables false
variable {gl : Gl} {n : Nat}
abbrev i64 (n : Int) : AV := .int .i64 n
def ns (l : List Int) : List AV := l.map i64
def nat (l : List Int) (i : Nat) : Int := l.getD i 0
theorem ns_length (l : List Int) : (ns l).length = l.length := by simp [ns]
theorem ns_at {l : List Int} {i : Nat} (h : i < l.length) : (ns l)[i]? = some (i64 (nat l i)) := by simp [ns, nat, h]
theorem ns_nil : ns [] = [] := rfl
theorem ns_one (x : Int) : ns [x] = [i64 x] := rfl
theorem ns_app (l : List Int) (s : Int) : ns (l ++ [s]) = ns l ++ [i64 s] := by simp [ns]
theorem ns_take (l : List Int) (v : AV) : (ns l ++ [v]).take (l.length + 1) = ns l ++ [v] := by rw [← ns_length]; exact List.take_of_length_le (by simp)
theorem ns_take' (l : List Int) : (ns l).take l.length = ns l := by rw [← ns_length]; exact List.take_length
/-- The first cells, halved. -/
def hlf (l : List Int) : Nat → List Int
  | 0 => []
  | i + 1 => hlf l i ++ [nat l i / 2]
theorem hlf_length (l : List Int) : ∀ i, (hlf l i).length = i
  | 0 => rfl
  | i + 1 => by rw [hlf, List.length_append, hlf_length l i]; rfl
theorem quo2 {x : Int} (h : 0 ≤ x) : Int.tdiv x 2 = x / 2 := Int.tdiv_eq_ediv_of_nonneg h
def L22 : MC := match m22 with | .seq _ (.seq _ (.seq (.seq _ (.block _ (.loop _ b))) _)) => b | _ => .skip
abbrev sK : Sh := .st [.sc, .sc, .sc, .sc]
def S22 (w s a : Int) (x : AV) (hp : Hp) (l : List Int) : Nat → St
  | 0 => ⟨[.set 4 (i64 0), .set 3 (.ptr 3 []), .set 2 (.ptr 2 []), .set 1 (.ptr 1 [])],
    hp ++ [(3, .fix sK (.agg [i64 w, i64 s, i64 (a / 2), .lst true .sc []])), (2, .fix sK (.agg [i64 0, i64 0, i64 0, .lst true .sc []])), (1, .fix sK x)]⟩
  | i + 1 => ⟨[.set 4 (i64 (i + 1 : Nat)), .set 3 (.ptr 3 []), .set 2 (.ptr 2 []), .set 1 (.ptr 1 [])],
    hp ++ [(6033, .grow .sc (ns (hlf l (i + 1)))), (3, .fix sK (.aggR [i64 w, i64 s, i64 (a / 2), .sl 6033 [] 0 (i + 1)])), (2, .fix sK (.agg [i64 0, i64 0, i64 0, .lst true .sc []])), (1, .fix sK x)]⟩
/-- What 'Halve' returns: a list of its own. -/
def hv (w s a : Int) (N : Nat) : AV := .aggR [i64 w, i64 s, i64 (a / 2), .sl 20000 [] 0 N]
theorem rhalve_at (h : 1 ≤ n) {f : Bool} {w s a : Int} {l : List Int} (ha : 0 ≤ a ∧ a ≤ 2097152) (h0 : 0 < l.length) (hl : l.length < 2 ^ 20) (hc : ∀ i, i < l.length → 0 ≤ nat l i ∧ nat l i ≤ 15) :
    call gl tab n 22 [.agg [i64 w, i64 s, i64 a, .lst f .sc (ns l)]] [] = some (hv w s a l.length, [], [.grow .sc (ns (hlf l l.length))]) := by
  obtain ⟨d, rfl⟩ := Nat.exists_eq_add_of_le' h
  have q2 := quo2 ha.1
  have hs : ∀ i, i < l.length → contK [.slot 1, .slot 2, .slot 3, .slot 4, .key 1, .key 2, .key 3, .mv 3 [3] 6033] (evC gl (call gl tab d) L22 (S22 w s a (.agg [i64 w, i64 s, i64 a, .lst f .sc (ns l)]) [] l i)) = some (S22 w s a (.agg [i64 w, i64 s, i64 a, .lst f .sc (ns l)]) [] l (i + 1)) := fun i hi => by
    have hx := ns_at hi
    have q3 := quo2 (hc i hi).1
    have q4 : 0 ≤ nat l i / 2 ∧ nat l i / 2 ≤ 15 := by have := hc i hi; omega
    have hli : i + 1 ≤ LIM := by unfold LIM; omega
    have htk := ns_take (hlf l i) (i64 (nat l i / 2))
    rw [hlf_length] at htk
    cases i with
    | zero => simp (disch := ((fail_if_success (intro _)); omega)) only [go_sem, simprocAttr, ↓reduceIte, ↓Nat.reduceEqDiff, xx, L22, m22, S22, ns_length, hx, hlf, binInt, q3, hli, ns_one, List.nil_append]
    | succ i => simp (disch := ((fail_if_success (intro _)); omega)) only [go_sem, simprocAttr, ↓reduceIte, ↓Nat.reduceEqDiff, xx, L22, m22, S22, ns_length, hx, binInt, q3, hli, hlf_length, show hlf l (i + 1 + 1) = hlf l (i + 1) ++ [nat l (i + 1) / 2] from rfl, ns_app, htk, List.nil_append]
  rw [call_gen (fd := fd22) rfl]
  simp (disch := ((fail_if_success (intro _)); omega)) only [go_sem, simprocAttr, ↓reduceIte, ↓Nat.reduceEqDiff, xx, fd22, m22, ns_length, binInt, q2]
  rw [iter_to (S22 w s a (.agg [i64 w, i64 s, i64 a, .lst f .sc (ns l)]) [] l) l.length (by unfold LF; omega)]
  · cases l with
    | nil => simp at h0
    | cons x l =>
      have htk := ns_take' (hlf (x :: l) (l.length + 1))
      rw [hlf_length] at htk
      simp (disch := ((fail_if_success (intro _)); omega)) only [go_sem, simprocAttr, ↓reduceIte, ↓Nat.reduceEqDiff, xx, S22, ns_length, hlf_length, htk, hv, List.nil_append]
  · simp (disch := ((fail_if_success (intro _)); omega)) only [go_sem, simprocAttr, ↓reduceIte, ↓Nat.reduceEqDiff, xx, S22, ns_length, hlf, List.nil_append]
  · simp only [L22, m22] at hs; exact hs
  · cases l with | nil => simp (disch := ((fail_if_success (intro _)); omega)) only [go_sem, simprocAttr, ↓reduceIte, ↓Nat.reduceEqDiff, xx, S22, ns_length, List.nil_append] | cons x l => simp (disch := ((fail_if_success (intro _)); omega)) only [go_sem, simprocAttr, ↓reduceIte, ↓Nat.reduceEqDiff, xx, S22, ns_length, List.nil_append]
/-- The same of a sketch that is one's own. -/
theorem rhalve_own (h : 1 ≤ n) {w s a : Int} {l : List Int} (ha : 0 ≤ a ∧ a ≤ 2097152) (h0 : 0 < l.length) (hl : l.length < 2 ^ 20) (hc : ∀ i, i < l.length → 0 ≤ nat l i ∧ nat l i ≤ 15) :
    call gl tab n 22 [.aggR [i64 w, i64 s, i64 a, .sl 100000 [] 0 l.length]] [(100000, .grow .sc (ns l))] = some (hv w s a l.length, [(100000, .grow .sc (ns l))], [.grow .sc (ns (hlf l l.length))]) := by
  obtain ⟨d, rfl⟩ := Nat.exists_eq_add_of_le' h
  have q2 := quo2 ha.1
  have hs : ∀ i, i < l.length → contK [.slot 1, .slot 2, .slot 3, .slot 4, .key 1, .key 2, .key 3, .mv 3 [3] 6033] (evC gl (call gl tab d) L22 (S22 w s a (.aggR [i64 w, i64 s, i64 a, .sl 100000 [] 0 l.length]) [(100000, .grow .sc (ns l))] l i)) = some (S22 w s a (.aggR [i64 w, i64 s, i64 a, .sl 100000 [] 0 l.length]) [(100000, .grow .sc (ns l))] l (i + 1)) := fun i hi => by
    have hx := ns_at hi
    have q3 := quo2 (hc i hi).1
    have q4 : 0 ≤ nat l i / 2 ∧ nat l i / 2 ≤ 15 := by have := hc i hi; omega
    have hli : i + 1 ≤ LIM := by unfold LIM; omega
    have htk := ns_take (hlf l i) (i64 (nat l i / 2))
    rw [hlf_length] at htk
    cases i with
    | zero => simp (disch := ((fail_if_success (intro _)); omega)) only [go_sem, simprocAttr, ↓reduceIte, ↓Nat.reduceEqDiff, xx, L22, m22, S22, ns_length, hx, hlf, binInt, q3, hli, ns_one, List.nil_append, List.cons_append]
    | succ i => simp (disch := ((fail_if_success (intro _)); omega)) only [go_sem, simprocAttr, ↓reduceIte, ↓Nat.reduceEqDiff, xx, L22, m22, S22, ns_length, hx, binInt, q3, hli, hlf_length, show hlf l (i + 1 + 1) = hlf l (i + 1) ++ [nat l (i + 1) / 2] from rfl, ns_app, htk, List.nil_append, List.cons_append]
  rw [call_gen (fd := fd22) rfl]
  simp (disch := ((fail_if_success (intro _)); omega)) only [go_sem, simprocAttr, ↓reduceIte, ↓Nat.reduceEqDiff, xx, fd22, m22, ns_length, binInt, q2]
  rw [iter_to (S22 w s a (.aggR [i64 w, i64 s, i64 a, .sl 100000 [] 0 l.length]) [(100000, .grow .sc (ns l))] l) l.length (by unfold LF; omega)]
  · cases l with
    | nil => simp at h0
    | cons x l =>
      have htk := ns_take' (hlf (x :: l) (l.length + 1))
      rw [hlf_length] at htk
      simp (disch := ((fail_if_success (intro _)); omega)) only [go_sem, simprocAttr, ↓reduceIte, ↓Nat.reduceEqDiff, xx, S22, ns_length, hlf_length, htk, hv, List.nil_append, List.cons_append]
  · simp (disch := ((fail_if_success (intro _)); omega)) only [go_sem, simprocAttr, ↓reduceIte, ↓Nat.reduceEqDiff, xx, S22, ns_length, hlf, List.nil_append, List.cons_append]
  · simp only [L22, m22] at hs; exact hs
  · cases l with | nil => simp (disch := ((fail_if_success (intro _)); omega)) only [go_sem, simprocAttr, ↓reduceIte, ↓Nat.reduceEqDiff, xx, S22, ns_length, List.nil_append, List.cons_append] | cons x l => simp (disch := ((fail_if_success (intro _)); omega)) only [go_sem, simprocAttr, ↓reduceIte, ↓Nat.reduceEqDiff, xx, S22, ns_length, List.nil_append, List.cons_append]
end Go.Proofs.S08
