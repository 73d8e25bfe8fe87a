/-
  Chapter 8: New, for the widths of the examples. No condition.
-/
import Derived.Test.YtjpfinklpodhnaaDoorW08MM
import Derived.KernelRfl
import Derived.Test.YtjpfinklpodhnaaDoorW08II
set_option linter.unusedVariables false
set_option linter.unusedSimpArgs false
set_option linter.unusedSectionVars false
namespace Go.Proofs.S08
open Go Go.Ev Go.Proofs
set_option linter.unusedSimpArgs false
set_option linter.unusedVariables false
set_option maxRecDepth 100000
section
variable {gl : Gl} {n : Nat}
theorem pow_1 (d : Nat) : call gl tab (d + 3) 35 [.int .i64 1] [] = some (.bool true, [], []) := by kernel_rfl
theorem pow_8 (d : Nat) : call gl tab (d + 3) 35 [.int .i64 8] [] = some (.bool true, [], []) := by kernel_rfl
theorem pow_6 (d : Nat) : call gl tab (d + 3) 35 [.int .i64 6] [] = some (.bool false, [], []) := by kernel_rfl
theorem pow_8192 (d : Nat) : call gl tab (d + 3) 35 [.int .i64 8192] [] = some (.bool true, [], []) := by kernel_rfl
theorem rep_len (k : Nat) : (List.replicate k (0 : Int)).length = k := List.length_replicate
theorem new_ok (h : 4 ≤ n) {w : Nat} {s : Int} (hw : 1 ≤ w ∧ w ≤ 4096) (hs : 1 ≤ s ∧ s ≤ 1048576) (c35 : call gl tab (n - 1) 35 [i64 w] [] = some (.bool true, [], [])) :
    call gl tab n 15 [i64 w, i64 s] [] = some (.tup [.agg [i64 w, i64 s, i64 0, .lst false .sc (ns (List.replicate (4 * w) 0))], i64 0], [], []) := by
  obtain ⟨d, rfl⟩ := Nat.exists_eq_add_of_le' h
  rw [show d + 4 - 1 = d + 3 from rfl] at c35
  have hr := ns_rep (4 * w)
  have hL : 4 * w ≤ LIM := by unfold LIM; omega
  rw [call_go (fd := fd15) rfl]
  have hz : (ns (List.replicate (4 * w) 0)).length = 4 * w := by rw [ns_length, rep_len]
  have hft : List.take (4 * w) (ns (List.replicate (4 * w) 0)) = ns (List.replicate (4 * w) 0) := List.take_of_length_le (by omega)
  generalize ns (List.replicate (4 * w) 0) = z at *
  simp (disch := ((fail_if_success (intro _)); omega)) only [go_sem, simprocAttr, ↓reduceIte, ↓Nat.reduceEqDiff, xx, fd15, m15, c35, hr, hL, hz, hft]
end
end Go.Proofs.S08
namespace Go.Proofs.S08
open Go Go.Ev Go.Proofs
set_option linter.unusedSimpArgs false
set_option linter.unusedVariables false
section
variable {gl : Gl} {n : Nat}
theorem new_arg (h : 4 ≤ n) {w s : Int} {b : Bool} (hb : b = false ∨ s < 1) (c35 : call gl tab (n - 1) 35 [i64 w] [] = some (.bool b, [], [])) :
    call gl tab n 15 [i64 w, i64 s] [] = some (.tup [.agg [i64 0, i64 0, i64 0, .lst true .sc []], i64 1], [], []) := by
  obtain ⟨d, rfl⟩ := Nat.exists_eq_add_of_le' h
  rw [show d + 4 - 1 = d + 3 from rfl] at c35
  rw [call_go (fd := fd15) rfl]
  cases b with
  | false => simp (disch := ((fail_if_success (intro _)); omega)) only [go_sem, simprocAttr, ↓reduceIte, ↓Nat.reduceEqDiff, xx, fd15, m15, c35]
  | true =>
    have h1 : s < 1 := by rcases hb with h | h; cases h; exact h
    simp (disch := ((fail_if_success (intro _)); omega)) only [go_sem, simprocAttr, ↓reduceIte, ↓Nat.reduceEqDiff, xx, fd15, m15, c35]
theorem new_lim (h : 4 ≤ n) {w s : Int} (hs : 1 ≤ s) (hw : 4096 < w ∨ 1048576 < s) (c35 : call gl tab (n - 1) 35 [i64 w] [] = some (.bool true, [], [])) :
    call gl tab n 15 [i64 w, i64 s] [] = some (.tup [.agg [i64 0, i64 0, i64 0, .lst true .sc []], i64 2], [], []) := by
  obtain ⟨d, rfl⟩ := Nat.exists_eq_add_of_le' h
  rw [show d + 4 - 1 = d + 3 from rfl] at c35
  rw [call_go (fd := fd15) rfl]
  by_cases h1 : 4096 < w
  · simp (disch := ((fail_if_success (intro _)); omega)) only [go_sem, simprocAttr, ↓reduceIte, ↓Nat.reduceEqDiff, xx, fd15, m15, c35]
  · simp (disch := ((fail_if_success (intro _)); omega)) only [go_sem, simprocAttr, ↓reduceIte, ↓Nat.reduceEqDiff, xx, fd15, m15, c35]
end
theorem pl_1 (key : List UInt8) : pl key 1 = fun r => r := by
  funext r; unfold pl; rw [Nat.mod_one]; omega
theorem nat_rep {k i : Nat} (h : i < k) (c : Int) : nat (List.replicate k c) i = c := by simp [nat, h]
theorem lea_zero {w : Nat} {key : List UInt8} (hw : 1 ≤ w) : lea (List.replicate (4 * w) 0) (pl key w) 4 = 0 := by
  simp only [lea, nat_rep (pl_lt (key := key) hw (show 0 < 4 by decide)), nat_rep (pl_lt (key := key) hw (show 1 < 4 by decide)), nat_rep (pl_lt (key := key) hw (show 2 < 4 by decide)), nat_rep (pl_lt (key := key) hw (show 3 < 4 by decide))]
  decide
theorem fil_zero (k : Nat) : ∀ i, i ≤ k → fil (List.replicate k 0) i = 0
  | 0, _ => rfl
  | i + 1, h => by rw [fil, fil_zero k i (by omega), nat_rep (by omega), if_pos rfl]; rfl
theorem one_0 (key : List UInt8) : addR 1 100 0 (List.replicate 4 0) key = (1, [1, 1, 1, 1]) := by unfold addR adL; rw [pl_1]; decide
theorem one_1 (key : List UInt8) : addR 1 100 1 [1, 1, 1, 1] key = (2, [2, 2, 2, 2]) := by unfold addR adL; rw [pl_1]; decide
theorem one_2 (key : List UInt8) : addR 1 100 2 [2, 2, 2, 2] key = (3, [3, 3, 3, 3]) := by unfold addR adL; rw [pl_1]; decide
theorem few_0 (key : List UInt8) : addR 1 4 0 (List.replicate 4 0) key = (1, [1, 1, 1, 1]) := by unfold addR adL; rw [pl_1]; decide
theorem few_1 (key : List UInt8) : addR 1 4 1 [1, 1, 1, 1] key = (2, [2, 2, 2, 2]) := by unfold addR adL; rw [pl_1]; decide
theorem few_2 (key : List UInt8) : addR 1 4 2 [2, 2, 2, 2] key = (3, [3, 3, 3, 3]) := by unfold addR adL; rw [pl_1]; decide
theorem few_3 (key : List UInt8) : addR 1 4 3 [3, 3, 3, 3] key = (2, [2, 2, 2, 2]) := by unfold addR adL; rw [pl_1]; decide
def fewL (i : Nat) : Int × List Int := match i with | 0 => (0, List.replicate 4 0) | 1 => (1, [1, 1, 1, 1]) | 2 => (2, [2, 2, 2, 2]) | 3 => (3, [3, 3, 3, 3]) | _ => (2, [2, 2, 2, 2])
theorem cs4 {x : Int} (h : 0 ≤ x ∧ x ≤ 15) : Cs [x, x, x, x] := fun i hi => by
  match i, hi with
  | 0, _ => exact h
  | 1, _ => exact h
  | 2, _ => exact h
  | 3, _ => exact h
theorem sk1 {s a x : Int} (hs : 1 ≤ s ∧ s ≤ 1048576) (ha : 0 ≤ a ∧ a < s) (h : 0 ≤ x ∧ x ≤ 15) : Sk 1 s a [x, x, x, x] := ⟨by omega, hs, ha, rfl, cs4 h⟩
end Go.Proofs.S08
namespace Go.Proofs.S08
open Go Go.Ev Go.Proofs
set_option linter.unusedSimpArgs false
set_option linter.unusedVariables false
variable {gl : Gl} {n : Nat} [Nonempty (H.GlK gl)]
def L11 : MC := match m11 with | .seq _ (.seq _ (.seq _ (.seq _ (.seq _ (.seq _ (.seq _ (.seq _ (.seq _ (.seq (.seq _ (.block _ (.loop _ b))) _))))))))) => b | _ => .skip
abbrev sk (w s a : Int) (l : List Int) : AV := .agg [i64 w, i64 s, i64 a, .lst false .sc (ns l)]
def S11 (i : Nat) : St := ⟨[.set 13 (i64 i), .set 12 (i64 0), .set 11 (.ptr 11 []), .set 10 (i64 0), .set 9 (.ptr 9 [])], [(11, .fix sK (sk 1 4 (fewL i).1 (fewL i).2)), (9, .fix sK (sk 1 100 3 [3, 3, 3, 3]))]⟩
theorem few_add (h : 12 ≤ n) {i : Nat} (hi : i < 4) : call gl tab n 12 [sk 1 4 (fewL i).1 (fewL i).2, .str [97]] [] = some (sk 1 4 (fewL (i + 1)).1 (fewL (i + 1)).2, [], []) := by
  have hl : ([97] : List UInt8).length ≤ 1000 := by decide
  match i, hi with
  | 0, _ =>
    have c := @add_at gl n _ h [97] hl 1 4 0 false (List.replicate 4 0) ⟨by omega, by omega, by omega, rfl, cs4 (x := 0) (by omega)⟩
    rw [few_0] at c; exact c
  | 1, _ =>
    have c := @add_at gl n _ h [97] hl 1 4 1 false [1, 1, 1, 1] (sk1 (by omega) (by omega) (by omega))
    rw [few_1] at c; exact c
  | 2, _ =>
    have c := @add_at gl n _ h [97] hl 1 4 2 false [2, 2, 2, 2] (sk1 (by omega) (by omega) (by omega))
    rw [few_2] at c; exact c
  | 3, _ =>
    have c := @add_at gl n _ h [97] hl 1 4 3 false [3, 3, 3, 3] (sk1 (by omega) (by omega) (by omega))
    rw [few_3] at c; exact c
set_option maxHeartbeats 4000000 in
theorem sanity_at (h : 14 ≤ n) : call gl tab n 11 [] [] = some (.bool true, [], []) := by
  obtain ⟨d, rfl⟩ := Nat.exists_eq_add_of_le' h
  have a1 : call gl tab (d + 13) 15 [.int .i64 8, .int .i64 100] [] = some (.tup [sk 8 100 0 (List.replicate 32 0), i64 0], [], []) := new_ok (w := 8) (by omega) (by omega) (by omega) (pow_8 _)
  have a2 : call gl tab (d + 13) 15 [.int .i64 6, .int .i64 100] [] = some (.tup [.agg [i64 0, i64 0, i64 0, .lst true .sc []], i64 1], [], []) := new_arg (by omega) (.inl rfl) (pow_6 _)
  have a3 : call gl tab (d + 13) 15 [.int .i64 8192, .int .i64 100] [] = some (.tup [.agg [i64 0, i64 0, i64 0, .lst true .sc []], i64 2], [], []) := new_lim (by omega) (by omega) (.inl (by omega)) (pow_8192 _)
  have a4 : call gl tab (d + 13) 15 [.int .i64 8, .int .i64 0] [] = some (.tup [.agg [i64 0, i64 0, i64 0, .lst true .sc []], i64 1], [], []) := new_arg (by omega) (.inr (by omega)) (pow_8 _)
  have a5 : call gl tab (d + 13) 15 [.int .i64 1, .int .i64 100] [] = some (.tup [sk 1 100 0 (List.replicate 4 0), i64 0], [], []) := new_ok (w := 1) (by omega) (by omega) (by omega) (pow_1 _)
  have a6 : call gl tab (d + 13) 15 [.int .i64 1, .int .i64 4] [] = some (.tup [sk 1 4 0 (List.replicate 4 0), i64 0], [], []) := new_ok (w := 1) (by omega) (by omega) (by omega) (pow_1 _)
  have hl : ∀ x : UInt8, ([x] : List UInt8).length ≤ 1000 := fun x => by simp
  have b1 : call gl tab (d + 13) 17 [sk 8 100 0 (List.replicate 32 0), .str [97]] [] = some (i64 0, [], []) := by
    have c := @count_at gl (d + 13) _ (by omega) [97] (hl 97) 8 (by omega) 100 0 false (List.replicate (4 * 8) 0) (by simp)
    rw [lea_zero (by omega)] at c; exact c
  have b2 : call gl tab (d + 13) 23 [sk 8 100 0 (List.replicate 32 0)] [] = some (i64 0, [], []) := by
    have c := @fill_at gl (d + 13) (by omega) false 8 100 0 (List.replicate 32 0) (by simp)
    rw [fil_zero 32 _ (by simp)] at c; exact c
  have g1 : call gl tab (d + 13) 12 [sk 1 100 0 (List.replicate 4 0), .str [97]] [] = some (sk 1 100 1 [1, 1, 1, 1], [], []) := by
    have c := @add_at gl (d + 13) _ (by omega) [97] (hl 97) 1 100 0 false (List.replicate 4 0) ⟨by omega, by omega, by omega, rfl, cs4 (x := 0) (by omega)⟩
    rw [one_0] at c; exact c
  have g2 : call gl tab (d + 13) 12 [sk 1 100 1 [1, 1, 1, 1], .str [98]] [] = some (sk 1 100 2 [2, 2, 2, 2], [], []) := by
    have c := @add_at gl (d + 13) _ (by omega) [98] (hl 98) 1 100 1 false [1, 1, 1, 1] (sk1 (by omega) (by omega) (by omega))
    rw [one_1] at c; exact c
  have g3 : call gl tab (d + 13) 12 [sk 1 100 2 [2, 2, 2, 2], .str [97]] [] = some (sk 1 100 3 [3, 3, 3, 3], [], []) := by
    have c := @add_at gl (d + 13) _ (by omega) [97] (hl 97) 1 100 2 false [2, 2, 2, 2] (sk1 (by omega) (by omega) (by omega))
    rw [one_2] at c; exact c
  have e3 : ∀ x : UInt8, call gl tab (d + 13) 17 [sk 1 100 3 [3, 3, 3, 3], .str [x]] [] = some (i64 3, [], []) := fun x => by
    have c := @count_at gl (d + 13) _ (by omega) [x] (hl x) 1 (by omega) 100 3 false [3, 3, 3, 3] rfl
    rw [pl_1] at c; exact c
  have e2 : call gl tab (d + 13) 17 [sk 1 4 2 [2, 2, 2, 2], .str [122]] [] = some (i64 2, [], []) := by
    have c := @count_at gl (d + 13) _ (by omega) [122] (hl 122) 1 (by omega) 4 2 false [2, 2, 2, 2] rfl
    rw [pl_1] at c; exact c
  have hz32 : (ns (List.replicate 32 0)).length = 32 := rfl
  have hst : ∀ i, i < 4 → contK [.slot 9, .slot 10, .slot 11, .slot 12, .slot 13, .key 9, .key 11] (evC gl (call gl tab (d + 13)) L11 (S11 i)) = some (S11 (i + 1)) := fun i hi => by
    have c := @few_add gl (d + 13) _ (by omega) i hi
    rw [S11, S11]
    generalize fewL (i + 1) = q2 at *
    generalize fewL i = q1 at *
    simp (disch := ((fail_if_success (intro _)); omega)) only [go_sem, simprocAttr, ↓reduceIte, ↓Nat.reduceEqDiff, xx, L11, m11, c]
  simp only [L11, m11] at hst
  have hf0 : fewL 0 = (0, List.replicate 4 0) := rfl
  have hf4 : fewL 4 = (2, [2, 2, 2, 2]) := rfl
  generalize hz : List.replicate 32 (0 : Int) = z32 at *
  generalize hz2 : List.replicate 4 (0 : Int) = z4 at *
  rw [call_go (fd := fd11) rfl]
  simp (disch := ((fail_if_success (intro _)); omega)) only [go_sem, simprocAttr, ↓reduceIte, ↓Nat.reduceEqDiff, xx, fd11, m11, a1, a2, a3, a4, a5, a6, b1, b2, g1, g2, g3, hz32]
  rw [iter_to S11 4 (by unfold LF; omega)]
  · rw [S11, hf4]; simp (disch := ((fail_if_success (intro _)); omega)) only [go_sem, simprocAttr, ↓reduceIte, ↓Nat.reduceEqDiff, xx, e3, e2]
  · rw [S11, hf0]; simp (disch := ((fail_if_success (intro _)); omega)) only [go_sem, simprocAttr, ↓reduceIte, ↓Nat.reduceEqDiff, xx]
  · exact hst
  · rw [S11, hf4]; simp (disch := ((fail_if_success (intro _)); omega)) only [go_sem, simprocAttr, ↓reduceIte, ↓Nat.reduceEqDiff, xx]
end Go.Proofs.S08
