/-
  Chapter 8: the specification's sum, and comparing. No condition.
-/
import Derived.Test.YtjpfinklpodhnaaDoorW08BB
import Derived.Test.YtjpfinklpodhnaaDoorW08TT
set_option linter.unusedVariables false
set_option linter.unusedSimpArgs false
set_option linter.unusedSectionVars false
namespace Go.Proofs.S08
open Go Go.Ev Go.Proofs
set_option linter.unusedSimpArgs false
set_option linter.unusedVariables false
variable {gl : Gl} {n : Nat}
def L20 : MC := match m20 with | .seq _ (.seq _ (.seq _ (.seq (.seq _ (.block _ (.loop _ b))) _))) => b | _ => .skip
abbrev z4 : AV := .agg [i64 0, i64 0, i64 0, .lst true .sc []]
def S20 (w s a b : Int) (f f' : Bool) (l r : List Int) : Nat → St
  | 0 => ⟨[.set 6 (i64 0), .set 5 (.ptr 5 []), .set 4 (.ptr 4 []), .set 3 (.ptr 3 []), .set 2 (.ptr 2 [])],
    [(5, .fix sK (.agg [i64 w, i64 s, i64 (a + b), .lst true .sc []])), (4, .fix (.st [sK, .sc]) (.agg [z4, i64 0])), (3, .fix sK (.agg [i64 w, i64 s, i64 b, .lst f' .sc (ns r)])), (2, .fix sK (.agg [i64 w, i64 s, i64 a, .lst f .sc (ns l)]))]⟩
  | i + 1 => ⟨[.set 6 (i64 (i + 1 : Nat)), .set 5 (.ptr 5 []), .set 4 (.ptr 4 []), .set 3 (.ptr 3 []), .set 2 (.ptr 2 [])],
    [(6053, .grow .sc (ns (mpd (mg l r) (i + 1)))), (5, .fix sK (.aggR [i64 w, i64 s, i64 (a + b), .sl 6053 [] 0 (i + 1)])), (4, .fix (.st [sK, .sc]) (.agg [z4, i64 0])), (3, .fix sK (.agg [i64 w, i64 s, i64 b, .lst f' .sc (ns r)])), (2, .fix sK (.agg [i64 w, i64 s, i64 a, .lst f .sc (ns l)]))]⟩
set_option maxHeartbeats 1000000 in
theorem rmerge_at (h : 3 ≤ n) {f f' : Bool} {w s a b : Int} {l r : List Int} (ha : 0 ≤ a ∧ a ≤ 1048576) (hb : 0 ≤ b ∧ b ≤ 1048576) (h0 : 0 < l.length) (hl : l.length < 2 ^ 20) (hr : r.length = l.length) (hc : Cs l) (hd : Cs r) :
    call gl tab n 20 [.agg [i64 w, i64 s, i64 a, .lst f .sc (ns l)], .agg [i64 w, i64 s, i64 b, .lst f' .sc (ns r)]] [] =
      some (.agg [.agg [i64 w, i64 s, i64 (if s ≤ a + b then (a + b) / 2 else a + b), .lst false .sc (ns (if s ≤ a + b then hlf (mgL l r) l.length else mgL l r))], i64 0], [], []) := by
  obtain ⟨d, rfl⟩ := Nat.exists_eq_add_of_le' h
  have hs : ∀ i, i < l.length → contK [.slot 2, .slot 3, .slot 4, .slot 5, .slot 6, .key 2, .key 3, .key 4, .key 5, .mv 5 [3] 6053] (evC gl (call gl tab (d + 2)) L20 (S20 w s a b f f' l r i)) = some (S20 w s a b f f' l r (i + 1)) := fun i hi => by
    have hx := ns_at hi
    have hy := ns_at (show i < r.length by omega)
    have b1 := hc i hi
    have b2 := hd i (by omega)
    have hli : i + 1 ≤ LIM := by unfold LIM; omega
    have htk := ns_take (mpd (mg l r) i) (i64 (mg l r i))
    rw [mpd_length] at htk
    by_cases hg : 15 < nat l i + nat r i
    · have e : mg l r i = 15 := by unfold mg m15'; rw [if_pos hg]
      rw [e] at htk
      cases i with
      | zero => simp (disch := ((fail_if_success (intro _)); omega)) only [go_sem, simprocAttr, ↓reduceIte, ↓Nat.reduceEqDiff, xx, L20, m20, S20, ns_length, hx, hy, hr, mpd, e, hli, ns_one, List.nil_append]
      | succ i => simp (disch := ((fail_if_success (intro _)); omega)) only [go_sem, simprocAttr, ↓reduceIte, ↓Nat.reduceEqDiff, xx, L20, m20, S20, ns_length, hx, hy, hr, mpd_length, show mpd (mg l r) (i + 1 + 1) = mpd (mg l r) (i + 1) ++ [mg l r (i + 1)] from rfl, e, hli, ns_app, htk]
    · have e : mg l r i = nat l i + nat r i := by unfold mg m15'; rw [if_neg hg]
      rw [e] at htk
      cases i with
      | zero => simp (disch := ((fail_if_success (intro _)); omega)) only [go_sem, simprocAttr, ↓reduceIte, ↓Nat.reduceEqDiff, xx, L20, m20, S20, ns_length, hx, hy, hr, mpd, e, hli, ns_one, List.nil_append]
      | succ i => simp (disch := ((fail_if_success (intro _)); omega)) only [go_sem, simprocAttr, ↓reduceIte, ↓Nat.reduceEqDiff, xx, L20, m20, S20, ns_length, hx, hy, hr, mpd_length, show mpd (mg l r) (i + 1 + 1) = mpd (mg l r) (i + 1) ++ [mg l r (i + 1)] from rfl, e, hli, ns_app, htk]
  have c22 := @rhalve_own gl (d + 2) (by omega) w s (a + b) (mgL l r) (by omega) (by rw [mgL_length]; exact h0) (by rw [mgL_length]; exact hl) (mgL_cs hc hd hr)
  have hn : ∃ N, l.length = N + 1 := ⟨l.length - 1, by omega⟩
  have htk := ns_take' (mgL l r)
  have htk2 := ns_take' (hlf (mgL l r) l.length)
  rw [hlf_length] at htk2
  rw [mgL_length] at c22 htk
  have hmg : mpd (mg l r) l.length = mgL l r := rfl
  have hml := mgL_length l r
  generalize mgL l r = M at *
  obtain ⟨N, hN⟩ := hn
  simp only [L20, m20] at hs
  rw [call_go (fd := fd20) rfl]
  simp (disch := ((fail_if_success (intro _)); omega)) only [go_sem, simprocAttr, ↓reduceIte, ↓Nat.reduceEqDiff, xx, fd20, m20, ns_length]
  rw [iter_to (S20 w s a b f f' l r) l.length (by unfold LF; omega)]
  · rw [hN] at hmg c22 htk htk2 hml ⊢
    by_cases hs : s ≤ a + b
    · simp (disch := ((fail_if_success (intro _)); omega)) only [go_sem, simprocAttr, ↓reduceIte, ↓Nat.reduceEqDiff, xx, S20, ns_length, hN, hmg, c22, hml, htk, htk2, hv, hlf_length]
    · simp (disch := ((fail_if_success (intro _)); omega)) only [go_sem, simprocAttr, ↓reduceIte, ↓Nat.reduceEqDiff, xx, S20, ns_length, hN, hmg, hml, htk]
  · simp (disch := ((fail_if_success (intro _)); omega)) only [go_sem, simprocAttr, ↓reduceIte, ↓Nat.reduceEqDiff, xx, S20, ns_length]
  · exact hs
  · rw [hN]; simp (disch := ((fail_if_success (intro _)); omega)) only [go_sem, simprocAttr, ↓reduceIte, ↓Nat.reduceEqDiff, xx, S20, ns_length, hN]
end Go.Proofs.S08
namespace Go.Proofs.S08
open Go Go.Ev Go.Proofs
set_option linter.unusedSimpArgs false
set_option linter.unusedVariables false
variable {gl : Gl} {n : Nat}
theorem merge_no (h : 2 ≤ n) {f f' : Bool} {w s a w' s' b : Int} {l r : List Int} (hd : w ≠ w' ∨ s ≠ s') :
    call gl tab n 19 [.agg [i64 w, i64 s, i64 a, .lst f .sc (ns l)], .agg [i64 w', i64 s', i64 b, .lst f' .sc (ns r)]] [] = some (.tup [.agg [i64 0, i64 0, i64 0, .lst true .sc []], i64 1], [], []) := by
  obtain ⟨d, rfl⟩ := Nat.exists_eq_add_of_le' h
  rw [call_go (fd := fd19) rfl]
  by_cases h1 : w = w'
  · have h2 : s ≠ s' := by rcases hd with h | h; exact absurd h1 h; exact h
    have h3 : (w != w') = false := by rw [h1]; simp
    have h4 : (s != s') = true := by rw [bne_iff_ne]; exact h2
    simp (disch := ((fail_if_success (intro _)); omega)) only [go_sem, simprocAttr, ↓reduceIte, ↓Nat.reduceEqDiff, xx, fd19, m19, h3, h4]
  · have h3 : (w != w') = true := by rw [bne_iff_ne]; exact h1
    simp (disch := ((fail_if_success (intro _)); omega)) only [go_sem, simprocAttr, ↓reduceIte, ↓Nat.reduceEqDiff, xx, fd19, m19, h3]
theorem rmerge_no (h : 2 ≤ n) {f f' : Bool} {w s a w' s' b : Int} {l r : List Int} (hd : w ≠ w' ∨ s ≠ s') :
    call gl tab n 20 [.agg [i64 w, i64 s, i64 a, .lst f .sc (ns l)], .agg [i64 w', i64 s', i64 b, .lst f' .sc (ns r)]] [] = some (.agg [.agg [i64 0, i64 0, i64 0, .lst true .sc []], i64 1], [], []) := by
  obtain ⟨d, rfl⟩ := Nat.exists_eq_add_of_le' h
  rw [call_go (fd := fd20) rfl]
  by_cases h1 : w = w'
  · have h2 : s ≠ s' := by rcases hd with h | h; exact absurd h1 h; exact h
    have h3 : (w != w') = false := by rw [h1]; simp
    have h4 : (s != s') = true := by rw [bne_iff_ne]; exact h2
    simp (disch := ((fail_if_success (intro _)); omega)) only [go_sem, simprocAttr, ↓reduceIte, ↓Nat.reduceEqDiff, xx, fd20, m20, h3, h4]
  · have h3 : (w != w') = true := by rw [bne_iff_ne]; exact h1
    simp (disch := ((fail_if_success (intro _)); omega)) only [go_sem, simprocAttr, ↓reduceIte, ↓Nat.reduceEqDiff, xx, fd20, m20, h3]
theorem mpd_congr {f g : Nat → Int} : ∀ {N : Nat}, (∀ i, i < N → f i = g i) → mpd f N = mpd g N
  | 0, _ => rfl
  | i + 1, h => by rw [mpd, mpd, mpd_congr fun j hj => h j (by omega), h i (by omega)]
theorem mgL_comm {l r : List Int} (h : r.length = l.length) : mgL r l = mgL l r := by
  unfold mgL
  rw [h]
  exact mpd_congr fun i hi => by unfold mg m15'; rw [Int.add_comm]
theorem mgL_nat {l r : List Int} {i : Nat} (h : i < l.length) : nat (mgL l r) i = m15' (nat l i) (nat r i) := by rw [mgL, nat_mpd h]; rfl
end Go.Proofs.S08
