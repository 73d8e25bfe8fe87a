/-
  Chapter 8: lists mapped; halves; sums. No condition.
-/
import Derived.Test.YtjpfinklpodhnaaDoorW08a
set_option linter.unusedVariables false
set_option linter.unusedSimpArgs false
set_option linter.unusedSectionVars false
namespace Go.Proofs.S08
open Go Go.Ev Go.Proofs
set_option linter.unusedSimpArgs false
set_option linter.unusedVariables false
variable {gl : Gl} {n : Nat}
theorem halve1_at (h : 1 ≤ n) (k x : Int) (hx : 0 ≤ x ∧ x ≤ 30) : call gl tab n 38 [i64 k, i64 x] [] = some (i64 (x / 2), [], []) := by
  obtain ⟨d, rfl⟩ := Nat.exists_eq_add_of_le' h
  have q := quo2 hx.1
  have q4 : 0 ≤ x / 2 ∧ x / 2 ≤ 15 := by omega
  rw [call_go (fd := fd38) rfl]
  simp (disch := ((fail_if_success (intro _)); omega)) only [go_sem, simprocAttr, ↓reduceIte, ↓Nat.reduceEqDiff, xx, fd38, m38, binInt, q]
theorem ns_set (l : List Int) (i : Nat) (v : Int) : (ns l).set i (i64 v) = ns (l.set i v) := by simp [ns]
theorem ns_rep (k : Nat) : List.replicate k (AV.int .i64 0) = ns (List.replicate k 0) := by simp [ns]
/-- The first of what a function makes of a list, and what is not yet made. -/
def mpd (f : Nat → Int) : Nat → List Int
  | 0 => []
  | i + 1 => mpd f i ++ [f i]
def bufM (f : Nat → Int) (N i : Nat) : List Int := mpd f i ++ List.replicate (N - i) 0
theorem mpd_length (f : Nat → Int) : ∀ i, (mpd f i).length = i
  | 0 => rfl
  | i + 1 => by rw [mpd, List.length_append, mpd_length f i]; rfl
theorem bufM_length {f : Nat → Int} {N i : Nat} (h : i ≤ N) : (bufM f N i).length = N := by rw [bufM, List.length_append, mpd_length, List.length_replicate]; omega
theorem bufM_set {f : Nat → Int} {N i : Nat} (h : i < N) : (bufM f N i).set i (f i) = bufM f N (i + 1) := by
  rw [bufM, bufM, mpd, List.set_append_right _ _ (by rw [mpd_length]; exact Nat.le_refl _), mpd_length, Nat.sub_self]
  obtain ⟨k, hk⟩ : ∃ k, N - i = k + 1 := ⟨N - i - 1, by omega⟩
  rw [hk, show N - (i + 1) = k by omega, List.replicate_succ, List.set_cons_zero, List.append_assoc]; rfl
theorem bufM_end (f : Nat → Int) (N : Nat) : bufM f N N = mpd f N := by rw [bufM, Nat.sub_self]; exact List.append_nil _
theorem mpd_hlf (l : List Int) : ∀ i, mpd (fun i => nat l i / 2) i = hlf l i
  | 0 => rfl
  | i + 1 => by rw [mpd, hlf, mpd_hlf l i]
def L36 : MC := match m36 with | .seq _ (.seq _ (.seq (.seq _ (.block _ (.loop _ b))) _)) => b | _ => .skip
def S36 (b : Bool) (fn : AV) (l : List Int) (f : Nat → Int) (i : Nat) : St :=
  ⟨[.set 13 (i64 i), .set 12 (i64 l.length), .set 11 (.lst b .sc (ns l)), .set 5 (.sl 10 [] 0 l.length), .set 1 fn], [(10, .grow .sc (ns (bufM f l.length i)))]⟩
/-- A list's elements are the ones that the function has for them. -/
theorem mapped_at (h : 1 ≤ n) {b : Bool} {l : List Int} {g : Nat} {caps : List AV} {f : Nat → Int} (hg : g < 1000000) (hm : ∀ hp, mapO (lendAV hp 4) caps = some caps) (hr : AV.refss caps = []) (hl : l.length < 2 ^ 20)
    (hf : ∀ i, i < l.length → call gl tab (n - 1) g (i64 i :: i64 (nat l i) :: caps) [] = some (i64 (f i), [], [])) :
    call gl tab n 36 [.lst b .sc (ns l), .fn g caps] [] = some (.sl 20000 [] 0 l.length, [], [.grow .sc (ns (mpd f l.length))]) := by
  obtain ⟨d, rfl⟩ := Nat.exists_eq_add_of_le' h
  rw [show d + 1 - 1 = d from rfl] at hf
  have hlim : l.length ≤ LIM := by unfold LIM; omega
  have hlim2 : (l.length : Int) ≤ (LIM : Nat) := by unfold LIM; omega
  have hs : ∀ i, i < l.length → contK [.slot 1, .slot 5, .slot 11, .slot 12, .slot 13, .key 10] (evC gl (call gl tab d) L36 (S36 b (.fn g caps) l f i)) = some (S36 b (.fn g caps) l f (i + 1)) := fun i hi => by
    have hx := ns_at hi
    have hc := hf i hi
    have hb := @bufM_length f l.length i (by omega)
    have hnx := ns_at (show i < (bufM f l.length i).length by omega)
    have hst := @bufM_set f l.length i hi
    simp (disch := ((fail_if_success (intro _)); omega)) only [go_sem, simprocAttr, ↓reduceIte, ↓Nat.reduceEqDiff, xx, L36, m36, S36, ns_length, hx, hc, hb, hnx, ns_set, hst, hm, hr]
  simp only [L36, m36] at hs
  rw [call_go (fd := fd36) rfl]
  simp (disch := ((fail_if_success (intro _)); omega)) only [go_sem, simprocAttr, ↓reduceIte, ↓Nat.reduceEqDiff, xx, fd36, m36, ns_length, hlim, hlim2]
  have htk := ns_take' (mpd f l.length)
  rw [mpd_length] at htk
  rw [iter_to (S36 b (.fn g caps) l f) l.length (by unfold LF; omega)]
  · simp (disch := ((fail_if_success (intro _)); omega)) only [go_sem, simprocAttr, ↓reduceIte, ↓Nat.reduceEqDiff, xx, S36, ns_length, bufM_end, mpd_length, htk, hm, hr]
  · simp (disch := ((fail_if_success (intro _)); omega)) only [go_sem, simprocAttr, ↓reduceIte, ↓Nat.reduceEqDiff, xx, S36, ns_length, bufM, mpd, ns_rep, List.length_replicate, Nat.sub_zero, List.nil_append, hm, hr]
  · exact hs
  · simp (disch := ((fail_if_success (intro _)); omega)) only [go_sem, simprocAttr, ↓reduceIte, ↓Nat.reduceEqDiff, xx, S36, ns_length]
end Go.Proofs.S08
namespace Go.Proofs.S08
open Go Go.Ev Go.Proofs
set_option linter.unusedSimpArgs false
set_option linter.unusedVariables false
variable {gl : Gl} {n : Nat}
/-- Cells from 0 to 15. -/
def Cs (l : List Int) : Prop := ∀ i, i < l.length → 0 ≤ nat l i ∧ nat l i ≤ 15
theorem ns_noImms : ∀ (l : List Int), noImms (ns l) = true
  | [] => rfl
  | x :: l => by
    have := ns_noImms l
    rw [ns, List.map_cons, noImms, ← ns, this]; rfl
theorem halve_at (h : 3 ≤ n) {f : Bool} {w s a : Int} {l : List Int} (ha : 0 ≤ a ∧ a ≤ 2097152) (hl : l.length < 2 ^ 20) (hc : Cs l) :
    call gl tab n 21 [.agg [i64 w, i64 s, i64 a, .lst f .sc (ns l)]] [] = some (hv w s a l.length, [], [.grow .sc (ns (hlf l l.length))]) := by
  obtain ⟨d, rfl⟩ := Nat.exists_eq_add_of_le' h
  have q2 := quo2 ha.1
  have c36 := @mapped_at gl (d + 2) (by omega) f l 38 [] (fun i => nat l i / 2) (by decide) (fun _ => rfl) rfl hl (fun i hi => halve1_at (by omega) i _ (by have := hc i hi; omega))
  rw [mpd_hlf] at c36
  have him := ns_noImms (hlf l l.length)
  rw [call_gen (fd := fd21) rfl]
  simp (disch := ((fail_if_success (intro _)); omega)) only [go_sem, simprocAttr, ↓reduceIte, ↓Nat.reduceEqDiff, xx, fd21, m21, ns_length, binInt, q2, c36, hv, him]
theorem halve_own (h : 3 ≤ n) {w s a : Int} {l : List Int} (ha : 0 ≤ a ∧ a ≤ 2097152) (hl : l.length < 2 ^ 20) (hc : Cs l) :
    call gl tab n 21 [.aggR [i64 w, i64 s, i64 a, .sl 100000 [] 0 l.length]] [(100000, .grow .sc (ns l))] = some (hv w s a l.length, [(100000, .grow .sc (ns l))], [.grow .sc (ns (hlf l l.length))]) := by
  obtain ⟨d, rfl⟩ := Nat.exists_eq_add_of_le' h
  have q2 := quo2 ha.1
  have c36 := @mapped_at gl (d + 2) (by omega) false l 38 [] (fun i => nat l i / 2) (by decide) (fun _ => rfl) rfl hl (fun i hi => halve1_at (by omega) i _ (by have := hc i hi; omega))
  rw [mpd_hlf] at c36
  have him := ns_noImms (hlf l l.length)
  have htk := ns_take' l
  rw [call_gen (fd := fd21) rfl]
  simp (disch := ((fail_if_success (intro _)); omega)) only [go_sem, simprocAttr, ↓reduceIte, ↓Nat.reduceEqDiff, xx, fd21, m21, ns_length, binInt, q2, c36, hv, him, htk]
/-- What a merged cell is. -/
def m15' (x y : Int) : Int := if 15 < x + y then 15 else x + y
def mg (l r : List Int) (i : Nat) : Int := m15' (nat l i) (nat r i)
theorem m15_bd {x y : Int} (hx : 0 ≤ x ∧ x ≤ 15) (hy : 0 ≤ y ∧ y ≤ 15) : 0 ≤ m15' x y ∧ m15' x y ≤ 15 := by unfold m15'; split <;> omega
theorem merge1_at (h : 1 ≤ n) {w s a : Int} {f : Bool} {r : List Int} {i : Nat} (hi : i < r.length) {x : Int} (hx : 0 ≤ x ∧ x ≤ 15) (hy : 0 ≤ nat r i ∧ nat r i ≤ 15) :
    call gl tab n 37 [i64 i, i64 x, .cp (.st [.sc, .sc, .sc, .sc]) (.agg [i64 w, i64 s, i64 a, .lst f .sc (ns r)])] [] = some (i64 (m15' x (nat r i)), [], []) := by
  obtain ⟨d, rfl⟩ := Nat.exists_eq_add_of_le' h
  have hr := ns_at hi
  have e : (if 15 < x + nat r i then (15 : Int) else x + nat r i) = m15' x (nat r i) := rfl
  rw [call_go (fd := fd37) rfl]
  simp (disch := ((fail_if_success (intro _)); omega)) only [go_sem, simprocAttr, ↓reduceIte, ↓Nat.reduceEqDiff, xx, fd37, m37, ns_length, hr, foldO, minAV, gt_iff_lt, e]
theorem nat_mpd {f : Nat → Int} : ∀ {i j : Nat}, j < i → nat (mpd f i) j = f j
  | i + 1, j, h => by
    rw [mpd, nat, List.getD_eq_getElem?_getD]
    by_cases hj : j < i
    · rw [List.getElem?_append_left (by rw [mpd_length]; exact hj), ← List.getD_eq_getElem?_getD]; exact nat_mpd hj
    · have e : j = i := by omega
      subst e
      rw [List.getElem?_append_right (by rw [mpd_length]; exact Nat.le_refl _), mpd_length, Nat.sub_self]; rfl
/-- What 'Merge' returns of two sketches of one width and sample. -/
def mgL (l r : List Int) : List Int := mpd (mg l r) l.length
theorem mgL_length (l r : List Int) : (mgL l r).length = l.length := mpd_length _ _
theorem mgL_cs {l r : List Int} (hl : Cs l) (hr : Cs r) (h : r.length = l.length) : Cs (mgL l r) := fun i hi => by
  rw [mgL_length] at hi
  rw [mgL, nat_mpd hi]; exact m15_bd (hl i hi) (hr i (by omega))
set_option maxHeartbeats 1000000 in
theorem merge_at (h : 6 ≤ n) {f f' : Bool} {w s a b : Int} {l r : List Int} (ha : 0 ≤ a ∧ a ≤ 1048576) (hb : 0 ≤ b ∧ b ≤ 1048576) (hl : l.length < 2 ^ 20) (hr : r.length = l.length) (hc : Cs l) (hd : Cs r) :
    call gl tab n 19 [.agg [i64 w, i64 s, i64 a, .lst f .sc (ns l)], .agg [i64 w, i64 s, i64 b, .lst f' .sc (ns r)]] [] =
      some (.tup [.agg [i64 w, i64 s, i64 (if s ≤ a + b then (a + b) / 2 else a + b), .lst false .sc (ns (if s ≤ a + b then hlf (mgL l r) l.length else mgL l r))], i64 0], [], []) := by
  obtain ⟨d, rfl⟩ := Nat.exists_eq_add_of_le' h
  have c36 := @mapped_at gl (d + 5) (by omega) f l 37 [.cp (.st [.sc, .sc, .sc, .sc]) (.agg [i64 w, i64 s, i64 b, .lst f' .sc (ns r)])] (mg l r) (by decide) (fun _ => rfl) rfl hl
    (fun i hi => merge1_at (by omega) (by omega) (hc i hi) (hd i (by omega)))
  have c21 := @halve_own gl (d + 5) (by omega) w s (a + b) (mgL l r) (by omega) (by rw [mgL_length]; exact hl) (mgL_cs hc hd hr)
  have him := ns_noImms (mgL l r)
  have htk := ns_take' (mgL l r)
  have htk2 := ns_take' (hlf (mgL l r) l.length)
  rw [hlf_length] at htk2
  rw [mgL_length] at htk
  rw [mgL_length] at c21
  rw [show mpd (mg l r) l.length = mgL l r from rfl] at c36
  rw [call_go (fd := fd19) rfl]
  by_cases hs : s ≤ a + b
  · simp (disch := ((fail_if_success (intro _)); omega)) only [go_sem, simprocAttr, ↓reduceIte, ↓Nat.reduceEqDiff, xx, fd19, m19, ns_length, c36, c21, him, mgL_length, htk, htk2, hv, hlf_length]
  · simp (disch := ((fail_if_success (intro _)); omega)) only [go_sem, simprocAttr, ↓reduceIte, ↓Nat.reduceEqDiff, xx, fd19, m19, ns_length, c36, him, mgL_length, htk]
end Go.Proofs.S08
