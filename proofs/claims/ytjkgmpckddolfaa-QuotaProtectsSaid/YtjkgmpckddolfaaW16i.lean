/-
  Chapter 16: what accounts want. No condition.
-/
import Derived.Test.YtjkgmpckddolfaaW16f
import Derived.Test.YtjkgmpckddolfaaW16d
set_option linter.unusedVariables false
set_option linter.unusedSimpArgs false
set_option linter.unusedSectionVars false
namespace Go.Proofs.S16
open Go Go.Ev Go.Proofs
set_option linter.unusedSimpArgs false
set_option linter.unusedVariables false
variable {gl : Gl} {n : Nat}
def shA (l : List A3) : List S2 := l.map fun a => ⟨a.w, a.u⟩
def wnt (l : List A3) (k : Nat) (v : Int) : List S2 := (shA l).set k ⟨(aat l k).w, mn 1099511627776 ((aat l k).u + v)⟩
theorem shA_length (l : List A3) : (shA l).length = l.length := by simp [shA]
theorem wnt_length (l : List A3) (k : Nat) (v : Int) : (wnt l k v).length = l.length := by simp [wnt, shA_length]
theorem sat_shA {l : List A3} {i : Nat} (h : i < l.length) : sat (shA l) i = ⟨(aat l i).w, (aat l i).u⟩ := by simp [sat, shA, aat, h]
theorem sat_wnt {l : List A3} {k : Nat} {v : Int} {i : Nat} (h : i < l.length) : sat (wnt l k v) i = ⟨(aat l i).w, if i = k then mn 1099511627776 ((aat l k).u + v) else (aat l i).u⟩ := by
  unfold wnt sat
  rw [List.getD_eq_getElem?_getD]
  by_cases e : i = k
  · subst e; rw [List.getElem?_set_self (by rw [shA_length]; exact h), if_pos rfl]; rfl
  · rw [List.getElem?_set_ne (by omega), if_neg e]
    have := sat_shA h
    rw [sat, List.getD_eq_getElem?_getD] at this
    exact this
theorem wnt_valid {l : List A3} (hv : VA l) {k : Nat} {v : Int} (hvv : 0 ≤ v ∧ v ≤ 1099511627776) : VS (wnt l k v) := by
  refine ⟨by rw [wnt_length]; exact hv.n, fun i hi => ?_⟩
  rw [wnt_length] at hi
  rw [sat_wnt hi]
  have o := hv.ok i hi
  refine ⟨o.w, ?_⟩
  have := o.u
  simp only
  split
  · rename_i h; subst h
    have := mn_le 1099511627776 ((aat l i).u + v)
    omega
  · exact this
theorem take_wnt {l : List S2} {i : Nat} (h : i < l.length) : l.take (i + 1) = l.take i ++ [sat l i] := by
  rw [List.take_add_one, List.getElem?_eq_getElem h]; simp [sat, List.getD, List.getElem?_eq_getElem h]
def L31 : MC := match m31 with | .seq _ (.seq _ (.seq (.seq _ (.block _ (.loop _ b))) _)) => b | _ => .skip
def S31 (l : List A3) (k : Nat) (q v : Int) (i : Nat) : St :=
  ⟨[.set 8 (i64 i), .set 7 (.sl 5007 [] 0 i), .set 2 (i64 v), .set 1 (i64 q), .set 0 (.lst false sA (ac l))], [(5007, .grow sS (sh ((wnt l k v).take i)))]⟩
set_option maxHeartbeats 1000000 in
theorem rwants_at (h : 1 ≤ n) {l : List A3} (hv : VA l) {k : Nat} (hk : k < l.length) {q v : Int} (hq : (aat l k).t = q) (hvv : 0 ≤ v ∧ v ≤ 1099511627776) :
    call gl tab n 31 [.lst false sA (ac l), i64 q, i64 v] [] = some (.lst false sS (sh (wnt l k v)), [], []) := by
  obtain ⟨d, rfl⟩ := Nat.exists_eq_add_of_le' h
  have hn := hv.n
  have hs : ∀ i, i < l.length → contK [.slot 0, .slot 1, .slot 2, .own 7 5007 (.st [.sc, .sc]), .slot 8] (evC gl (call gl tab d) L31 (S31 l k q v i)) = some (S31 l k q v (i + 1)) := fun i hi => by
    have hx := ac_at hi
    have hu := (hv.ok i hi).u
    have hw := @wnt_length l k v
    have hlen : ((wnt l k v).take i).length = i := by rw [List.length_take, hw]; omega
    have htk := fun x => sh_take ((wnt l k v).take i) x
    rw [hlen] at htk
    have hlim : i + 1 ≤ LIM := by unfold LIM; omega
    have et := take_wnt (show i < (wnt l k v).length by omega)
    rw [sat_wnt hi] at et
    by_cases e : i = k
    · subst e
      have h1 : ((aat l i).t == q) = true := by rw [hq]; simp
      have e2 : (if (aat l i).u + v < 1099511627776 then (aat l i).u + v else 1099511627776) = mn 1099511627776 ((aat l i).u + v) := rfl
      rw [if_pos rfl] at et
      simp (disch := ((fail_if_success (intro _)); omega)) only [go_sem, simprocAttr, ↓reduceIte, xx, L31, m31, S31, ac_length, hx, h1, foldO, minAV, gt_iff_lt, e2, sh_length, hlen, hlim, et, sh_app, htk]
    · have h1 : ((aat l i).t == q) = false := by
        rw [beq_eq_false_iff_ne]; intro h2
        rcases Nat.lt_or_gt_of_ne e with h3 | h3
        · have := ten_lt hv h3 hk; omega
        · have := ten_lt hv h3 hi; omega
      rw [if_neg e] at et
      simp (disch := ((fail_if_success (intro _)); omega)) only [go_sem, simprocAttr, ↓reduceIte, xx, L31, m31, S31, ac_length, hx, h1, sh_length, hlen, hlim, et, sh_app, htk]
  simp only [L31, m31] at hs
  rw [call_go (fd := fd31) rfl]
  simp (disch := ((fail_if_success (intro _)); omega)) only [go_sem, simprocAttr, ↓reduceIte, xx, fd31, m31, ac_length]
  have htk := sh_take' (wnt l k v)
  rw [wnt_length] at htk
  have hw := @wnt_length l k v
  have ht : (wnt l k v).take l.length = wnt l k v := by rw [← hw]; exact List.take_length
  rw [iter_to (S31 l k q v) l.length (by unfold LF; omega)]
  · simp (disch := ((fail_if_success (intro _)); omega)) only [go_sem, simprocAttr, ↓reduceIte, xx, S31, ac_length, ht, sh_length, hw, htk]
  · simp (disch := ((fail_if_success (intro _)); omega)) only [go_sem, simprocAttr, ↓reduceIte, xx, S31, ac_length, List.take_zero, sh_nil]
  · exact hs
  · simp (disch := ((fail_if_success (intro _)); omega)) only [go_sem, simprocAttr, ↓reduceIte, xx, S31, ac_length]
end Go.Proofs.S16
