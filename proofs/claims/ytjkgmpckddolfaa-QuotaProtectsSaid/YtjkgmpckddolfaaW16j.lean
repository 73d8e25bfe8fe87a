/-
  Chapter 16: the victim. No condition.
-/
import Derived.Test.YtjkgmpckddolfaaW16m
set_option linter.unusedVariables false
set_option linter.unusedSimpArgs false
set_option linter.unusedSectionVars false
namespace Go.Proofs.S16
open Go Go.Ev Go.Proofs
set_option linter.unusedSimpArgs false
set_option linter.unusedVariables false
variable {gl : Gl} {n : Nat}
theorem ns_noImms : ∀ (l : List Int), noImms (ns l) = true
  | [] => rfl
  | x :: l => by
    have := ns_noImms l
    rw [ns, List.map_cons, noImms, ← ns, this]; rfl
def L29 : MC := match m29 with | .seq _ (.seq _ (.seq _ (.seq _ (.seq (.seq _ (.block _ (.loop _ b))) _)))) => b | _ => .skip
def S29 (l : List A3) (k : Nat) (c v : Int) (i : Nat) : St :=
  ⟨[.set 45 (i64 i), .set 44 (i64 l.length), .set 43 (.lst false sA (ac l)), .set 12 (.sl 5012 [] 0 i), .set 10 (i64 k), .set 3 (i64 v), .set 1 (.lst false sA (ac l)), .set 0 (i64 c)], [(5012, .grow sS (sh ((shA l).take i)))]⟩
theorem vloop {d : Nat} {l : List A3} (hv : VA l) (k : Nat) (c v : Int) : ∀ i, i < l.length → contK [.slot 0, .slot 1, .slot 3, .slot 10, .own 12 5012 (.st [.sc, .sc]), .slot 43, .slot 44, .slot 45] (evC gl (call gl tab d) L29 (S29 l k c v i)) = some (S29 l k c v (i + 1)) := fun i hi => by
  have hn := hv.n
  have hx := ac_at hi
  have hw := @shA_length l
  have hlen : ((shA l).take i).length = i := by rw [List.length_take, hw]; omega
  have htk := fun x => sh_take ((shA l).take i) x
  rw [hlen] at htk
  have hlim : i + 1 ≤ LIM := by unfold LIM; omega
  have et := take_wnt (show i < (shA l).length by omega)
  rw [sat_shA hi] at et
  simp (disch := ((fail_if_success (intro _)); omega)) only [go_sem, simprocAttr, ↓reduceIte, xx, L29, m29, S29, ac_length, hx, sh_length, hlen, hlim, et, sh_app, htk]
theorem get1_nn {l : List S2} (hv : VS l) {c m : Int} (hq : Lv l c m) {i : Nat} (hi : i < l.length) : 0 ≤ nat (gets l m c l.length) i ∧ nat (gets l m c l.length) i ≤ 1099511627776 := by
  have h0 := hq.lo; have h00 := hq.hi
  rw [gets_at l m c hi]
  have h1 := lef_bd hv hq (show i ≤ l.length by omega)
  have h2 := at1_bd (hv.ok i hi) (show 0 ≤ m ∧ m ≤ 1099511627777 by omega)
  have h3 := mor_bd (hv.ok i hi) (show 0 ≤ m ∧ m ≤ 1099511627777 by omega) h1.1
  have h4 := (hv.ok i hi).x
  unfold get1; omega
set_option maxHeartbeats 2000000 in
theorem victim_all (h : 12 ≤ n) {l : List A3} (hv : VA l) {q c v : Int} {k : Nat} (hc : 0 ≤ c ∧ c ≤ 1099511627776) (hvv : 0 ≤ v ∧ v ≤ 1099511627776) (hk : k < l.length) {m : Int} (hm : Lv (wnt l k v) c m)
    (ht : c < sumU l l.length + v) (c40 : call gl tab (n - 1) 40 [.lst false sA (ac l), i64 q] [] = some (.tup [i64 k, .bool true], [], [])) :
    call gl tab n 29 [i64 c, .lst false sA (ac l), i64 q, i64 v] [] = some (if nat (gets (wnt l k v) m c l.length) k < (aat l k).u + v then .tup [i64 0, i64 160] else .tup [i64 (bst l (gets (wnt l k v) m c l.length) k l.length).1, i64 0], [], []) := by
  obtain ⟨d, rfl⟩ := Nat.exists_eq_add_of_le' h
  rw [show d + 12 - 1 = d + 11 from rfl] at c40
  have hn := hv.n
  have hu := (hv.ok k hk).u
  have hs := sumU_bd hv (Nat.le_refl l.length)
  have c27 := @total_at gl (d + 11) (by omega) false sA l (.inr rfl) hv
  have hvl := @vloop gl (d + 11) l hv k c v
  have hx := ac_at hk
  have hws := wnt_valid hv (k := k) hvv
  have c16 := @fair_at gl (d + 11) (by omega) false sS (wnt l k v) (.inr rfl) hws c hc m hm
  have hsx := sh_at (show k < (shA l).length by rw [shA_length]; exact hk)
  rw [sat_shA hk] at hsx
  have e2 : (if (aat l k).u + v < 1099511627776 then (aat l k).u + v else 1099511627776) = mn 1099511627776 ((aat l k).u + v) := rfl
  have hset : (sh (shA l)).set k (.agg [i64 (aat l k).w, i64 (mn 1099511627776 ((aat l k).u + v))]) = sh (wnt l k v) := by simp [sh, wnt, List.map_set]
  have htk := sh_take' (wnt l k v)
  have hgb := fun i hi => @get1_nn (wnt l k v) hws c m hm i hi
  rw [wnt_length] at htk c16 hgb
  have hgl := gets_length (wnt l k v) m c l.length
  have hgx := ns_at (show k < (gets (wnt l k v) m c l.length).length by rw [hgl]; exact hk)
  have ht2 : (shA l).take l.length = shA l := by rw [← shA_length l]; exact List.take_length
  have c44 := @excess_at gl (d + 11) (by omega) l (gets (wnt l k v) m c l.length) k l.length
  have c50 := @excess_all gl (d + 11) (by omega) l (gets (wnt l k v) m c l.length) k hv hgl hgb
  have him := ns_noImms (gets (wnt l k v) m c l.length)
  generalize gets (wnt l k v) m c l.length = g at *
  have h0 := hgb k hk
  simp only [L29, m29] at hvl
  rw [call_go (fd := fd29) rfl]
  simp (disch := ((fail_if_success (intro _)); omega)) only [go_sem, simprocAttr, ↓reduceIte, xx, fd29, m29, ac_length, c40, c27]
  rw [iter_to (S29 l k c v) l.length (by unfold LF; omega)]
  · by_cases hg : nat g k < (aat l k).u + v
    · simp (disch := ((fail_if_success (intro _)); omega)) only [go_sem, simprocAttr, ↓reduceIte, xx, S29, ac_length, hx, ht2, sh_length, shA_length, hsx, foldO, minAV, gt_iff_lt, e2, hset, htk, wnt_length, c16, ns_length, hgl, hgx, him, hg]
    · simp (disch := ((fail_if_success (intro _)); omega)) only [go_sem, simprocAttr, ↓reduceIte, xx, S29, ac_length, hx, ht2, sh_length, shA_length, hsx, foldO, minAV, gt_iff_lt, e2, hset, htk, wnt_length, c16, ns_length, hgl, hgx, him, hg]
      simp (maxSteps := 1000000) (disch := ((fail_if_success (intro _)); omega)) only [go_sem, simprocAttr, ↓reduceIte, xx, c44, ac_length, ns_length, hgl, c50]
  · simp (disch := ((fail_if_success (intro _)); omega)) only [go_sem, simprocAttr, ↓reduceIte, xx, S29, ac_length, List.take_zero, sh_nil]
  · exact hvl
  · simp (disch := ((fail_if_success (intro _)); omega)) only [go_sem, simprocAttr, ↓reduceIte, xx, S29, ac_length]
end Go.Proofs.S16
