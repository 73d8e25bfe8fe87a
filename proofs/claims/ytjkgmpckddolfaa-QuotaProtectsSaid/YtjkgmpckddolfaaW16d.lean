/-
  Chapter 16: the specification's division; comparing. No condition.
-/
import Derived.Test.YtjkgmpckddolfaaW16c
set_option linter.unusedVariables false
set_option linter.unusedSimpArgs false
set_option linter.unusedSectionVars false
namespace Go.Proofs.S16
open Go Go.Ev Go.Proofs
set_option linter.unusedSimpArgs false
set_option linter.unusedVariables false
variable {gl : Gl} {n : Nat}
def L17 : MC := match m17 with | .seq _ (.seq _ (.seq _ (.seq _ (.seq (.seq _ (.block _ (.loop _ b))) _)))) => b | _ => .skip
def S17 (f : Bool) (k : Sh) (l : List S2) (m c : Int) (i : Nat) : St :=
  ⟨[.set 8 (i64 i), .set 7 (.sl 5007 [] 0 i), .set 6 (i64 (lef l m c i)), .set 5 (i64 m), .set 1 (.lst f k (sh l))], [(5007, .grow .sc (ns (gets l m c i)))]⟩
theorem rfair_at (h : 8 ≤ n) {f : Bool} {k : Sh} {l : List S2} (hm : Mk l k sS) (hv : VS l) {c : Int} (hc : 0 ≤ c ∧ c ≤ 1099511627776) {m : Int} (hq : Lv l c m) :
    call gl tab n 17 [i64 c, .lst f k (sh l)] [] = some (.lst false .sc (ns (gets l m c l.length)), [], []) := by
  obtain ⟨d, rfl⟩ := Nat.exists_eq_add_of_le' h
  have hn := hv.n
  have h0 := hq.lo; have h00 := hq.hi
  have hmb : 0 ≤ m ∧ m ≤ 1099511627777 := by omega
  have c14 := @rlevel_at gl (d + 7) (by omega) f k l hm hv c hc m hq
  have c37 := @rall_at gl (d + 7) (by omega) f k l hm hv m hmb
  have hab := all_bd2 hv hmb (Nat.le_refl _)
  have hs : ∀ i, i < l.length → contK [.slot 1, .slot 5, .slot 6, .own 7 5007 .sc, .slot 8] (evC gl (call gl tab (d + 7)) L17 (S17 f k l m c i)) = some (S17 f k l m c (i + 1)) := fun i hi => by
    have hx := sh_at hi
    obtain rfl := hm.eq hi
    have h2 := at1_bd (hv.ok i hi) hmb
    have h3 := lef_bd hv hq (show i ≤ l.length by omega)
    have h5 := mor_bd (hv.ok i hi) hmb h3.1
    have h4 := (hv.ok i hi).x
    have c38 := @rat_at gl (d + 7) (by omega) _ (hv.ok i hi) m hmb
    have e2 : (if (if (sat l i).x - at1 (sat l i) m < (sat l i).w then (sat l i).x - at1 (sat l i) m else (sat l i).w) < lef l m c i then (if (sat l i).x - at1 (sat l i) m < (sat l i).w then (sat l i).x - at1 (sat l i) m else (sat l i).w) else lef l m c i) = mor (sat l i) m (lef l m c i) := (mor_alt _ _ _).symm
    have e3 : at1 (sat l i) m + mor (sat l i) m (lef l m c i) = get1 l m c i := rfl
    have e4 : lef l m c i - mor (sat l i) m (lef l m c i) = lef l m c (i + 1) := rfl
    have e5 : gets l m c (i + 1) = gets l m c i ++ [get1 l m c i] := rfl
    have hl1 : i + 1 ≤ LIM := by unfold LIM; omega
    have htk := ns_take (gets l m c i)
    rw [gets_length] at htk
    simp (disch := ((fail_if_success (intro _)); omega)) only [go_sem, simprocAttr, ↓reduceIte, xx, L17, m17, S17, sh_length, hx, c38, foldO, minAV, gt_iff_lt, e2, e3, e4, ns_length, gets_length, hl1, e5, ns_app, htk]
  simp only [L17, m17] at hs
  have htk := ns_take' (gets l m c l.length)
  rw [gets_length] at htk
  rw [call_go (fd := fd17) rfl]
  simp (disch := ((fail_if_success (intro _)); omega)) only [go_sem, simprocAttr, ↓reduceIte, xx, fd17, m17, sh_length, c14, c37]
  rw [iter_to (S17 f k l m c) l.length (by unfold LF; omega)]
  · simp (disch := ((fail_if_success (intro _)); omega)) only [go_sem, simprocAttr, ↓reduceIte, xx, S17, sh_length, ns_length, gets_length, htk]
  · simp (disch := ((fail_if_success (intro _)); omega)) only [go_sem, simprocAttr, ↓reduceIte, xx, S17, sh_length, lef, gets, ns_nil]
  · exact hs
  · simp (disch := ((fail_if_success (intro _)); omega)) only [go_sem, simprocAttr, ↓reduceIte, xx, S17, sh_length]
/-! ### Comparing -/
def L15 : MC := match m15 with | .seq _ (.seq _ (.seq (.seq _ (.block _ (.loop _ b))) _)) => b | _ => .skip
def S15 (f f' : Bool) (k k' : Sh) (a : List Int) (i : Nat) : St := ⟨[.set 5 (i64 i), .set 1 (.lst f' k' (ns a)), .set 0 (.lst f k (ns a))], []⟩
theorem same_at (h : 1 ≤ n) {f f' : Bool} {k k' : Sh} {a : List Int} (hm : Mk a k .sc) (hm' : Mk a k' .sc) (hl : a.length < 2 ^ 60) : call gl tab n 15 [.lst f k (ns a), .lst f' k' (ns a)] [] = some (.bool true, [], []) := by
  obtain ⟨d, rfl⟩ := Nat.exists_eq_add_of_le' h
  have hs : ∀ i, i < a.length → contK [.slot 0, .slot 1, .slot 5] (evC gl (call gl tab d) L15 (S15 f f' k k' a i)) = some (S15 f f' k k' a (i + 1)) := fun i hi => by
    have hx := ns_at hi
    obtain rfl := hm.eq hi
    obtain rfl := hm'.eq hi
    simp (disch := ((fail_if_success (intro _)); omega)) only [go_sem, simprocAttr, ↓reduceIte, xx, L15, m15, S15, ns_length, hx]
  simp only [L15, m15] at hs
  rw [call_go (fd := fd15) rfl]
  simp (disch := ((fail_if_success (intro _)); omega)) only [go_sem, simprocAttr, ↓reduceIte, xx, fd15, m15, ns_length]
  rw [iter_to (S15 f f' k k' a) a.length (by unfold LF; omega)]
  · simp (disch := ((fail_if_success (intro _)); omega)) only [go_sem, simprocAttr, ↓reduceIte, xx, S15, ns_length]
  · simp (disch := ((fail_if_success (intro _)); omega)) only [go_sem, simprocAttr, ↓reduceIte, xx, S15, ns_length]
  · exact hs
  · simp (disch := ((fail_if_success (intro _)); omega)) only [go_sem, simprocAttr, ↓reduceIte, xx, S15, ns_length]
def L26 : MC := match m26 with | .seq _ (.seq _ (.seq (.seq _ (.block _ (.loop _ b))) _)) => b | _ => .skip
def S26 (f f' : Bool) (k k' : Sh) (a : List A3) (i : Nat) : St := ⟨[.set 5 (i64 i), .set 1 (.lst f' k' (ac a)), .set 0 (.lst f k (ac a))], []⟩
theorem sameA_at (h : 1 ≤ n) {f f' : Bool} {k k' : Sh} {a : List A3} (hm : Mk a k sA) (hm' : Mk a k' sA) (hl : a.length < 2 ^ 60) : call gl tab n 26 [.lst f k (ac a), .lst f' k' (ac a)] [] = some (.bool true, [], []) := by
  obtain ⟨d, rfl⟩ := Nat.exists_eq_add_of_le' h
  have hs : ∀ i, i < a.length → contK [.slot 0, .slot 1, .slot 5] (evC gl (call gl tab d) L26 (S26 f f' k k' a i)) = some (S26 f f' k k' a (i + 1)) := fun i hi => by
    have hx := ac_at hi
    obtain rfl := hm.eq hi
    obtain rfl := hm'.eq hi
    simp (disch := ((fail_if_success (intro _)); omega)) only [go_sem, simprocAttr, ↓reduceIte, xx, L26, m26, S26, ac_length, hx, eqAV, eqAVs, beq_self_eq_true]
  simp only [L26, m26] at hs
  rw [call_go (fd := fd26) rfl]
  simp (disch := ((fail_if_success (intro _)); omega)) only [go_sem, simprocAttr, ↓reduceIte, xx, fd26, m26, ac_length]
  rw [iter_to (S26 f f' k k' a) a.length (by unfold LF; omega)]
  · simp (disch := ((fail_if_success (intro _)); omega)) only [go_sem, simprocAttr, ↓reduceIte, xx, S26, ac_length]
  · simp (disch := ((fail_if_success (intro _)); omega)) only [go_sem, simprocAttr, ↓reduceIte, xx, S26, ac_length]
  · exact hs
  · simp (disch := ((fail_if_success (intro _)); omega)) only [go_sem, simprocAttr, ↓reduceIte, xx, S26, ac_length]
end Go.Proofs.S16
