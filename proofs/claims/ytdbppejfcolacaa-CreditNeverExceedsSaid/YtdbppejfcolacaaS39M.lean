/-
  Chapter 39: what putting a row or a coin in its place keeps. No program in sight. No condition.
-/
import Derived.Test.YtdbppejfcolacaaS39r
import Derived.Test.YtdbppejfcolacaaS39cf
set_option linter.unusedVariables false
set_option linter.unusedSimpArgs false
set_option linter.unusedSectionVars false
namespace Go.Proofs.S39
open Go Go.Ev Go.Proofs
set_option linter.unusedSimpArgs false
set_option linter.unusedVariables false
theorem at_set {l : List Q4} {k : Nat} {x : Q4} (hk : k < l.length) (j : Nat) : at' (l.set k x) j = if j = k then x else at' l j := by
  unfold at'
  rw [List.getD_eq_getElem?_getD, List.getD_eq_getElem?_getD, List.getElem?_set]
  by_cases h : k = j
  · subst h; simp [hk]
  · rw [if_neg h, if_neg (fun e => h e.symm)]
theorem putL_set {l : List Q4} {k : Nat} {x : Q4} (hk : k < l.length) (hc : (at' l k).cmp x = 0) : putL l k x = l.set k x := by
  rw [putL, if_pos ⟨hk, hc⟩, List.set_eq_take_append_cons_drop, if_pos hk]
/-- Nothing is new but what came back, which is no less. -/
structure Upd (l : List Q4) (k : Nat) (x : Q4) : Prop where
  lt : k < l.length
  w : x.w = (at' l k).w
  g : x.g = (at' l k).g
  d : x.d = (at' l k).d
  lo : (at' l k).b ≤ x.b
  hi : x.b ≤ x.d
section
variable {l : List Q4} {k : Nat} {x : Q4} (h : Upd l k x)
include h
theorem upd_w (j : Nat) : (at' (l.set k x) j).w = (at' l j).w := by rw [at_set h.lt]; split <;> simp_all [h.w]
theorem upd_g (j : Nat) : (at' (l.set k x) j).g = (at' l j).g := by rw [at_set h.lt]; split <;> simp_all [h.g]
theorem upd_d (j : Nat) : (at' (l.set k x) j).d = (at' l j).d := by rw [at_set h.lt]; split <;> simp_all [h.d]
theorem upd_b (j : Nat) : (at' l j).b ≤ (at' (l.set k x) j).b := by
  rw [at_set h.lt]; split
  · rename_i e; subst e; exact h.lo
  · exact Int.le_refl _
theorem upd_cmp (j : Nat) (y : Q4) : (at' (l.set k x) j).cmp y = (at' l j).cmp y := by simp only [Q4.cmp, upd_w h, upd_g h]
theorem upd_sum : ∀ i, sumF (l.set k x) i ≤ sumF l i
  | 0 => Int.le_refl _
  | i + 1 => by
    have h1 := upd_sum i
    have h2 := upd_b h i
    rw [sumF, sumF, upd_w h, upd_w h, upd_d h]
    split <;> omega
theorem upd_out (w : Int) : ∀ i, outF (l.set k x) w i ≤ outF l w i
  | 0 => Int.le_refl _
  | i + 1 => by
    have h1 := upd_out w i
    have h2 := upd_b h i
    rw [outF, outF, upd_w h, upd_d h]
    split <;> omega
theorem upd_lb {y : Q4} {k' : Nat} (hk : Lb l y k') : Lb (l.set k x) y k' :=
  ⟨by rw [List.length_set]; exact hk.le, fun t ht => by rw [upd_cmp h]; exact hk.lo t ht, fun t h1 h2 => by rw [upd_cmp h]; exact hk.hi t h1 (by rwa [List.length_set] at h2)⟩
theorem upd_vb {c len : Int} (hv : VB c len l) : VB c len (l.set k x) :=
  ⟨hv.c, hv.n, by rw [List.length_set]; exact hv.r, fun i hi => by
    rw [List.length_set] at hi
    have h0 := hv.ok i hi
    refine ⟨by rw [upd_w h]; exact h0.w, by rw [upd_g h]; exact h0.g, by rw [upd_d h]; exact h0.d, ?_, fun hp => ?_, Int.le_trans (upd_sum h _) h0.s⟩
    · rw [upd_d h, at_set h.lt]
      split
      · rename_i e; subst e
        have := h0.b; have := h.lo; have := h.hi; have := h.d; omega
      · exact h0.b
    · have := h0.o hp
      rw [upd_cmp h]
      simp only [Q4.cmp, upd_w h, upd_g h] at this ⊢
      exact this⟩
end
/-- What came back makes an update. -/
theorem back_upd {c len : Int} {l : List Q4} (hv : VB c len l) {k : Nat} {w g t : Int} (hkn : Kn l k w g) (ht : t ≤ (at' l k).d) : Upd l k (back l k w g t) := by
  have hb := (hv.ok k hkn.1).b
  have hc := cmp_eq.1 hkn.2
  refine ⟨hkn.1, hc.1.symm, hc.2.symm, by rw [back, rowOr_kn hkn], ?_, ?_⟩
  · rw [back, rowOr_kn hkn]; simp only [mx]; split <;> omega
  · rw [back, rowOr_kn hkn]; simp only [mx]; split <;> omega
theorem ret_set {l : List Q4} {k : Nat} {w g t : Int} (hkn : Kn l k w g) : retL l k w g t = l.set k (back l k w g t) := by
  rw [retL, if_pos hkn, putL_set hkn.1]
  have := cmp_eq.1 hkn.2
  exact cmp_eq.2 ⟨this.1, this.2⟩
theorem ret_nkn {l : List Q4} {k : Nat} {w g t : Int} (hkn : ¬ Kn l k w g) : retL l k w g t = l := by rw [retL, if_neg hkn]
/-- Old news. -/
theorem ret_old {c len : Int} {l : List Q4} (hv : VB c len l) {k : Nat} {w g hi : Int} (hk : Lb l (key w g) k) (ha : RArg l k w g hi) :
    VB c len (retL l k w g hi) ∧ Lb (retL l k w g hi) (key w g) k ∧ outF (retL l k w g hi) w (retL l k w g hi).length ≤ outF l w l.length ∧
    ∀ t, 0 ≤ t → t ≤ hi → RArg (retL l k w g hi) k w g t ∧ retL (retL l k w g hi) k w g t = retL l k w g hi := by
  by_cases hkn : Kn l k w g
  · have hd := ha.ht
    rw [rowOr_kn hkn] at hd
    have hu := back_upd hv hkn hd.2
    rw [ret_set hkn]
    have hkn2 : Kn (l.set k (back l k w g hi)) k w g := ⟨by rw [List.length_set]; exact hkn.1, by rw [upd_cmp hu]; exact hkn.2⟩
    have hat : at' (l.set k (back l k w g hi)) k = back l k w g hi := by rw [at_set hkn.1, if_pos rfl]
    have hbd : (back l k w g hi).d = (at' l k).d := by rw [back, rowOr_kn hkn]
    refine ⟨upd_vb hu hv, upd_lb hu hk, by rw [List.length_set]; exact upd_out hu w _, fun t h0 h1 => ?_⟩
    refine ⟨⟨ha.hw, ha.hg, by rw [rowOr_kn hkn2, hat, hbd]; omega⟩, ?_⟩
    rw [ret_set hkn2]
    have e : back (l.set k (back l k w g hi)) k w g t = back l k w g hi := by
      rw [back, rowOr_kn hkn2, hat]
      simp only [back, mx, rowOr_kn hkn]
      congr 1
      split <;> split <;> omega
    rw [e, List.set_set]
  · have hd := ha.ht
    rw [rowOr_nkn hkn] at hd
    simp only at hd
    rw [ret_nkn hkn]
    exact ⟨hv, hk, Int.le_refl _, fun t h0 h1 => ⟨⟨ha.hw, ha.hg, by rw [rowOr_nkn hkn]; simp only; omega⟩, ret_nkn hkn⟩⟩
end Go.Proofs.S39
namespace Go.Proofs.S39
namespace Co
open Go Go.Ev Go.Proofs
set_option linter.unusedSimpArgs false
set_option linter.unusedVariables false
set_option linter.unusedSectionVars false
theorem at_ins {l : List Q4} {k : Nat} {x : Q4} (hk : k ≤ l.length) (j : Nat) : at' (l.take k ++ x :: l.drop k) j = if j < k then at' l j else if j = k then x else at' l (j - 1) := by
  unfold at'
  rw [List.getD_eq_getElem?_getD, List.getElem?_append, List.length_take, Nat.min_eq_left hk]
  by_cases h : j < k
  · rw [if_pos h, if_pos h, List.getElem?_take, if_pos h, List.getD_eq_getElem?_getD]
  · rw [if_neg h, if_neg h]
    by_cases e : j = k
    · subst e; simp
    · rw [if_neg e]
      obtain ⟨t, rfl⟩ : ∃ t, j = k + t + 1 := ⟨j - k - 1, by omega⟩
      rw [show k + t + 1 - k = t + 1 by omega, List.getElem?_cons_succ, List.getElem?_drop, show k + t + 1 - 1 = k + t by omega, List.getD_eq_getElem?_getD]
/-- A coin by itself. -/
structure CoinVal (x : Q4) : Prop where
  w : 0 ≤ x.w ∧ x.w ≤ 1099511627776
  g : 0 ≤ x.g ∧ x.g ≤ 1099511627776
  d : 0 ≤ x.d ∧ x.d ≤ x.g
  b : 0 ≤ x.b ∧ x.b ≤ x.g - x.d
theorem coinOk_iff {l : List Q4} {i : Nat} : CoinOk l i ↔ CoinVal (at' l i) ∧ (0 < i → (at' l (i - 1)).w < (at' l i).w) := by
  constructor
  · intro h
    refine ⟨⟨h.w, h.g, h.d, h.b⟩, fun hi => ?_⟩
    obtain ⟨j, rfl⟩ : ∃ j, i = j + 1 := ⟨i - 1, by omega⟩
    exact h.o
  · rintro ⟨h, ho⟩
    refine ⟨h.w, ?_, h.g, h.d, h.b⟩
    cases i with
    | zero => simp only [lastF]; have := h.w; omega
    | succ j => exact ho (Nat.succ_pos _)
theorem coin_val {len : Int} {l : List Q4} (hv : VP len l) (k : Nat) {w : Int} (hw : 0 ≤ w ∧ w ≤ 1099511627776) : CoinVal (coinOr l k (keyW w)) := by
  have h1 := coin_bd hv k w
  have h2 := coin_key l k w
  exact ⟨by rw [h2]; exact hw, ⟨h1.1, h1.2.1⟩, ⟨h1.2.2.1, h1.2.2.2.1⟩, h1.2.2.2.2⟩
theorem put_keeps {len : Int} {l : List Q4} (hv : VP len l) {x : Q4} {k : Nat} (hk : Lb l x k) (hx : CoinVal x) (hr : (k < l.length ∧ (at' l k).cmpW x = 0) ∨ l.length ≠ 10000) :
    VP len (putL l k x) ∧ Lb (putL l k x) x k ∧ at' (putL l k x) k = x ∧ k < (putL l k x).length := by
  have hself : x.cmpW x = 0 := cmp_eq.2 rfl
  by_cases hf : k < l.length ∧ (at' l k).cmpW x = 0
  · have e : putL l k x = l.set k x := by rw [putL, if_pos hf, List.set_eq_take_append_cons_drop, if_pos hf.1]
    have hwk := cmp_eq.1 hf.2
    have hw : ∀ j, (at' (l.set k x) j).w = (at' l j).w := fun j => by
      rw [at_set hf.1]; split
      · rename_i e; subst e; exact hwk.symm
      · rfl
    have hc : ∀ j (y : Q4), (at' (l.set k x) j).cmpW y = (at' l j).cmpW y := fun j y => by simp only [Q4.cmpW, hw]
    rw [e]
    refine ⟨⟨hv.n, by rw [List.length_set]; exact hv.r, fun i hi => ?_⟩, ⟨by rw [List.length_set]; exact hk.le, fun t ht => by rw [hc]; exact hk.lo t ht, fun t h1 h2 => by rw [hc]; exact hk.hi t h1 (by rwa [List.length_set] at h2)⟩, by rw [at_set hf.1, if_pos rfl], by rw [List.length_set]; exact hf.1⟩
    rw [List.length_set] at hi
    obtain ⟨h1, h2⟩ := coinOk_iff.1 (hv.ok i hi)
    refine coinOk_iff.2 ⟨?_, fun h0 => by rw [hw, hw]; exact h2 h0⟩
    rw [at_set hf.1]; split
    · exact hx
    · exact h1
  · have e : putL l k x = l.take k ++ x :: l.drop k := by rw [putL, if_neg hf]
    have hkl := hk.le
    have hlen : (l.take k ++ x :: l.drop k).length = l.length + 1 := by simp; omega
    have hl0 : l.length ≠ 10000 := hr.resolve_left hf
    have hlo : ∀ t, t < k → (at' l t).w < x.w := fun t ht => cmp_lt.1 (hk.lo t ht)
    have hhi : ∀ t, k ≤ t → t < l.length → x.w < (at' l t).w := fun t h1 h2 => by
      have h3 := hk.hi k (Nat.le_refl _) (by omega)
      have h4 : ¬ (at' l k).cmpW x < 0 := by omega
      have h5 : ¬ (at' l k).cmpW x = 0 := fun h => hf ⟨by omega, h⟩
      rw [cmp_lt] at h4; rw [cmp_eq] at h5
      by_cases he : k = t
      · subst he; omega
      · have h6 := cmp_lt.1 (asc_lt (vp_asc hv) (show k < t by omega) h2)
        omega
    rw [e]
    refine ⟨⟨hv.n, by rw [hlen]; have := hv.r; omega, fun i hi => ?_⟩, ⟨by rw [hlen]; omega, fun t ht => ?_, fun t h1 h2 => ?_⟩, by rw [at_ins hkl, if_neg (by omega), if_pos rfl], by rw [hlen]; omega⟩
    · rw [hlen] at hi
      refine coinOk_iff.2 ?_
      rw [at_ins hkl, at_ins hkl]
      by_cases h1 : i < k
      · rw [if_pos h1, if_pos (by omega)]
        exact coinOk_iff.1 (hv.ok i (by omega))
      · by_cases h2 : i = k
        · subst h2
          rw [if_neg h1, if_pos rfl]
          refine ⟨hx, fun h0 => ?_⟩
          rw [if_pos (by omega)]
          exact hlo _ (by omega)
        · rw [if_neg h1, if_neg h2]
          obtain ⟨h3, h4⟩ := coinOk_iff.1 (hv.ok (i - 1) (by omega))
          refine ⟨h3, fun h0 => ?_⟩
          rw [if_neg (by omega)]
          by_cases h5 : i - 1 = k
          · rw [if_pos h5]; exact hhi _ (by omega) (by omega)
          · rw [if_neg h5]; exact h4 (by omega)
    · rw [at_ins hkl, if_pos ht]; exact hk.lo t ht
    · rw [hlen] at h2
      rw [at_ins hkl, if_neg (by omega)]
      split
      · exact Int.le_of_eq hself.symm
      · exact hk.hi _ (by omega) (by omega)
/-- The coin that was put is found. -/
theorem coin_put {len : Int} {l : List Q4} (hv : VP len l) {x : Q4} {k : Nat} {w : Int} (hw : x.w = w) (hk : Lb l (keyW w) k) (hx : CoinVal x) (hr : Kc l k w ∨ l.length ≠ 10000) :
    VP len (putL l k x) ∧ Lb (putL l k x) (keyW w) k ∧ coinOr (putL l k x) k (keyW w) = x := by
  have hc : ∀ y : Q4, y.cmpW x = y.cmpW (keyW w) := fun y => by simp only [Q4.cmpW, hw]
  obtain ⟨h1, h2, h3, h4⟩ := put_keeps hv (lb_key hk hw) hx (hr.imp (fun h => ⟨h.1, by rw [hc]; exact h.2⟩) id)
  refine ⟨h1, lb_key h2 hw.symm, ?_⟩
  have h5 : (at' (putL l k x) k).cmpW (keyW w) = 0 := by
    rw [h3]; exact cmp_eq.2 hw
  rw [coinOr, if_pos ⟨h4, h5⟩, h3]
end Co
end Go.Proofs.S39
