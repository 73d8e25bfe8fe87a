/-
  Chapter 39: what is out of a window, when a row is put in its place. No program in sight. No condition.
-/
import Derived.Test.YtdbppejfcolacaaS39M
set_option linter.unusedVariables false
set_option linter.unusedSimpArgs false
set_option linter.unusedSectionVars false
namespace Go.Proofs.S39
open Go Go.Ev Go.Proofs
set_option linter.unusedSimpArgs false
set_option linter.unusedVariables false
set_option linter.unusedSectionVars false
/-- What a row has out of a window. -/
def outV (w : Int) (x : Q4) : Int := if x.w = w then x.d - x.b else 0
theorem outV_eq {v : Int} {x : Q4} (h : x.w = v) : outV v x = x.d - x.b := if_pos h
theorem outV_ne {v : Int} {x : Q4} (h : ¬ x.w = v) : outV v x = 0 := if_neg h
def outS (w : Int) : List Q4 → Int
  | [] => 0
  | x :: l => outV w x + outS w l
theorem outS_app (w : Int) : ∀ (a b : List Q4), outS w (a ++ b) = outS w a + outS w b
  | [], b => by simp [outS]
  | x :: a, b => by rw [List.cons_append, outS, outS, outS_app w a b]; omega
theorem outF_take {l : List Q4} {w : Int} : ∀ {i}, i ≤ l.length → outF l w i = outS w (l.take i)
  | 0, _ => by simp [outF, outS]
  | i + 1, h => by
    rw [take_at h, outS_app, outF, ← outF_take (w := w) (show i ≤ l.length by omega)]
    simp only [outS, outV]
    split <;> omega
theorem outF_all (l : List Q4) (w : Int) : outF l w l.length = outS w l := by rw [outF_take (Nat.le_refl _), List.take_length]
theorem outS_split (w : Int) (l : List Q4) {k : Nat} (hk : k < l.length) : outS w l = outS w (l.take k) + outV w (at' l k) + outS w (l.drop (k + 1)) := by
  have e : l = l.take k ++ at' l k :: l.drop (k + 1) := by rw [← at_get hk, ← List.drop_eq_getElem_cons hk, List.take_append_drop]
  calc outS w l = outS w (l.take k ++ at' l k :: l.drop (k + 1)) := by rw [← e]
    _ = _ := by rw [outS_app, outS]; omega
theorem outS_put (v w g : Int) (l : List Q4) (k : Nat) (x : Q4) (hx : x.w = w ∧ x.g = g) : outS v (putL l k x) = outS v l + outV v x - outV v (rowOr l k (key w g)) := by
  have hc : ∀ y : Q4, y.cmp x = y.cmp (key w g) := fun y => by simp only [Q4.cmp, hx.1, hx.2]
  by_cases hf : k < l.length ∧ (at' l k).cmp (key w g) = 0
  · rw [putL, hc, if_pos hf, rowOr, if_pos hf, outS_app, outS, outS_split v l hf.1]; omega
  · rw [putL, hc, if_neg hf, rowOr, if_neg hf, outS_app, outS]
    have e : outS v l = outS v (l.take k) + outS v (l.drop k) := by rw [← outS_app, List.take_append_drop]
    have e2 : outV v (key w g) = 0 := by simp [outV]
    rw [e, e2]; omega
/-- Windows do not decrease. -/
theorem asc_w {l : List Q4} (h : Asc l) {i j : Nat} (hij : i ≤ j) (hj : j < l.length) : (at' l i).w ≤ (at' l j).w := by
  by_cases e : i = j
  · subst e; exact Int.le_refl _
  · have := cmp_lt.1 (asc_lt h (show i < j by omega) hj); omega
theorem outF_none {l : List Q4} {w : Int} : ∀ i, (∀ j, j < i → (at' l j).w ≠ w) → outF l w i = 0
  | 0, _ => rfl
  | i + 1, h => by rw [outF, if_neg (h i (by omega)), outF_none i fun j hj => h j (by omega)]
theorem sum_out {l : List Q4} (h : Asc l) : ∀ {i}, i < l.length → sumF l (i + 1) = outF l (at' l i).w (i + 1)
  | 0, _ => by simp [sumF, outF]
  | i + 1, hi => by
    have h1 := sum_out h (show i < l.length by omega)
    have h2 := asc_w h (show i ≤ i + 1 by omega) hi
    rw [sumF, outF, if_pos rfl]
    by_cases hw : (at' l i).w < (at' l (i + 1)).w
    · rw [if_pos ⟨Nat.succ_pos _, hw⟩, outF_none (i + 1) fun j hj => by
        have := asc_w h (show j ≤ i by omega) (show i < l.length by omega); omega]
    · rw [if_neg fun h => hw h.2, h1, show (at' l i).w = (at' l (i + 1)).w by omega]
theorem outF_mono {l : List Q4} {w : Int} (h : ∀ j, j < l.length → (at' l j).b ≤ (at' l j).d) : ∀ {i j : Nat}, i ≤ j → j ≤ l.length → outF l w i ≤ outF l w j
  | i, 0, hij, _ => by rw [Nat.le_zero.1 hij]; exact Int.le_refl _
  | i, j + 1, hij, hj => by
    by_cases e : i = j + 1
    · rw [e]; exact Int.le_refl _
    · have h1 := outF_mono h (w := w) (show i ≤ j by omega) (by omega)
      have h2 := h j (by omega)
      rw [outF]; split <;> omega
/-- A row by itself. -/
structure RowVal (x : Q4) : Prop where
  w : 0 ≤ x.w ∧ x.w ≤ 1099511627776
  g : 1 ≤ x.g ∧ x.g ≤ 1073741824
  d : 0 ≤ x.d ∧ x.d ≤ 1099511627776
  b : 0 ≤ x.b ∧ x.b ≤ x.d
theorem vb_out {c len : Int} {l : List Q4} (hv : VB c len l) (v : Int) : ∀ {i}, i ≤ l.length → outF l v i ≤ c
  | 0, _ => hv.c.1
  | i + 1, h => by
    by_cases e : (at' l i).w = v
    · rw [← e, ← sum_out (vb_asc hv) (show i < l.length by omega)]
      exact (hv.ok i h).s
    · rw [outF, if_neg e]; exact vb_out hv v (by omega)
theorem vb_row {c len : Int} {l : List Q4} (hv : VB c len l) {i : Nat} (hi : i < l.length) : RowVal (at' l i) := ⟨(hv.ok i hi).w, (hv.ok i hi).g, (hv.ok i hi).d, (hv.ok i hi).b⟩
theorem vb_intro {c len : Int} {l : List Q4} (hc : 0 ≤ c ∧ c ≤ 1073741824) (hn : 1 ≤ len ∧ len ≤ 3600000) (hr : l.length ≤ 10000) (ho : ∀ i, i < l.length → RowVal (at' l i)) (ha : Asc l) (hs : ∀ v, outS v l ≤ c) : VB c len l :=
  ⟨hc, hn, hr, fun i hi => ⟨(ho i hi).w, (ho i hi).g, (ho i hi).d, (ho i hi).b, fun h0 => by
      have := ha (i - 1) (by omega)
      rwa [show i - 1 + 1 = i by omega] at this, by
      rw [sum_out ha hi]
      refine Int.le_trans (outF_mono (fun j hj => (ho j hj).b.2) (show i + 1 ≤ l.length by omega) (Nat.le_refl _)) ?_
      rw [outF_all]; exact hs _⟩⟩
theorem row_put {l : List Q4} (hv : Asc l) {x : Q4} {k : Nat} (hk : Lb l x k) :
    Asc (putL l k x) ∧ Lb (putL l k x) x k ∧ at' (putL l k x) k = x ∧ k < (putL l k x).length ∧ ∀ i, i < (putL l k x).length → at' (putL l k x) i = x ∨ ∃ j, j < l.length ∧ at' (putL l k x) i = at' l j := by
  have hself : x.cmp x = 0 := cmp_eq.2 ⟨rfl, rfl⟩
  by_cases hf : k < l.length ∧ (at' l k).cmp x = 0
  · have e : putL l k x = l.set k x := putL_set hf.1 hf.2
    have hwk := cmp_eq.1 hf.2
    have hw : ∀ j, (at' (l.set k x) j).w = (at' l j).w ∧ (at' (l.set k x) j).g = (at' l j).g := fun j => by
      rw [at_set hf.1]; split
      · rename_i e; subst e; exact ⟨hwk.1.symm, hwk.2.symm⟩
      · exact ⟨rfl, rfl⟩
    have hc : ∀ j (y : Q4), (at' (l.set k x) j).cmp y = (at' l j).cmp y := fun j y => by simp only [Q4.cmp, hw]
    have hc2 : ∀ j (y : Q4), y.cmp (at' (l.set k x) j) = y.cmp (at' l j) := fun j y => by simp only [Q4.cmp, hw]
    rw [e]
    refine ⟨fun i hi => by rw [hc, hc2]; exact hv i (by rwa [List.length_set] at hi), ⟨by rw [List.length_set]; exact hk.le, fun t ht => by rw [hc]; exact hk.lo t ht, fun t h1 h2 => by rw [hc]; exact hk.hi t h1 (by rwa [List.length_set] at h2)⟩, by rw [at_set hf.1, if_pos rfl], by rw [List.length_set]; exact hf.1, fun i hi => ?_⟩
    rw [List.length_set] at hi
    rw [at_set hf.1]; split
    · exact .inl rfl
    · exact .inr ⟨i, hi, rfl⟩
  · have e : putL l k x = l.take k ++ x :: l.drop k := by rw [putL, if_neg hf]
    have hkl := hk.le
    have hlen : (l.take k ++ x :: l.drop k).length = l.length + 1 := by simp; omega
    have hhi : ∀ t, k ≤ t → t < l.length → x.cmp (at' l t) < 0 := fun t h1 h2 => by
      have h3 := hk.hi k (Nat.le_refl _) (by omega)
      have h4 : ¬ (at' l k).cmp x < 0 := by omega
      have h5 : ¬ (at' l k).cmp x = 0 := fun h => hf ⟨by omega, h⟩
      rw [cmp_lt] at h4 ⊢; rw [cmp_eq] at h5
      by_cases he : k = t
      · subst he; omega
      · have h6 := cmp_lt.1 (asc_lt hv (show k < t by omega) h2)
        omega
    rw [e]
    refine ⟨fun i hi => ?_, ⟨by rw [hlen]; omega, fun t ht => ?_, fun t h1 h2 => ?_⟩, by rw [Co.at_ins hkl, if_neg (by omega), if_pos rfl], by rw [hlen]; omega, fun i hi => ?_⟩
    · rw [hlen] at hi
      rw [Co.at_ins hkl, Co.at_ins hkl]
      by_cases h1 : i + 1 < k
      · rw [if_pos (by omega), if_pos h1]; exact hv i (by omega)
      · by_cases h2 : i + 1 = k
        · rw [if_pos (by omega), if_neg h1, if_pos h2]; exact hk.lo i (by omega)
        · rw [if_neg h1, if_neg h2]
          by_cases h3 : i = k
          · rw [if_neg (by omega), if_pos h3]; exact hhi _ (by omega) (by omega)
          · rw [if_neg (by omega), if_neg h3]
            have := hv (i - 1) (by omega)
            rwa [show i - 1 + 1 = i by omega] at this
    · rw [Co.at_ins hkl, if_pos ht]; exact hk.lo t ht
    · rw [hlen] at h2
      rw [Co.at_ins hkl, if_neg (by omega)]
      split
      · exact Int.le_of_eq hself.symm
      · exact hk.hi _ (by omega) (by omega)
    · rw [hlen] at hi
      rw [Co.at_ins hkl]
      by_cases h1 : i < k
      · rw [if_pos h1]; exact .inr ⟨i, by omega, rfl⟩
      · rw [if_neg h1]
        by_cases h2 : i = k
        · rw [if_pos h2]; exact .inl rfl
        · rw [if_neg h2]; exact .inr ⟨i - 1, by omega, rfl⟩
theorem rowOr_put {l : List Q4} (hv : Asc l) {x : Q4} {k : Nat} {w g : Int} (hx : x.w = w ∧ x.g = g) (hk : Lb l (key w g) k) : Asc (putL l k x) ∧ Lb (putL l k x) (key w g) k ∧ Kn (putL l k x) k w g ∧ rowOr (putL l k x) k (key w g) = x := by
  obtain ⟨h1, h2, h3, h4, _⟩ := row_put hv (lb_key hk (by exact hx.1) (by exact hx.2))
  have hkn : Kn (putL l k x) k w g := ⟨h4, by rw [h3]; exact cmp_eq.2 hx⟩
  exact ⟨h1, lb_key h2 hx.1.symm hx.2.symm, hkn, by rw [rowOr_kn hkn, h3]⟩
/-- A deal leaves a bank that is valid. -/
theorem deal_vb {c len : Int} {l : List Q4} (hv : VB c len l) {k : Nat} {w g m : Int} (hk : Lb l (key w g) k) (ha : DArg w g m) (hr : DRoom c l k w g m) :
    VB c len (putL l k (more l k w g m)) ∧ outS w (putL l k (more l k w g m)) = outS w l + m := by
  have hb := rowOr_bd hv k w g
  have hkey := rowOr_key l k w g
  have hx : (more l k w g m).w = w ∧ (more l k w g m).g = g := ⟨rfl, rfl⟩
  obtain ⟨h1, h2, h3, h4, h5⟩ := row_put (vb_asc hv) (x := more l k w g m) (lb_key hk rfl rfl)
  have hm := ha.m
  have hval : RowVal (more l k w g m) := ⟨ha.w, ha.g, by simp only [more]; have := hr.d; omega, by simp only [more]; omega⟩
  have ho : ∀ v, outS v (putL l k (more l k w g m)) = outS v l + if v = w then m else 0 := fun v => by
    rw [outS_put v w g l k _ hx]
    by_cases e : w = v
    · rw [outV_eq (show (more l k w g m).w = v from e), outV_eq (hkey.1.trans e), if_pos e.symm]
      simp only [more]; omega
    · rw [outV_ne (show ¬ (more l k w g m).w = v from e), outV_ne (by rw [hkey.1]; exact e), if_neg fun h => e h.symm]; omega
  refine ⟨vb_intro hv.c hv.n ?_ (fun i hi => ?_) h1 (fun v => ?_), by rw [ho, if_pos rfl]⟩
  · have hl := hv.r
    rw [putL]
    split
    · simp; omega
    · rename_i hn
      have := hr.r.resolve_left fun h => hn ⟨h.1, by have := cmp_eq.1 h.2; exact cmp_eq.2 this⟩
      simp; omega
  · rcases h5 i hi with e | ⟨j, hj, e⟩
    · rw [e]; exact hval
    · rw [e]; exact vb_row hv hj
  · rw [ho]
    split
    · rename_i e; subst e
      have := hr.o
      rwa [outF_all] at this
    · have := vb_out hv v (Nat.le_refl _)
      rw [outF_all] at this; omega
/-- What comes back is no more out. -/
theorem ret_out {l : List Q4} {k : Nat} {w g t : Int} (hkn : Kn l k w g) : outS w (retL l k w g t) = outS w l + (rowOr l k (key w g)).b - mx (rowOr l k (key w g)).b t := by
  have hkey := rowOr_key l k w g
  rw [retL, if_pos hkn, outS_put w w g l k _ ⟨rfl, rfl⟩, outV_eq (show (back l k w g t).w = w from rfl), outV_eq hkey.1]
  simp only [back]; omega
theorem ret_row {c len : Int} {l : List Q4} (hv : VB c len l) {k : Nat} {w g t : Int} (hk : Lb l (key w g) k) (hkn : Kn l k w g) : rowOr (retL l k w g t) k (key w g) = back l k w g t := by
  rw [retL, if_pos hkn]
  exact (rowOr_put (vb_asc hv) (x := back l k w g t) ⟨rfl, rfl⟩ hk).2.2.2
end Go.Proofs.S39
namespace Go.Proofs.S39
open Go Go.Ev Go.Proofs
set_option linter.unusedSimpArgs false
set_option linter.unusedVariables false
set_option linter.unusedSectionVars false
theorem lb_at {l : List Q4} (ha : Asc l) {x : Q4} {k j : Nat} (hk : Lb l x k) (hj : j < l.length) (hc : (at' l j).cmp x = 0) : j = k := by
  by_cases h1 : j < k
  · have := hk.lo j h1; omega
  · by_cases h2 : j = k
    · exact h2
    · have h3 := cmp_lt.1 (asc_lt ha (show k < j by omega) hj)
      have h4 := hk.hi k (Nat.le_refl _) (by omega)
      have h5 : ¬ (at' l k).cmp x < 0 := by omega
      rw [cmp_lt] at h5; rw [cmp_eq] at hc; omega
/-- What another gateway has is no more than it was. -/
theorem row_other {l : List Q4} (ha : Asc l) {x : Q4} {k k2 k3 : Nat} {w o : Int} (hk : Lb l x k) (hk2 : Lb l (key w o) k2) (hk3 : Lb (putL l k x) (key w o) k3) (hne : ¬ (x.w = w ∧ x.g = o)) (h0 : 0 ≤ (rowOr l k2 (key w o)).d) :
    (rowOr (putL l k x) k3 (key w o)).d ≤ (rowOr l k2 (key w o)).d := by
  obtain ⟨h1, h2, h3, h4, h5⟩ := row_put ha hk
  by_cases hf : k3 < (putL l k x).length ∧ (at' (putL l k x) k3).cmp (key w o) = 0
  · rw [rowOr, if_pos hf]
    rcases h5 k3 hf.1 with e | ⟨j, hj, e⟩
    · rw [e] at hf; exact absurd (cmp_eq.1 hf.2) hne
    · rw [e] at hf ⊢
      have := lb_at ha hk2 hj hf.2
      subst this
      rw [rowOr, if_pos ⟨hj, hf.2⟩]; exact Int.le_refl _
  · rw [rowOr, if_neg hf]; exact h0
end Go.Proofs.S39
