/-
  Chapter 39: credits given back: the banks behind it. No condition.
-/
import Derived.Test.YtdbppejfcolacaaS39E
set_option linter.unusedVariables false
set_option linter.unusedSimpArgs false
set_option linter.unusedSectionVars false
namespace Go.Proofs.S39
open Go Go.Ev Go.Proofs
set_option linter.unusedSimpArgs false
set_option linter.unusedVariables false
set_option linter.unusedSectionVars false
variable {gl : Gl} {n : Nat}
structure RArg (l : List Q4) (k : Nat) (w g t : Int) : Prop where
  hw : 0 ≤ w ∧ w ≤ 1099511627776
  hg : 1 ≤ g ∧ g ≤ 1073741824
  ht : 0 ≤ t ∧ t ≤ (rowOr l k (key w g)).d
def mx (a b : Int) : Int := if b > a then b else a
def back (l : List Q4) (k : Nat) (w g t : Int) : Q4 := ⟨w, g, (rowOr l k (key w g)).d, mx (rowOr l k (key w g)).b t⟩
def retL (l : List Q4) (k : Nat) (w g t : Int) : List Q4 := if Kn l k w g then putL l k (back l k w g t) else l
theorem putL_self {l : List Q4} {k : Nat} (h : k < l.length) : putL l k (at' l k) = l := by
  have h0 : (at' l k).cmp (at' l k) = 0 := cmp_eq.2 ⟨rfl, rfl⟩
  rw [putL, if_pos ⟨h, h0⟩, ← at_get h, ← List.drop_eq_getElem_cons h, List.take_append_drop]
theorem rowOr_kn {l : List Q4} {k : Nat} {w g : Int} (h : Kn l k w g) : rowOr l k (key w g) = at' l k := by unfold rowOr; exact if_pos h
theorem rowOr_nkn {l : List Q4} {k : Nat} {w g : Int} (h : ¬ Kn l k w g) : rowOr l k (key w g) = key w g := by unfold rowOr; exact if_neg h
section
variable {c len : Int} {f : Bool} {sh : Sh} {l : List Q4} {w g t : Int} {k : Nat} (hs : Shp l sh) (hl : l.length < 2 ^ 30)
include hs hl
theorem ret_inv (h : 8 ≤ n) (hv : ¬ VB c len l) : call gl tab n 11 [bank c len f sh l, i64 w, i64 g, i64 t] [] = some (.tup [bank0, i64 1], [], []) := by
  obtain ⟨d, rfl⟩ := Nat.exists_eq_add_of_le' h
  have c17 := @nvb17 gl (d + 7) (by omega) c len f sh l hs hl hv
  have c43 := @isWindow_at gl (d + 7) (by omega)
  have c44 := @isGate_at gl (d + 7) (by omega)
  have c45 := @within_at gl (d + 7) (by omega)
  have c20 := @dealt_f gl (d + 7) (by omega) c len f sh l hs hl w g hv
  simp only [bank] at c17 c20
  rw [call_go (fd := fd11) rfl]
  simp (disch := ((fail_if_success (intro _)); omega)) only [go_sem, simprocAttr, ↓reduceIte, xx, fd11, m11, bank, c17, c43, c44, c45, c20, rows_nil]
theorem ret_arg (h : 8 ≤ n) (hv : VB c len l) (hk : Lb l (key w g) k) (ha : ¬ RArg l k w g t) : call gl tab n 11 [bank c len f sh l, i64 w, i64 g, i64 t] [] = some (.tup [bank0, i64 1], [], []) := by
  obtain ⟨d, rfl⟩ := Nat.exists_eq_add_of_le' h
  have c17 := @vb17 gl (d + 7) (by omega) c len f sh l hs hv
  have c43 := @isWindow_at gl (d + 7) (by omega)
  have c44 := @isGate_at gl (d + 7) (by omega)
  have c45 := @within_at gl (d + 7) (by omega)
  have c20 := @dealt_t gl (d + 7) (by omega) c len f sh l hs w g hv k hk
  simp only [bank] at c17 c20
  rw [call_go (fd := fd11) rfl]
  cases hA : (decide (0 ≤ w) && decide (w ≤ 1099511627776))
  · simp (disch := ((fail_if_success (intro _)); omega)) only [go_sem, simprocAttr, ↓reduceIte, xx, fd11, m11, bank, c17, c43, c44, c45, c20, hA, rows_nil]
  cases hB : (decide (1 ≤ g) && decide (g ≤ 1073741824))
  · simp (disch := ((fail_if_success (intro _)); omega)) only [go_sem, simprocAttr, ↓reduceIte, xx, fd11, m11, bank, c17, c43, c44, c45, c20, hA, hB, rows_nil]
  cases hC : (decide (0 ≤ t) && decide (t ≤ (rowOr l k (key w g)).d))
  · simp (disch := ((fail_if_success (intro _)); omega)) only [go_sem, simprocAttr, ↓reduceIte, xx, fd11, m11, bank, c17, c43, c44, c45, c20, hA, hB, hC, rows_nil]
  simp only [Bool.and_eq_true, decide_eq_true_eq] at hA hB hC
  exact absurd ⟨hA, hB, hC⟩ ha
theorem ret_ok (h : 8 ≤ n) (hv : VB c len l) (hk : Lb l (key w g) k) (ha : RArg l k w g t) :
    ∃ f' sh', Shp (retL l k w g t) sh' ∧ call gl tab n 11 [bank c len f sh l, i64 w, i64 g, i64 t] [] = some (.tup [bank c len f' sh' (retL l k w g t), i64 0], [], []) := by
  obtain ⟨d, rfl⟩ := Nat.exists_eq_add_of_le' h
  have hr0 := hv.r
  have hasc := vb_asc hv
  have c17 := @vb17 gl (d + 7) (by omega) c len f sh l hs hv
  have c43 := @isWindow_at gl (d + 7) (by omega)
  have c44 := @isGate_at gl (d + 7) (by omega)
  have c45 := @within_at gl (d + 7) (by omega)
  have c20 := @dealt_t gl (d + 7) (by omega) c len f sh l hs w g hv k hk
  have c46 := @get_ok gl (d + 7) (by omega) f sh l hs (key w g) (by omega) hasc k hk
  have c48 := @set_ok gl (d + 7) (by omega) f sh l hs (back l k w g t) (by omega) hasc k (lb_key hk rfl rfl)
  have e : (if k < l.length ∧ (at' l k).cmp (key w g) = 0 then (at' l k).av else (key w g).av) = (rowOr l k (key w g)).av := by unfold rowOr; split <;> rfl
  obtain ⟨e1, e2⟩ := rowOr_key l k w g
  have hbd := rowOr_bd hv k w g
  obtain ⟨⟨a1, a2⟩, ⟨a3, a4⟩, ⟨a5, a6⟩⟩ := ha
  rw [e] at c46
  simp only [bank, Q4.av, back, key, e1, e2] at c17 c46 c48 c20 hbd a6 ⊢
  by_cases hkn : Kn l k w g
  · refine ⟨false, sR, .inr rfl, ?_⟩
    rw [call_go (fd := fd11) rfl]
    have hkn2 : (k < l.length ∧ (at' l k).cmp ⟨w, g, 0, 0⟩ = 0) := hkn
    simp only [hkn2, and_self, decide_true] at c46
    have er : retL l k w g t = putL l k ⟨w, g, (rowOr l k ⟨w, g, 0, 0⟩).d, mx (rowOr l k ⟨w, g, 0, 0⟩).b t⟩ := if_pos hkn
    rw [er]
    simp only [mx] at c48 ⊢
    simp (disch := ((fail_if_success (intro _)); omega)) only [go_sem, simprocAttr, ↓reduceIte, xx, fd11, m11, c17, c43, c44, c45, c46, c20, rows_length, e1, e2, foldO, maxAV, c48, rows_take', noImms_rows]
  · refine ⟨f, sh, by rw [retL, if_neg hkn]; exact hs, ?_⟩
    rw [call_go (fd := fd11) rfl]
    have hkn2 : ¬ (k < l.length ∧ (at' l k).cmp ⟨w, g, 0, 0⟩ = 0) := hkn
    simp only [hkn2, decide_false] at c46
    have er : retL l k w g t = l := if_neg hkn
    rw [er]
    simp (disch := ((fail_if_success (intro _)); omega)) only [go_sem, simprocAttr, ↓reduceIte, xx, fd11, m11, c17, c43, c44, c45, c46, c20, rows_length, e1, e2, foldO, maxAV]
theorem rret_inv (h : 5 ≤ n) (hv : ¬ VB c len l) : call gl tab n 15 [bank c len f sh l, i64 w, i64 g, i64 t] [] = some (.agg [bank0, i64 1], [], []) := by
  obtain ⟨d, rfl⟩ := Nat.exists_eq_add_of_le' h
  have c17 := @nvb18 gl (d + 4) (by omega) c len f sh l hs hl hv
  have c43 := @rwindow_at gl (d + 4) (by omega)
  have c44 := @rgate_at gl (d + 4) (by omega)
  simp only [bank] at c17
  rw [call_go (fd := fd15) rfl]
  simp (disch := ((fail_if_success (intro _)); omega)) only [go_sem, simprocAttr, ↓reduceIte, xx, fd15, m15, bank, c17, c43, c44, rows_nil]
theorem rret_arg (h : 5 ≤ n) (hv : VB c len l) (hk : Lb l (key w g) k) (ha : ¬ RArg l k w g t) : call gl tab n 15 [bank c len f sh l, i64 w, i64 g, i64 t] [] = some (.agg [bank0, i64 1], [], []) := by
  obtain ⟨d, rfl⟩ := Nat.exists_eq_add_of_le' h
  have hr0 := hv.r
  have c17 := @vb18 gl (d + 4) (by omega) c len f sh l hs hv
  have c43 := @rwindow_at gl (d + 4) (by omega)
  have c44 := @rgate_at gl (d + 4) (by omega)
  have c46 := @row_at gl (d + 4) (by omega) c len f sh l hs (by omega) (vb_asc hv) w g k hk
  simp only [bank, Q4.av] at c17 c46
  rw [call_go (fd := fd15) rfl]
  cases hA : (decide (0 ≤ w) && decide (w ≤ 1099511627776))
  · simp (disch := ((fail_if_success (intro _)); omega)) only [go_sem, simprocAttr, ↓reduceIte, xx, fd15, m15, bank, c17, c43, c44, hA, rows_nil]
  cases hB : (decide (1 ≤ g) && decide (g ≤ 1073741824))
  · simp (disch := ((fail_if_success (intro _)); omega)) only [go_sem, simprocAttr, ↓reduceIte, xx, fd15, m15, bank, c17, c43, c44, hA, hB, rows_nil]
  have hA' := hA
  have hB' := hB
  simp only [Bool.and_eq_true, decide_eq_true_eq] at hA' hB'
  by_cases hC : 0 ≤ t
  case neg => simp (disch := ((fail_if_success (intro _)); omega)) only [go_sem, simprocAttr, ↓reduceIte, xx, fd15, m15, bank, c17, c43, c44, c46, hA, hB, rows_nil]
  by_cases hD : t ≤ (rowOr l k ⟨w, g, 0, 0⟩).d
  case neg => simp (disch := ((fail_if_success (intro _)); omega)) only [go_sem, simprocAttr, ↓reduceIte, xx, fd15, m15, bank, c17, c43, c44, c46, hA, hB, rows_nil]
  exact absurd ⟨hA', hB', hC, hD⟩ ha
theorem rret_ok (h : 5 ≤ n) (hv : VB c len l) (hk : Lb l (key w g) k) (ha : RArg l k w g t) :
    ∃ f' sh', Shp (retL l k w g t) sh' ∧ call gl tab n 15 [bank c len f sh l, i64 w, i64 g, i64 t] [] = some (.agg [bank c len f' sh' (retL l k w g t), i64 0], [], []) := by
  obtain ⟨d, rfl⟩ := Nat.exists_eq_add_of_le' h
  have hr0 := hv.r
  have hasc := vb_asc hv
  have c17 := @vb18 gl (d + 4) (by omega) c len f sh l hs hv
  have c43 := @rwindow_at gl (d + 4) (by omega)
  have c44 := @rgate_at gl (d + 4) (by omega)
  have c46 := @row_at gl (d + 4) (by omega) c len f sh l hs (by omega) hasc w g k hk
  have c48 := @put_at gl (d + 4) (by omega) c len f sh l hs hl hasc (back l k w g t) k (lb_key hk rfl rfl)
  obtain ⟨e1, e2⟩ := rowOr_key l k w g
  have hbd := rowOr_bd hv k w g
  obtain ⟨⟨a1, a2⟩, ⟨a3, a4⟩, ⟨a5, a6⟩⟩ := ha
  by_cases hb : t ≤ (rowOr l k (key w g)).b
  · have er : retL l k w g t = l := by
      unfold retL
      split
      · rename_i hkn
        have e3 : back l k w g t = at' l k := by
          have h1 := rowOr_kn hkn
          have h2 : mx (rowOr l k (key w g)).b t = (rowOr l k (key w g)).b := by unfold mx; rw [if_neg (by omega)]
          rw [back, h2]
          rw [h1] at e1 e2 ⊢
          rw [← e1, ← e2]
        rw [e3, putL_self hkn.1]
      · rfl
    refine ⟨f, sh, by rw [er]; exact hs, ?_⟩
    rw [er]
    simp only [bank, Q4.av, key, e1, e2] at c17 c46 hbd a6 hb ⊢
    rw [call_go (fd := fd15) rfl]
    simp (disch := ((fail_if_success (intro _)); omega)) only [go_sem, simprocAttr, ↓reduceIte, xx, fd15, m15, c17, c43, c44, c46, rows_length, e1, e2]
  · have hkn : Kn l k w g := by
      refine Classical.byContradiction fun hkn => ?_
      rw [rowOr_nkn hkn] at a6 hb
      simp only at a6 hb
      omega
    have er : retL l k w g t = putL l k (back l k w g t) := if_pos hkn
    have e3 : mx (rowOr l k (key w g)).b t = t := by unfold mx; rw [if_pos (by omega)]
    refine ⟨false, sR, .inr rfl, ?_⟩
    rw [er]
    simp only [bank, Q4.av, back, key, e1, e2] at c17 c46 c48 hbd a6 hb e3 ⊢
    rw [e3] at c48 ⊢
    rw [call_go (fd := fd15) rfl]
    simp (disch := ((fail_if_success (intro _)); omega)) only [go_sem, simprocAttr, ↓reduceIte, xx, fd15, m15, c17, c43, c44, c46, rows_length, e1, e2, c48]
end
end Go.Proofs.S39
