/-
  Chapter 39: credits come back. No condition.
-/
import Derived.Test.YtdbppejfcolacaaS39N
namespace Go.Proofs.S39
open Go Go.Ev Go.Proofs
set_option linter.unusedSimpArgs false
set_option linter.unusedVariables false
set_option linter.unusedSectionVars false
variable {gl : Gl} {n : Nat}
set_option maxHeartbeats 2000000 in
theorem law5_ok (hn : 20 ≤ n) (c8 : call gl tab n 8 [] [] = some (.bool true, [], [])) (c len w g o m : Int) (l : List Q4) (h1 : l.length ≤ 40) (h2 : 1 ≤ o) (h3 : o ≤ 1073741824) (hv : VB c len l) {k k2 : Nat} (hk : Lb l (key w g) k) (hk2 : Lb l (key w o) k2)
    (h39 : (rowOr l k2 (key w o)).d ≤ 549755813888) (ha : DArg w g m) (hr : DRoom c l k w g m) :
    call gl tab (n + 1) 5 [bank c len false sR l, i64 w, i64 g, i64 o, i64 m] [] = some (.bool true, [], []) := by
  have hs : Shp l sR := .inr rfl
  have hl : l.length < 2 ^ 30 := by omega
  have hb := rowOr_bd hv k w g
  have hm := ha.m
  have ho := vb_out hv w (Nat.le_refl _)
  have ho2 := out_bd2 (w := w) hv (Nat.le_refl _)
  rw [outF_all] at ho ho2
  obtain ⟨C, D, hC, hD, hvC, hkC, hrC, hoC, hR, hvD, hoD, k3, hk3, hr3⟩ := comes_back hv h1 hk ha hr hk2 h39
  have hlC := hvC.r
  have hlD := hvD.r
  obtain ⟨hvX, hoX⟩ := deal_vb hvD hk3 ⟨ha.w, ⟨h2, h3⟩, ha.m⟩ hr3
  have c10 := deal_ok (gl := gl) (f := false) hs hl (show 7 ≤ n by omega) hv ha hk hr
  rw [← hC] at c10
  obtain ⟨f', sh', sD, c11⟩ := ret_ok (gl := gl) (n := n) (f := false) (.inr rfl) (show C.length < 2 ^ 30 by omega) (by omega) hvC hkC hR
  rw [← hD] at sD c11
  have c10' := deal_ok (gl := gl) (f := f') sD (show D.length < 2 ^ 30 by omega) (show 7 ≤ n by omega) hvD ⟨ha.w, ⟨h2, h3⟩, ha.m⟩ hk3 hr3
  generalize hX : putL D k3 (more D k3 w o m) = X at *
  obtain ⟨c27, c24, c28, c26, c29⟩ := Co.purse_facts (gl := gl) (n := n) (by omega) hv.n ha.w ha.m
  have c20o := dealt_t (gl := gl) (n := n) (by omega) c len false hs w o hv hk2
  have c20g := dealt_t (gl := gl) (n := n) (by omega) c len false hs w g hv hk
  have c20C := dealt_t (gl := gl) (n := n) (by omega) c len false (sh := sR) (.inr rfl) w g hvC hkC
  have c22 := out_t (gl := gl) (n := n) (by omega) c len false hs w hv
  have c22C := out_t (gl := gl) (n := n) (by omega) c len false (sh := sR) (.inr rfl) w hvC
  have c22D := out_t (gl := gl) (n := n) (by omega) c len f' sD w hvD
  have c22X := out_t (gl := gl) (n := n) (by omega) c len false (sh := sR) (.inr rfl) w hvX
  have c17X := vb17 (gl := gl) (n := n) (by omega) (c := c) (len := len) (f := false) (sh := sR) (.inr rfl) hvX
  rw [outF_all] at c22 c22C c22D c22X
  rw [hoX, hoD] at c22X
  rw [hoC] at c22C
  rw [hoD] at c22D
  rw [hrC] at c20C
  have hback := backN_end (vb_asc hv) hk
  simp only [more] at c20C
  generalize (rowOr l k (key w g)).d = dd at *
  generalize (rowOr l k (key w g)).b = bb at *
  generalize (rowOr l k2 (key w o)).d = d2 at *
  generalize outS w l = ss at *
  simp only [bank, purse, rows_nil] at c10 c11 c10' c27 c24 c28 c26 c29 c20o c20g c20C c22 c22C c22D c22X c17X
  have hlp := fun i (hi : i < l.length) => @loop5 gl n c len w g o m c len false false sR l C len false sR [⟨w, m, 0, m⟩] hl i hi
  simp only [L5, m5] at hlp
  rw [call_go (fd := fd5) rfl]
  simp (disch := ((fail_if_success (intro _)); omega)) only [go_sem, simprocAttr, ↓reduceIte, xx, Co.guardK_ff', guardK_tt', fd5, m5, bank, purse, rows_length, c8, c10, c27, c24, c28, c26, c20o, c20g, c20C, c22, c22C, rows_nil, bne]
  rw [iter_to (S5 c len w g o m c len false false sR sR l C len false sR [⟨w, m, 0, m⟩]) l.length (by unfold LF; omega)]
  · simp (disch := ((fail_if_success (intro _)); omega)) only [go_sem, simprocAttr, ↓reduceIte, xx, Co.guardK_ff', guardK_tt', S5, bank, purse, rows_length, hback, c8, c29, c11, c10', c22, c22C, c22D, c22X, c17X]
  · simp (disch := ((fail_if_success (intro _)); omega)) only [go_sem, simprocAttr, ↓reduceIte, xx, S5, bank, purse, backN]
  · exact hlp
  · simp (disch := ((fail_if_success (intro _)); omega)) only [go_sem, simprocAttr, ↓reduceIte, xx, S5, bank, purse, rows_length]
theorem law5_err (hn : 20 ≤ n) (c8 : call gl tab n 8 [] [] = some (.bool true, [], [])) (c len w g o m e v u : Int) (l : List Q4) (h1 : l.length ≤ 40) (h2 : 1 ≤ o) (h3 : o ≤ 1073741824) (h39 : v ≤ 549755813888) (he : e ≠ 0)
    (c20 : call gl tab n 20 [bank c len false sR l, i64 w, i64 o] [] = some (i64 v, [], [])) (c20' : call gl tab n 20 [bank c len false sR l, i64 w, i64 g] [] = some (i64 u, [], []))
    (c10 : call gl tab n 10 [bank c len false sR l, i64 w, i64 g, i64 m] [] = some (.tup [bank0, i64 e], [], [])) : call gl tab (n + 1) 5 [bank c len false sR l, i64 w, i64 g, i64 o, i64 m] [] = some (.bool true, [], []) := by
  classical
  have he2 : (e == 0) = false := by simpa using he
  have c27 := Co.newPurse_at (gl := gl) (n := n) (by omega) len
  simp only [bank, bank0, rows_nil] at c20 c20' c10
  by_cases hv : Co.VP len []
  · rw [if_pos hv, if_pos hv] at c27
    simp only [purse, rows_nil] at c27
    rw [call_go (fd := fd5) rfl]
    simp (disch := ((fail_if_success (intro _)); omega)) only [go_sem, simprocAttr, ↓reduceIte, xx, fd5, m5, bank, purse, rows_length, c8, c10, c27, c20, c20', he2, bne, rows_nil]
  · rw [if_neg hv, if_neg hv] at c27
    simp only [purse, Co.purse0, rows_nil] at c27
    rw [call_go (fd := fd5) rfl]
    simp (disch := ((fail_if_success (intro _)); omega)) only [go_sem, simprocAttr, ↓reduceIte, xx, fd5, m5, bank, purse, rows_length, c8, c10, c27, c20, c20', he2, bne, rows_nil]
theorem law5 (hn : 20 ≤ n) (c8 : call gl tab n 8 [] [] = some (.bool true, [], [])) (ar : List AV) (h : HasKds [kB, .int .i64, .int .i64, .int .i64, .int .i64] ar) : call gl tab (n + 1) 5 ar [] = some (.bool true, [], []) := by
  simp only [HasKds] at h
  obtain ⟨_, _, rfl, hb, _, _, rfl, ⟨w, rfl, _⟩, _, _, rfl, ⟨g, rfl, _⟩, _, _, rfl, ⟨o, rfl, _⟩, _, _, rfl, ⟨m, rfl, _⟩, rfl⟩ := h
  obtain ⟨c, len, l, rfl⟩ := kd_bank hb
  have hs : Shp l sR := .inr rfl
  by_cases h1 : l.length ≤ 40
  case neg =>
    rw [call_go (fd := fd5) rfl]
    simp (disch := ((fail_if_success (intro _)); omega)) only [go_sem, simprocAttr, ↓reduceIte, xx, fd5, m5, bank, rows_length, c8]
  have hl : l.length < 2 ^ 30 := by omega
  obtain ⟨v, hvv, c20⟩ : ∃ v, (VB c len l → ∀ k2, Lb l (key w o) k2 → v = (rowOr l k2 (key w o)).d) ∧ call gl tab n 20 [bank c len false sR l, i64 w, i64 o] [] = some (i64 v, [], []) := by
    by_cases hv : VB c len l
    · obtain ⟨k2, hk2⟩ := exists_lb (vb_asc hv) (key w o)
      exact ⟨_, fun _ k3 hk3 => by rw [lb_uniq hk3 hk2], dealt_t (by omega) c len false hs w o hv hk2⟩
    · exact ⟨0, fun h => absurd h hv, dealt_f (by omega) c len false hs hl w o hv⟩
  have c20b := c20
  simp only [bank] at c20b
  by_cases h39 : v ≤ 549755813888
  case neg =>
    rw [call_go (fd := fd5) rfl]
    simp (disch := ((fail_if_success (intro _)); omega)) only [go_sem, simprocAttr, ↓reduceIte, xx, fd5, m5, bank, rows_length, c8, c20b]
  by_cases h2 : 1 ≤ o
  case neg =>
    rw [call_go (fd := fd5) rfl]
    simp (disch := ((fail_if_success (intro _)); omega)) only [go_sem, simprocAttr, ↓reduceIte, xx, fd5, m5, bank, rows_length, c8, c20b]
  by_cases h3 : o ≤ 1073741824
  case neg =>
    rw [call_go (fd := fd5) rfl]
    simp (disch := ((fail_if_success (intro _)); omega)) only [go_sem, simprocAttr, ↓reduceIte, xx, fd5, m5, bank, rows_length, c8, c20b]
  by_cases hv : VB c len l
  · obtain ⟨k, hk⟩ := exists_lb (vb_asc hv) (key w g)
    obtain ⟨k2, hk2⟩ := exists_lb (vb_asc hv) (key w o)
    have c20' := dealt_t (gl := gl) (n := n) (by omega) c len false hs w g hv hk
    by_cases ha : DArg w g m
    · by_cases hr : DRoom c l k w g m
      · exact law5_ok hn c8 c len w g o m l h1 h2 h3 hv hk hk2 (by rw [← hvv hv k2 hk2]; exact h39) ha hr
      · exact law5_err hn c8 c len w g o m 2 v _ l h1 h2 h3 h39 (by decide) c20 c20' (deal_lim hs hl (by omega) hv ha hk hr)
    · exact law5_err hn c8 c len w g o m 1 v _ l h1 h2 h3 h39 (by decide) c20 c20' (deal_arg hs hl (by omega) hv ha)
  · exact law5_err hn c8 c len w g o m 1 v 0 l h1 h2 h3 h39 (by decide) c20 (dealt_f (by omega) c len false hs hl w g hv) (deal_inv hs hl (by omega) hv)
end Go.Proofs.S39
