/-
  Chapter 4: records are judged, in both. No condition.
-/
import Derived.Test.YtpjpmfjngpjifaaDoorW04o
set_option linter.unusedVariables false
set_option linter.unusedSimpArgs false
set_option linter.unusedSectionVars false
namespace Go.Proofs.S04
open Go Go.Ev Go.Proofs
open Go.Proofs.S04.H (strsAV strsAV_length strsAV_get Sml GlK GlR zints Few64 nsI)
variable {gl : Gl} {n : Nat}
def isSite (a : Int) : Bool := decide (0 ≤ a ∧ a < 64)
theorem site_at (h : 1 ≤ n) (a : Int) : call gl tab n 67 [i64 a] [] = some (.bool (isSite a), [], []) := by
  obtain ⟨d, rfl⟩ := Nat.exists_eq_add_of_le' h
  rw [call_go (fd := fd67) rfl]
  unfold isSite
  by_cases h1 : 0 ≤ a
  · by_cases h2 : a < 64
    · rw [decide_eq_true ⟨h1, h2⟩]; simp (disch := ((fail_if_success (intro _)); omega)) only [go_sem, simprocAttr, ↓reduceIte, ↓Nat.reduceEqDiff, xx, fd67, m67]
    · rw [decide_eq_false fun h => h2 h.2]; simp (disch := ((fail_if_success (intro _)); omega)) only [go_sem, simprocAttr, ↓reduceIte, ↓Nat.reduceEqDiff, xx, fd67, m67]
  · rw [decide_eq_false fun h => h1 h.1]; simp (disch := ((fail_if_success (intro _)); omega)) only [go_sem, simprocAttr, ↓reduceIte, ↓Nat.reduceEqDiff, xx, fd67, m67]
theorem rsite_at (h : 1 ≤ n) (a : Int) : call gl tab n 68 [i64 a] [] = some (.bool (isSite a), [], []) := by
  obtain ⟨d, rfl⟩ := Nat.exists_eq_add_of_le' h
  rw [call_go (fd := fd68) rfl]
  unfold isSite
  by_cases h1 : 0 ≤ a
  · by_cases h2 : a < 64
    · rw [decide_eq_true ⟨h1, h2⟩]; simp (disch := ((fail_if_success (intro _)); omega)) only [go_sem, simprocAttr, ↓reduceIte, ↓Nat.reduceEqDiff, xx, fd68, m68]
    · rw [decide_eq_false fun h => h2 h.2]; simp (disch := ((fail_if_success (intro _)); omega)) only [go_sem, simprocAttr, ↓reduceIte, ↓Nat.reduceEqDiff, xx, fd68, m68]
  · rw [decide_eq_false fun h => h1 h.1]; simp (disch := ((fail_if_success (intro _)); omega)) only [go_sem, simprocAttr, ↓reduceIte, ↓Nat.reduceEqDiff, xx, fd68, m68]
theorem r64_1 : R64 1 := by unfold R64; omega
def spC (l : List Ky) (x : Sp) : Int := ckE l x.gate x.ser 41 (spP x) x.sgn x.lo x.hi
def epC (l : List Ky) (x : Ep) : Int := ckE l 1 x.ser 42 (epP x) x.sgn x.lo x.hi
def leC (l : List Ky) (x : Le) : Int := if isSite x.site = true then (if 1 ≤ x.til then ckE l 1 x.ser 43 (leP x) x.sgn (x.til - 1) (x.til - 1) else ckE l 1 x.ser 43 (leP x) x.sgn (-1) 0) else 1
def hdC (l : List Ky) (x : Hd) : Int := if isSite x.site = true then ckE l (1000 + x.site) x.ser 44 (hdP x) x.sgn x.lo x.hi else 1
theorem SpOk.g {x : Sp} (h : SpOk x) : R64 x.gate ∧ R64 x.ser := ⟨h.i.2 _ (by simp), h.i.2 _ (by simp)⟩
theorem EpOk.g {x : Ep} (h : EpOk x) : R64 x.ser := h.i.2 _ (by simp)
theorem LeOk.g {x : Le} (h : LeOk x) : R64 x.ser := h.i.2 _ (by simp)
theorem LeOk.u {x : Le} (h : LeOk x) : R64 x.til := h.i.2 _ (by simp)
theorem HdOk.g {x : Hd} (h : HdOk x) : R64 x.ser := h.i.2 _ (by simp)
section
variable {f : Bool} {m : Sh} {l : List Ky}
theorem spC_at [Nonempty (GlK gl)] (h : 11 ≤ n) (hm : Mk l m) (hv : VR l) (x : Sp) (hx : SpOk x) (hs : SpSh x) : call gl tab n 29 [.lst f m (ks l), spAV x] [] = some (i64 (spC l x), [], []) := by
  obtain ⟨d, rfl⟩ := Nat.exists_eq_add_of_le' h
  have c1 := @spP_at gl (d + 10) (by omega) x hx
  have c2 := @check_at gl (d + 10) f m l _ _ _ _ false _ (by omega) hm hv hx.g.1 hx.g.2 41 (spP_pts hx hs) hx.s x.lo x.hi
  have q0 := H.bytes_all x.sgn
  have q1 := H.bytes_all x.body
  unfold spC
  generalize ckE _ _ _ _ _ _ _ _ = z at *
  generalize strsAV (spP x) = w at *
  rw [call_go (fd := fd29) rfl]
  simp (implicitDefEqProofs := false) (disch := ((fail_if_success (intro _)); omega)) only [go_sem, simprocAttr, ↓reduceIte, ↓Nat.reduceEqDiff, xx, fd29, m29, c1, c2, hx.s, hx.r, q0, q1]
theorem rspC_at [Nonempty (GlR gl)] (h : 11 ≤ n) (hm : Mk l m) (hv : VR l) (x : Sp) (hx : SpOk x) (hs : SpSh x) : call gl tab n 30 [.lst f m (ks l), spAV x] [] = some (i64 (spC l x), [], []) := by
  obtain ⟨d, rfl⟩ := Nat.exists_eq_add_of_le' h
  have c1 := @rspP_at gl (d + 10) (by omega) x hx
  have c2 := @rcheck_at gl (d + 10) f m l _ _ _ _ false _ (by omega) hm hv hx.g.1 hx.g.2 41 (spP_pts hx hs) hx.s x.lo x.hi
  have q0 := H.bytes_all x.sgn
  have q1 := H.bytes_all x.body
  unfold spC
  generalize ckE _ _ _ _ _ _ _ _ = z at *
  generalize strsAV (spP x) = w at *
  rw [call_go (fd := fd30) rfl]
  simp (implicitDefEqProofs := false) (disch := ((fail_if_success (intro _)); omega)) only [go_sem, simprocAttr, ↓reduceIte, ↓Nat.reduceEqDiff, xx, fd30, m30, c1, c2, hx.s, hx.r, q0, q1]
theorem epC_at [Nonempty (GlK gl)] (h : 11 ≤ n) (hm : Mk l m) (hv : VR l) (g1 g2 : Bool) (x : Ep) (hx : EpOk x) (hs : EpSh x) : call gl tab n 31 [.lst f m (ks l), epAV g1 g2 x] [] = some (i64 (epC l x), [], []) := by
  obtain ⟨d, rfl⟩ := Nat.exists_eq_add_of_le' h
  have c1 := @epP_at gl (d + 10) (by omega) g1 g2 x hx
  have c2 := @check_at gl (d + 10) f m l _ _ _ _ false _ (by omega) hm hv r64_1 hx.g 42 (epP_pts hx hs) hx.s x.lo x.hi
  have q0 := H.bytes_all x.sgn
  have q1 := H.bytes_all x.prev
  unfold epC
  generalize ckE _ _ _ _ _ _ _ _ = z at *
  generalize strsAV (epP x) = w at *
  rw [call_go (fd := fd31) rfl]
  simp (implicitDefEqProofs := false) (disch := ((fail_if_success (intro _)); omega)) only [go_sem, simprocAttr, ↓reduceIte, ↓Nat.reduceEqDiff, xx, fd31, m31, c1, c2, hx.s, hx.p, q0, q1]
theorem repC_at [Nonempty (GlR gl)] (h : 11 ≤ n) (hm : Mk l m) (hv : VR l) (g1 g2 : Bool) (x : Ep) (hx : EpOk x) (hs : EpSh x) : call gl tab n 32 [.lst f m (ks l), epAV g1 g2 x] [] = some (i64 (epC l x), [], []) := by
  obtain ⟨d, rfl⟩ := Nat.exists_eq_add_of_le' h
  have c1 := @repP_at gl (d + 10) (by omega) g1 g2 x hx
  have c2 := @rcheck_at gl (d + 10) f m l _ _ _ _ false _ (by omega) hm hv r64_1 hx.g 42 (epP_pts hx hs) hx.s x.lo x.hi
  have q0 := H.bytes_all x.sgn
  have q1 := H.bytes_all x.prev
  unfold epC
  generalize ckE _ _ _ _ _ _ _ _ = z at *
  generalize strsAV (epP x) = w at *
  rw [call_go (fd := fd32) rfl]
  simp (implicitDefEqProofs := false) (disch := ((fail_if_success (intro _)); omega)) only [go_sem, simprocAttr, ↓reduceIte, ↓Nat.reduceEqDiff, xx, fd32, m32, c1, c2, hx.s, hx.p, q0, q1]
theorem hdC_at [Nonempty (GlK gl)] (h : 11 ≤ n) (hm : Mk l m) (hv : VR l) (x : Hd) (hx : HdOk x) : call gl tab n 35 [.lst f m (ks l), hdAV x] [] = some (i64 (hdC l x), [], []) := by
  obtain ⟨d, rfl⟩ := Nat.exists_eq_add_of_le' h
  have c0 := @site_at gl (d + 10) (by omega) x.site
  have q0 := H.bytes_all x.sgn
  have q1 := H.bytes_all x.root
  unfold hdC
  by_cases hsi : isSite x.site = true
  · rw [hsi] at c0
    rw [if_pos hsi]
    simp only [isSite, decide_eq_true_eq] at hsi
    have c1 := @hdP_at gl (d + 10) (by omega) x hx
    have c2 := @check_at gl (d + 10) f m l (1000 + x.site) _ _ _ false _ (by omega) hm hv (by unfold R64; omega) hx.g 44 (hdP_pts hx) hx.s x.lo x.hi
    generalize ckE _ _ _ _ _ _ _ _ = z at *
    generalize strsAV (hdP x) = w at *
    rw [call_go (fd := fd35) rfl]
    simp (implicitDefEqProofs := false) (disch := ((fail_if_success (intro _)); omega)) only [go_sem, simprocAttr, ↓reduceIte, ↓Nat.reduceEqDiff, xx, fd35, m35, c0, c1, c2, hx.s, hx.r, q0, q1]
  · rw [if_neg hsi]
    rw [Bool.not_eq_true] at hsi
    rw [hsi] at c0
    rw [call_go (fd := fd35) rfl]
    simp (implicitDefEqProofs := false) (disch := ((fail_if_success (intro _)); omega)) only [go_sem, simprocAttr, ↓reduceIte, ↓Nat.reduceEqDiff, xx, fd35, m35, c0, hx.s, hx.r, q0, q1]
theorem rhdC_at [Nonempty (GlR gl)] (h : 11 ≤ n) (hm : Mk l m) (hv : VR l) (x : Hd) (hx : HdOk x) : call gl tab n 36 [.lst f m (ks l), hdAV x] [] = some (i64 (hdC l x), [], []) := by
  obtain ⟨d, rfl⟩ := Nat.exists_eq_add_of_le' h
  have c0 := @rsite_at gl (d + 10) (by omega) x.site
  have q0 := H.bytes_all x.sgn
  have q1 := H.bytes_all x.root
  unfold hdC
  by_cases hsi : isSite x.site = true
  · rw [hsi] at c0
    rw [if_pos hsi]
    simp only [isSite, decide_eq_true_eq] at hsi
    have c1 := @rhdP_at gl (d + 10) (by omega) x hx
    have c2 := @rcheck_at gl (d + 10) f m l (1000 + x.site) _ _ _ false _ (by omega) hm hv (by unfold R64; omega) hx.g 44 (hdP_pts hx) hx.s x.lo x.hi
    generalize ckE _ _ _ _ _ _ _ _ = z at *
    generalize strsAV (hdP x) = w at *
    rw [call_go (fd := fd36) rfl]
    simp (implicitDefEqProofs := false) (disch := ((fail_if_success (intro _)); omega)) only [go_sem, simprocAttr, ↓reduceIte, ↓Nat.reduceEqDiff, xx, fd36, m36, c0, c1, c2, hx.s, hx.r, q0, q1]
  · rw [if_neg hsi]
    rw [Bool.not_eq_true] at hsi
    rw [hsi] at c0
    rw [call_go (fd := fd36) rfl]
    simp (implicitDefEqProofs := false) (disch := ((fail_if_success (intro _)); omega)) only [go_sem, simprocAttr, ↓reduceIte, ↓Nat.reduceEqDiff, xx, fd36, m36, c0, hx.s, hx.r, q0, q1]
theorem leC_at [Nonempty (GlK gl)] (h : 11 ≤ n) (hm : Mk l m) (hv : VR l) (x : Le) (hx : LeOk x) : call gl tab n 33 [.lst f m (ks l), leAV x] [] = some (i64 (leC l x), [], []) := by
  obtain ⟨d, rfl⟩ := Nat.exists_eq_add_of_le' h
  have c0 := @site_at gl (d + 10) (by omega) x.site
  have q0 := H.bytes_all x.sgn
  have hu := hx.u
  unfold R64 at hu
  unfold leC
  by_cases hsi : isSite x.site = true
  · rw [hsi] at c0
    rw [if_pos hsi]
    have c1 := @leP_at gl (d + 10) (by omega) x hx
    by_cases ht : 1 ≤ x.til
    · rw [if_pos ht]
      have c2 := @check_at gl (d + 10) f m l _ _ _ _ false _ (by omega) hm hv r64_1 hx.g 43 (leP_pts x) hx.s (x.til - 1) (x.til - 1)
      generalize ckE _ _ _ _ _ _ _ _ = z at *
      generalize strsAV (leP x) = w at *
      rw [call_go (fd := fd33) rfl]
      simp (implicitDefEqProofs := false) (disch := ((fail_if_success (intro _)); omega)) only [go_sem, simprocAttr, ↓reduceIte, ↓Nat.reduceEqDiff, xx, fd33, m33, c0, c1, c2, hx.s, q0]
    · rw [if_neg ht]
      have c2 := @check_at gl (d + 10) f m l _ _ _ _ false _ (by omega) hm hv r64_1 hx.g 43 (leP_pts x) hx.s (-1) 0
      generalize ckE _ _ _ _ _ _ _ _ = z at *
      generalize strsAV (leP x) = w at *
      rw [call_go (fd := fd33) rfl]
      simp (implicitDefEqProofs := false) (disch := ((fail_if_success (intro _)); omega)) only [go_sem, simprocAttr, ↓reduceIte, ↓Nat.reduceEqDiff, xx, fd33, m33, c0, c1, c2, hx.s, q0]
  · rw [if_neg hsi]
    rw [Bool.not_eq_true] at hsi
    rw [hsi] at c0
    rw [call_go (fd := fd33) rfl]
    simp (implicitDefEqProofs := false) (disch := ((fail_if_success (intro _)); omega)) only [go_sem, simprocAttr, ↓reduceIte, ↓Nat.reduceEqDiff, xx, fd33, m33, c0, hx.s, q0]
theorem ckE_off {p s tag : Int} {ps : List (List UInt8)} {sl : List UInt8} {lo hi : Int} (hv : VR l) (h : lo < 0 ∨ 1099511627776 ≤ hi) : ckE l p s tag ps sl lo hi = match fnK l p s with | none => 5 | some _ => 9 := by
  unfold ckE
  cases hf : fnK l p s with
  | none => rfl
  | some x =>
    have hx : x ∈ l := List.mem_of_find?_eq_some hf
    obtain ⟨i, hi', rfl⟩ := List.getElem_of_mem hx
    have v := (hv.ok i hi').v.t
    rw [yat_eq hi'] at v
    have hc : cnt l[i] lo hi = false := by unfold cnt; rw [decide_eq_false_iff_not]; omega
    simp only [hc, Bool.false_eq_true, if_false]
theorem rleC_at [Nonempty (GlR gl)] (h : 11 ≤ n) (hm : Mk l m) (hv : VR l) (x : Le) (hx : LeOk x) : call gl tab n 34 [.lst f m (ks l), leAV x] [] = some (i64 (leC l x), [], []) := by
  obtain ⟨d, rfl⟩ := Nat.exists_eq_add_of_le' h
  have c0 := @rsite_at gl (d + 10) (by omega) x.site
  have q0 := H.bytes_all x.sgn
  have hu := hx.u
  unfold R64 at hu
  unfold leC
  by_cases hsi : isSite x.site = true
  · rw [hsi] at c0
    rw [if_pos hsi]
    by_cases ht : 1 ≤ x.til ∧ x.til ≤ 1099511627776
    · obtain ⟨ht, ht2⟩ := ht
      rw [if_pos ht]
      have c1 := @rleP_at gl (d + 10) (by omega) x hx
      have c2 := @rcheck_at gl (d + 10) f m l _ _ _ _ false _ (by omega) hm hv r64_1 hx.g 43 (leP_pts x) hx.s (x.til - 1) (x.til - 1)
      generalize ckE _ _ _ _ _ _ _ _ = z at *
      generalize strsAV (leP x) = w at *
      rw [call_go (fd := fd34) rfl]
      simp (implicitDefEqProofs := false) (disch := ((fail_if_success (intro _)); omega)) only [go_sem, simprocAttr, ↓reduceIte, ↓Nat.reduceEqDiff, xx, fd34, m34, c0, c1, c2, hx.s, q0]
    · have e : (if 1 ≤ x.til then ckE l 1 x.ser 43 (leP x) x.sgn (x.til - 1) (x.til - 1) else ckE l 1 x.ser 43 (leP x) x.sgn (-1) 0) = match fnK l 1 x.ser with | none => 5 | some _ => 9 := by
        by_cases ht1 : 1 ≤ x.til
        · rw [if_pos ht1]; exact ckE_off hv (.inr (by omega))
        · rw [if_neg ht1]; exact ckE_off hv (.inl (by omega))
      rw [e]
      have hg : 1099511627776 < x.til ∨ x.til < 1 := by omega
      rcases @finds gl (d + 10) (by omega) f m l hm hv 1 x.ser r64_1 hx.g with ⟨k, hk, _, c17⟩ | ⟨hno, _, c17⟩
      · rw [fnK_is hv hk]
        rw [call_go (fd := fd34) rfl]
        rcases hg with hg | hg
        · simp (disch := ((fail_if_success (intro _)); omega)) only [go_sem, simprocAttr, ↓reduceIte, ↓Nat.reduceEqDiff, xx, fd34, m34, c0, c17, hx.s, q0]
        · simp (disch := ((fail_if_success (intro _)); omega)) only [go_sem, simprocAttr, ↓reduceIte, ↓Nat.reduceEqDiff, xx, fd34, m34, c0, c17, hx.s, q0]
      · rw [fnK_no hno]
        rw [call_go (fd := fd34) rfl]
        rcases hg with hg | hg
        · simp (disch := ((fail_if_success (intro _)); omega)) only [go_sem, simprocAttr, ↓reduceIte, ↓Nat.reduceEqDiff, xx, fd34, m34, c0, c17, hx.s, q0]
        · simp (disch := ((fail_if_success (intro _)); omega)) only [go_sem, simprocAttr, ↓reduceIte, ↓Nat.reduceEqDiff, xx, fd34, m34, c0, c17, hx.s, q0]
  · rw [if_neg hsi]
    rw [Bool.not_eq_true] at hsi
    rw [hsi] at c0
    rw [call_go (fd := fd34) rfl]
    simp (implicitDefEqProofs := false) (disch := ((fail_if_success (intro _)); omega)) only [go_sem, simprocAttr, ↓reduceIte, ↓Nat.reduceEqDiff, xx, fd34, m34, c0, hx.s, q0]
end
end Go.Proofs.S04
