/-
  Chapter 4: records are sealed, in both. No condition.
-/
import Derived.Test.YtpjpmfjngpjifaaDoorW04l
set_option linter.unusedVariables false
set_option linter.unusedSimpArgs false
set_option linter.unusedSectionVars false
namespace Go.Proofs.S04
open Go Go.Ev Go.Proofs
open Go.Proofs.S04.H (strsAV strsAV_length strsAV_get Sml GlK GlR zints Few64 nsI)
variable {gl : Gl} {n : Nat}
theorem R64.few {a : Int} (h : R64 a) : -9223372036854775808 ≤ a ∧ a ≤ 9223372036854775807 := h
theorem zints_le {l : List Int} (h : l.length ≤ 1000) : (zints l).length ≤ 1048576 := by have := @H.zints_len l; omega
structure KOk (k : Ky) : Prop where
  p : R64 k.p
  s : R64 k.s
  k : k.k.length ≤ 1048576
theorem VK.ok {k : Ky} (h : VK k) : KOk k := ⟨R64.of h.p, R64.of h.s, by have := h.k; omega⟩
theorem few_cons {a : Int} {l : List Int} (h : Few64 (a :: l)) : R64 a ∧ Few64 l := ⟨h.2 a (by simp), by have := h.1; simp at this; omega, fun x hx => h.2 x (by simp [hx])⟩
theorem few_mk {a : Int} {l : List Int} (h1 : R64 a) (h2 : Few64 l) (h3 : l.length < 1000) : Few64 (a :: l) := ⟨by simp; omega, fun x hx => by
  simp only [List.mem_cons] at hx
  rcases hx with rfl | hx
  · exact h1
  · exact h2.2 x hx⟩
theorem few_nil : Few64 [] := ⟨by simp, fun x hx => by simp at hx⟩
def leK (k : Ky) (x : Le) : Le := ⟨x.site, x.ep, x.til, k.s, x.sgn⟩
def leS (k : Ky) (x : Le) : Le := ⟨x.site, x.ep, x.til, k.s, sea k.k 43 (leP (leK k x))⟩
def hdK (k : Ky) (x : Hd) : Hd := ⟨x.site, x.size, x.root, x.lo, x.hi, k.s, x.sgn⟩
def hdS (k : Ky) (x : Hd) : Hd := ⟨x.site, x.size, x.root, x.lo, x.hi, k.s, sea k.k 44 (hdP (hdK k x))⟩
def spK (k : Ky) (x : Sp) : Sp := ⟨x.addr, x.var, x.st, x.sz, x.body, x.tags, x.lo, x.hi, k.p, k.s, x.sgn⟩
def spS (k : Ky) (x : Sp) : Sp := ⟨x.addr, x.var, x.st, x.sz, x.body, x.tags, x.lo, x.hi, k.p, k.s, sea k.k 41 (spP (spK k x))⟩
def epK (k : Ky) (x : Ep) : Ep := ⟨x.num, x.prev, x.lo, x.hi, x.pur, x.rev, k.s, x.sgn⟩
def epS (k : Ky) (x : Ep) : Ep := ⟨x.num, x.prev, x.lo, x.hi, x.pur, x.rev, k.s, sea k.k 42 (epP (epK k x))⟩
theorem leK_ok {k : Ky} (hk : KOk k) {x : Le} (h : LeOk x) : LeOk (leK k x) := by
  obtain ⟨a1, h1⟩ := few_cons h.i
  obtain ⟨a2, h2⟩ := few_cons h1
  obtain ⟨a3, h3⟩ := few_cons h2
  exact ⟨few_mk a1 (few_mk a2 (few_mk a3 (few_mk hk.s few_nil (by simp)) (by simp)) (by simp)) (by simp), h.s⟩
theorem leS_ok {k : Ky} (hk : KOk k) {x : Le} (h : LeOk x) : LeOk (leS k x) := ⟨(leK_ok hk h).i, sea_len _ _ _⟩
theorem hdK_ok {k : Ky} (hk : KOk k) {x : Hd} (h : HdOk x) : HdOk (hdK k x) := by
  obtain ⟨a1, h1⟩ := few_cons h.i
  obtain ⟨a2, h2⟩ := few_cons h1
  obtain ⟨a3, h3⟩ := few_cons h2
  obtain ⟨a4, h4⟩ := few_cons h3
  exact ⟨few_mk a1 (few_mk a2 (few_mk a3 (few_mk a4 (few_mk hk.s few_nil (by simp)) (by simp)) (by simp)) (by simp)) (by simp), h.r, h.s⟩
theorem hdS_ok {k : Ky} (hk : KOk k) {x : Hd} (h : HdOk x) : HdOk (hdS k x) := ⟨(hdK_ok hk h).i, h.r, sea_len _ _ _⟩
theorem spK_ok {k : Ky} (hk : KOk k) {x : Sp} (h : SpOk x) : SpOk (spK k x) := by
  obtain ⟨a1, h1⟩ := few_cons h.i
  obtain ⟨a2, h2⟩ := few_cons h1
  obtain ⟨a3, h3⟩ := few_cons h2
  obtain ⟨a4, h4⟩ := few_cons h3
  exact ⟨few_mk a1 (few_mk a2 (few_mk a3 (few_mk a4 (few_mk hk.p (few_mk hk.s few_nil (by simp)) (by simp)) (by simp)) (by simp)) (by simp)) (by simp), h.r, h.s⟩
theorem spS_ok {k : Ky} (hk : KOk k) {x : Sp} (h : SpOk x) : SpOk (spS k x) := ⟨(spK_ok hk h).i, h.r, sea_len _ _ _⟩
theorem epK_ok {k : Ky} (hk : KOk k) {x : Ep} (h : EpOk x) : EpOk (epK k x) := by
  obtain ⟨a1, h1⟩ := few_cons h.i
  obtain ⟨a2, h2⟩ := few_cons h1
  obtain ⟨a3, h3⟩ := few_cons h2
  exact ⟨few_mk a1 (few_mk a2 (few_mk a3 (few_mk hk.s few_nil (by simp)) (by simp)) (by simp)) (by simp), h.p, h.s, h.pl, h.pk, h.rl, h.r⟩
theorem epS_ok {k : Ky} (hk : KOk k) {x : Ep} (h : EpOk x) : EpOk (epS k x) :=
  have h1 := epK_ok hk h
  ⟨h1.i, h1.p, sea_len _ _ _, h1.pl, h1.pk, h1.rl, h1.r⟩
def SpSh (x : Sp) : Prop := x.addr.length ≤ 1048576 ∧ x.var.length ≤ 1048576 ∧ x.tags.length ≤ 1048576
def EpSh (x : Ep) : Prop := ∀ i, i < x.pur.length → (puA x.pur i).what.length ≤ 1048576
theorem leP_pts (x : Le) : Pts (leP x) := ⟨by simp [leP], fun y hy => by
  simp only [leP, List.mem_cons, List.not_mem_nil, or_false] at hy
  subst hy; exact zints_le (by simp)⟩
theorem hdP_pts {x : Hd} (h : HdOk x) : Pts (hdP x) := ⟨by simp [hdP], fun y hy => by
  simp only [hdP, List.mem_cons, List.not_mem_nil, or_false] at hy
  rcases hy with rfl | rfl
  · exact zints_le (by simp)
  · rw [h.r]; decide⟩
theorem spP_pts {x : Sp} (h : SpOk x) (hs : SpSh x) : Pts (spP x) := ⟨by simp [spP], fun y hy => by
  simp only [spP, List.mem_cons, List.not_mem_nil, or_false] at hy
  rcases hy with rfl | rfl | rfl | rfl | rfl
  · exact hs.1
  · exact hs.2.1
  · exact zints_le (by simp)
  · rw [h.r]; decide
  · exact hs.2.2⟩
theorem epP_pts {x : Ep} (h : EpOk x) (hs : EpSh x) : Pts (epP x) := by
  refine ⟨?_, ?_⟩
  · have := epL2_len x x.rev.length; have := h.pl; have := h.rl; unfold epP; omega
  have k1 : ∀ i, i ≤ x.pur.length → ∀ y ∈ epL1 x i, y.length ≤ 1048576 := by
    intro i
    induction i with
    | zero =>
      intro _ y hy
      simp only [epL1, epH, List.mem_cons, List.not_mem_nil, or_false] at hy
      rcases hy with rfl | rfl
      · exact zints_le (by simp)
      · rw [h.p]; decide
    | succ i ih =>
      intro hi y hy
      simp only [epL1, puP, List.mem_append, List.mem_cons, List.not_mem_nil, or_false] at hy
      rcases hy with hy | rfl | rfl
      · exact ih (by omega) y hy
      · exact zints_le (by simp)
      · exact hs i (by omega)
  have k2 : ∀ i, i ≤ x.rev.length → ∀ y ∈ epL2 x i, y.length ≤ 1048576 := by
    intro i
    induction i with
    | zero => intro _; rw [epL2]; exact k1 _ (Nat.le_refl _)
    | succ i ih =>
      intro hi y hy
      simp only [epL2, List.mem_append, List.mem_cons, List.not_mem_nil, or_false] at hy
      rcases hy with hy | rfl
      · exact ih (by omega) y hy
      · rw [h.r i (by omega)]; decide
  exact k2 _ (Nat.le_refl _)
def zLe : AV := .agg [i64 0, i64 0, i64 0, i64 0, .agg H.out16l]
theorem leSd_at [Nonempty (GlK gl)] (h : 9 ≤ n) {k : Ky} (hk : KOk k) (tag : Int) (x : Le) (hx : LeOk x) : call gl tab n 78 [ky k, i64 tag, leAV x, .fn 42 []] [] = some (.agg (sAV k.k tag (leP x)), [], []) := by
  obtain ⟨d, rfl⟩ := Nat.exists_eq_add_of_le' h
  have c1 := @leP_at gl (d + 8) (by omega) x hx
  have c2 := @make_at gl (d + 8) _ (by omega) k hk.k tag false (leP x) (leP_pts _)
  have q0 := H.bytes_all x.sgn
  have d1 := sAV_len k.k tag (leP x)
  have d2 := sAV_all k.k tag (leP x)
  have d3 := sAV_pl k.k tag (leP x)
  generalize sAV k.k tag (leP x) = z at *
  generalize strsAV (leP x) = w at *
  rw [call_go (fd := fd78) rfl]
  simp (implicitDefEqProofs := false) (disch := ((fail_if_success (intro _)); omega)) only [go_sem, simprocAttr, ↓reduceIte, ↓Nat.reduceEqDiff, xx, fd78, m78, c1, c2, hx.s, q0, d1, d2, d3, ↓out16_eq, H.out16_len, H.out16_all, H.out16_pl]
theorem leS_at [Nonempty (GlK gl)] (h : 10 ≤ n) {k : Ky} (hk : KOk k) (x : Le) (hx : LeOk x) : call gl tab n 51 [ky k, leAV x] [] = some (leAV (leS k x), [], []) := by
  obtain ⟨d, rfl⟩ := Nat.exists_eq_add_of_le' h
  have c1 := @leSd_at gl (d + 9) _ (by omega) k hk 43 _ (leK_ok hk hx)
  have q0 := H.bytes_all x.sgn
  have d1 := sAV_len k.k 43 (leP (leK k x))
  have d2 := sAV_all k.k 43 (leP (leK k x))
  have d3 := sAV_pl k.k 43 (leP (leK k x))
  have e1 : bytesAV (sea k.k 43 (leP (leK k x))) = sAV k.k 43 (leP (leK k x)) := rfl
  unfold leS
  simp only [leAV, leK, bAV, e1] at c1 d1 d2 d3 ⊢
  simp only [leK, bAV] at e1
  rw [e1]
  generalize sAV k.k 43 _ = z at *
  rw [call_go (fd := fd51) rfl]
  simp (implicitDefEqProofs := false) (disch := ((fail_if_success (intro _)); omega)) only [go_sem, simprocAttr, ↓reduceIte, ↓Nat.reduceEqDiff, xx, fd51, m51, c1, hx.s, q0, d1, d2, d3, ↓out16_eq, H.out16_len, H.out16_all, H.out16_pl]
theorem lerS_at [Nonempty (GlR gl)] (h : 10 ≤ n) {k : Ky} (hk : KOk k) (x : Le) (hx : LeOk x) : call gl tab n 52 [ky k, leAV x] [] = some (leAV (leS k x), [], []) := by
  obtain ⟨d, rfl⟩ := Nat.exists_eq_add_of_le' h
  have hx' := leK_ok hk hx
  have c1 := @rleP_at gl (d + 9) (by omega) _ hx'
  have c2 := @rmake_at gl (d + 9) _ (by omega) k hk.k 43 false (leP (leK k x)) (leP_pts _)
  have q0 := H.bytes_all x.sgn
  have d1 := sAV_len k.k 43 (leP (leK k x))
  have d2 := sAV_all k.k 43 (leP (leK k x))
  have d3 := sAV_pl k.k 43 (leP (leK k x))
  have e1 : bytesAV (sea k.k 43 (leP (leK k x))) = sAV k.k 43 (leP (leK k x)) := rfl
  unfold leS
  simp only [leAV, bAV]
  rw [e1]
  generalize sAV k.k 43 _ = z at *
  generalize strsAV (leP (leK k x)) = w at *
  simp only [leAV, leK, bAV] at c1
  rw [call_go (fd := fd52) rfl]
  simp (implicitDefEqProofs := false) (disch := ((fail_if_success (intro _)); omega)) only [go_sem, simprocAttr, ↓reduceIte, ↓Nat.reduceEqDiff, xx, fd52, m52, c1, c2, hx.s, q0, d1, d2, d3, ↓out16_eq, H.out16_len, H.out16_all, H.out16_pl]
theorem hdSd_at [Nonempty (GlK gl)] (h : 9 ≤ n) {k : Ky} (hk : KOk k) (tag : Int) (x : Hd) (hx : HdOk x) : call gl tab n 79 [ky k, i64 tag, hdAV x, .fn 44 []] [] = some (.agg (sAV k.k tag (hdP x)), [], []) := by
  obtain ⟨d, rfl⟩ := Nat.exists_eq_add_of_le' h
  have c1 := @hdP_at gl (d + 8) (by omega) x hx
  have c2 := @make_at gl (d + 8) _ (by omega) k hk.k tag false (hdP x) (hdP_pts hx)
  have q0 := H.bytes_all x.sgn
  have q1 := H.bytes_all x.root
  have d1 := sAV_len k.k tag (hdP x)
  have d2 := sAV_all k.k tag (hdP x)
  have d3 := sAV_pl k.k tag (hdP x)
  generalize sAV k.k tag (hdP x) = z at *
  generalize strsAV (hdP x) = w at *
  rw [call_go (fd := fd79) rfl]
  simp (implicitDefEqProofs := false) (disch := ((fail_if_success (intro _)); omega)) only [go_sem, simprocAttr, ↓reduceIte, ↓Nat.reduceEqDiff, xx, fd79, m79, c1, c2, hx.s, hx.r, q0, q1, d1, d2, d3, ↓out16_eq, H.out16_len, H.out16_all, H.out16_pl]
theorem hdS_at [Nonempty (GlK gl)] (h : 10 ≤ n) {k : Ky} (hk : KOk k) (x : Hd) (hx : HdOk x) : call gl tab n 53 [ky k, hdAV x] [] = some (hdAV (hdS k x), [], []) := by
  obtain ⟨d, rfl⟩ := Nat.exists_eq_add_of_le' h
  have c1 := @hdSd_at gl (d + 9) _ (by omega) k hk 44 _ (hdK_ok hk hx)
  have q0 := H.bytes_all x.sgn
  have q1 := H.bytes_all x.root
  have d1 := sAV_len k.k 44 (hdP (hdK k x))
  have d2 := sAV_all k.k 44 (hdP (hdK k x))
  have d3 := sAV_pl k.k 44 (hdP (hdK k x))
  have e1 : bytesAV (sea k.k 44 (hdP (hdK k x))) = sAV k.k 44 (hdP (hdK k x)) := rfl
  unfold hdS
  simp only [hdAV, hdK, bAV, e1] at c1 d1 d2 d3 ⊢
  simp only [hdK, bAV] at e1
  rw [e1]
  generalize sAV k.k 44 _ = z at *
  rw [call_go (fd := fd53) rfl]
  simp (implicitDefEqProofs := false) (disch := ((fail_if_success (intro _)); omega)) only [go_sem, simprocAttr, ↓reduceIte, ↓Nat.reduceEqDiff, xx, fd53, m53, c1, hx.s, hx.r, q0, q1, d1, d2, d3, ↓out16_eq, H.out16_len, H.out16_all, H.out16_pl]
theorem hdrS_at [Nonempty (GlR gl)] (h : 10 ≤ n) {k : Ky} (hk : KOk k) (x : Hd) (hx : HdOk x) : call gl tab n 54 [ky k, hdAV x] [] = some (hdAV (hdS k x), [], []) := by
  obtain ⟨d, rfl⟩ := Nat.exists_eq_add_of_le' h
  have hx' := hdK_ok hk hx
  have c1 := @rhdP_at gl (d + 9) (by omega) _ hx'
  have c2 := @rmake_at gl (d + 9) _ (by omega) k hk.k 44 false (hdP (hdK k x)) (hdP_pts hx')
  have q0 := H.bytes_all x.sgn
  have q1 := H.bytes_all x.root
  have d1 := sAV_len k.k 44 (hdP (hdK k x))
  have d2 := sAV_all k.k 44 (hdP (hdK k x))
  have d3 := sAV_pl k.k 44 (hdP (hdK k x))
  have e1 : bytesAV (sea k.k 44 (hdP (hdK k x))) = sAV k.k 44 (hdP (hdK k x)) := rfl
  unfold hdS
  simp only [hdAV, bAV]
  rw [e1]
  generalize sAV k.k 44 _ = z at *
  generalize strsAV (hdP (hdK k x)) = w at *
  simp only [hdAV, hdK, bAV] at c1
  rw [call_go (fd := fd54) rfl]
  simp (implicitDefEqProofs := false) (disch := ((fail_if_success (intro _)); omega)) only [go_sem, simprocAttr, ↓reduceIte, ↓Nat.reduceEqDiff, xx, fd54, m54, c1, c2, hx.s, hx.r, q0, q1, d1, d2, d3, ↓out16_eq, H.out16_len, H.out16_all, H.out16_pl]
theorem spSd_at [Nonempty (GlK gl)] (h : 9 ≤ n) {k : Ky} (hk : KOk k) (tag : Int) (x : Sp) (hx : SpOk x) (hs : SpSh x) : call gl tab n 74 [ky k, i64 tag, spAV x, .fn 38 []] [] = some (.agg (sAV k.k tag (spP x)), [], []) := by
  obtain ⟨d, rfl⟩ := Nat.exists_eq_add_of_le' h
  have c1 := @spP_at gl (d + 8) (by omega) x hx
  have c2 := @make_at gl (d + 8) _ (by omega) k hk.k tag false (spP x) (spP_pts hx hs)
  have q0 := H.bytes_all x.sgn
  have q1 := H.bytes_all x.body
  have d1 := sAV_len k.k tag (spP x)
  have d2 := sAV_all k.k tag (spP x)
  have d3 := sAV_pl k.k tag (spP x)
  generalize sAV k.k tag (spP x) = z at *
  generalize strsAV (spP x) = w at *
  rw [call_go (fd := fd74) rfl]
  simp (implicitDefEqProofs := false) (disch := ((fail_if_success (intro _)); omega)) only [go_sem, simprocAttr, ↓reduceIte, ↓Nat.reduceEqDiff, xx, fd74, m74, c1, c2, hx.s, hx.r, q0, q1, d1, d2, d3, ↓out16_eq, H.out16_len, H.out16_all, H.out16_pl]
theorem spS_at [Nonempty (GlK gl)] (h : 10 ≤ n) {k : Ky} (hk : KOk k) (x : Sp) (hx : SpOk x) (hs : SpSh x) : call gl tab n 46 [ky k, spAV x] [] = some (spAV (spS k x), [], []) := by
  obtain ⟨d, rfl⟩ := Nat.exists_eq_add_of_le' h
  have c1 := @spSd_at gl (d + 9) _ (by omega) k hk 41 _ (spK_ok hk hx) hs
  have q0 := H.bytes_all x.sgn
  have q1 := H.bytes_all x.body
  have d1 := sAV_len k.k 41 (spP (spK k x))
  have d2 := sAV_all k.k 41 (spP (spK k x))
  have d3 := sAV_pl k.k 41 (spP (spK k x))
  have e1 : bytesAV (sea k.k 41 (spP (spK k x))) = sAV k.k 41 (spP (spK k x)) := rfl
  unfold spS
  simp only [spAV, spK, bAV, e1] at c1 d1 d2 d3 ⊢
  simp only [spK, bAV] at e1
  rw [e1]
  generalize sAV k.k 41 _ = z at *
  rw [call_go (fd := fd46) rfl]
  simp (implicitDefEqProofs := false) (disch := ((fail_if_success (intro _)); omega)) only [go_sem, simprocAttr, ↓reduceIte, ↓Nat.reduceEqDiff, xx, fd46, m46, c1, hx.s, hx.r, q0, q1, d1, d2, d3, ↓out16_eq, H.out16_len, H.out16_all, H.out16_pl]
theorem sprS_at [Nonempty (GlR gl)] (h : 10 ≤ n) {k : Ky} (hk : KOk k) (x : Sp) (hx : SpOk x) (hs : SpSh x) : call gl tab n 47 [ky k, spAV x] [] = some (spAV (spS k x), [], []) := by
  obtain ⟨d, rfl⟩ := Nat.exists_eq_add_of_le' h
  have hx' := spK_ok hk hx
  have c1 := @rspP_at gl (d + 9) (by omega) _ hx'
  have c2 := @rmake_at gl (d + 9) _ (by omega) k hk.k 41 false (spP (spK k x)) (spP_pts hx' hs)
  have q0 := H.bytes_all x.sgn
  have q1 := H.bytes_all x.body
  have d1 := sAV_len k.k 41 (spP (spK k x))
  have d2 := sAV_all k.k 41 (spP (spK k x))
  have d3 := sAV_pl k.k 41 (spP (spK k x))
  have e1 : bytesAV (sea k.k 41 (spP (spK k x))) = sAV k.k 41 (spP (spK k x)) := rfl
  unfold spS
  simp only [spAV, bAV]
  rw [e1]
  generalize sAV k.k 41 _ = z at *
  generalize strsAV (spP (spK k x)) = w at *
  simp only [spAV, spK, bAV] at c1
  rw [call_go (fd := fd47) rfl]
  simp (implicitDefEqProofs := false) (disch := ((fail_if_success (intro _)); omega)) only [go_sem, simprocAttr, ↓reduceIte, ↓Nat.reduceEqDiff, xx, fd47, m47, c1, c2, hx.s, hx.r, q0, q1, d1, d2, d3, ↓out16_eq, H.out16_len, H.out16_all, H.out16_pl]
end Go.Proofs.S04
