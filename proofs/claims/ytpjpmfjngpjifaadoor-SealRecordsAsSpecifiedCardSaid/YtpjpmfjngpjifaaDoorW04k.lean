/-
  Chapter 4: the parts of stamps, leases and heads. No condition.
-/
import Derived.Test.YtpjpmfjngpjifaaDoorW04G16x7
set_option linter.unusedVariables false
set_option linter.unusedSimpArgs false
set_option linter.unusedSectionVars false
namespace Go.Proofs.S04
open Go Go.Ev Go.Proofs
open Go.Proofs.S04.H (strsAV strsAV_length strsAV_get Sml GlK GlR zints Few64 nsI)
set_option linter.unusedSimpArgs false
set_option linter.unusedVariables false
variable {gl : Gl} {n : Nat}
theorem ints_at (h : 4 ≤ n) (f : Bool) (l : List Int) (hl : Few64 l) : call gl tab n 70 [.lst f .sc (nsI l)] [] = some (.str (zints l), [], []) := by
  obtain ⟨d, rfl⟩ := Nat.exists_eq_add_of_le' h
  have c := @H.ints_ok gl (d + 3) (by omega) f l hl
  have t : List.take (zints l).length (bytesAV (zints l)) = bytesAV (zints l) := List.take_of_length_le (by rw [bytesAV_length]; exact Nat.le_refl _)
  rw [call_go (fd := fd70) rfl]
  generalize zints l = z at *
  simp (disch := ((fail_if_success (intro _)); omega)) only [go_sem, simprocAttr, ↓reduceIte, ↓Nat.reduceEqDiff, xx, fd70, m70, c, bytesAV_length, t]
theorem rints_at (h : 4 ≤ n) (f : Bool) (l : List Int) (hl : Few64 l) : call gl tab n 71 [.lst f .sc (nsI l)] [] = some (.str (zints l), [], []) := by
  obtain ⟨d, rfl⟩ := Nat.exists_eq_add_of_le' h
  have c := @H.rints_ok gl (d + 3) (by omega) f l hl
  have t : List.take (zints l).length (bytesAV (zints l)) = bytesAV (zints l) := List.take_of_length_le (by rw [bytesAV_length]; exact Nat.le_refl _)
  rw [call_go (fd := fd71) rfl]
  generalize zints l = z at *
  simp (disch := ((fail_if_success (intro _)); omega)) only [go_sem, simprocAttr, ↓reduceIte, ↓Nat.reduceEqDiff, xx, fd71, m71, c, bytesAV_length, t]
theorem rdig_at (h : 2 ≤ n) (b : List UInt8) (hb : b.length = 16) : call gl tab n 72 [.agg (bytesAV b)] [] = some (.str b, [], []) := by
  obtain ⟨d, rfl⟩ := Nat.exists_eq_add_of_le' h
  have c := @H.text_ok gl (d + 1) (by omega) b hb
  have ha := H.bytes_all b
  have hl : (bytesAV b).length = 16 := by rw [bytesAV_length]; exact hb
  rw [call_go (fd := fd72) rfl]
  generalize bytesAV b = z at *
  simp (disch := ((fail_if_success (intro _)); omega)) only [go_sem, simprocAttr, ↓reduceIte, ↓Nat.reduceEqDiff, xx, fd72, m72, c, ha, hl]
abbrev sB : Sh := .ar 16 .sc
abbrev bAV (b : List UInt8) : AV := .agg (bytesAV b)
theorem b16 {b : List UInt8} (h : b.length = 16) : (bytesAV b).length = 16 := by rw [bytesAV_length]; exact h
theorem b16t {b : List UInt8} (h : b.length = 16) : List.take 16 (bytesAV b) = bytesAV b := List.take_of_length_le (by rw [b16 h]; exact Nat.le_refl _)
/-- A lease. -/
structure Le where
  site : Int
  ep : Int
  til : Int
  ser : Int
  sgn : List UInt8
abbrev leAV (x : Le) : AV := .agg [i64 x.site, i64 x.ep, i64 x.til, i64 x.ser, bAV x.sgn]
structure LeOk (x : Le) : Prop where
  i : Few64 [x.site, x.ep, x.til, x.ser]
  s : x.sgn.length = 16
def leP (x : Le) : List (List UInt8) := [zints [x.site, x.ep, x.til, x.ser]]
theorem leP_at (h : 5 ≤ n) (x : Le) (hx : LeOk x) : call gl tab n 42 [leAV x] [] = some (.lst false .sc (strsAV (leP x)), [], []) := by
  obtain ⟨d, rfl⟩ := Nat.exists_eq_add_of_le' h
  have c := @ints_at gl (d + 4) (by omega) false _ hx.i
  have b1 := b16 hx.s
  have b2 := H.bytes_all x.sgn
  simp only [nsI, List.map_cons, List.map_nil] at c
  unfold leP
  simp only [strsAV, List.map_cons, List.map_nil]
  generalize zints _ = z at *
  rw [call_go (fd := fd42) rfl]
  simp (disch := ((fail_if_success (intro _)); omega)) only [go_sem, simprocAttr, ↓reduceIte, ↓Nat.reduceEqDiff, xx, fd42, m42, c, hx.s, b2]
theorem rleP_at (h : 5 ≤ n) (x : Le) (hx : LeOk x) : call gl tab n 43 [leAV x] [] = some (.lst false .sc (strsAV (leP x)), [], []) := by
  obtain ⟨d, rfl⟩ := Nat.exists_eq_add_of_le' h
  have c := @rints_at gl (d + 4) (by omega) false _ hx.i
  have b1 := b16 hx.s
  have b2 := H.bytes_all x.sgn
  simp only [nsI, List.map_cons, List.map_nil] at c
  unfold leP
  simp only [strsAV, List.map_cons, List.map_nil]
  generalize zints _ = z at *
  rw [call_go (fd := fd43) rfl]
  simp (disch := ((fail_if_success (intro _)); omega)) only [go_sem, simprocAttr, ↓reduceIte, ↓Nat.reduceEqDiff, xx, fd43, m43, c, hx.s, b2]
/-- A head. -/
structure Hd where
  site : Int
  size : Int
  root : List UInt8
  lo : Int
  hi : Int
  ser : Int
  sgn : List UInt8
abbrev hdAV (x : Hd) : AV := .agg [i64 x.site, i64 x.size, bAV x.root, .agg [i64 x.lo, i64 x.hi], i64 x.ser, bAV x.sgn]
structure HdOk (x : Hd) : Prop where
  i : Few64 [x.site, x.size, x.lo, x.hi, x.ser]
  r : x.root.length = 16
  s : x.sgn.length = 16
def hdP (x : Hd) : List (List UInt8) := [zints [x.site, x.size, x.lo, x.hi, x.ser], x.root]
theorem hdP_at (h : 5 ≤ n) (x : Hd) (hx : HdOk x) : call gl tab n 44 [hdAV x] [] = some (.lst false .sc (strsAV (hdP x)), [], []) := by
  obtain ⟨d, rfl⟩ := Nat.exists_eq_add_of_le' h
  have c := @ints_at gl (d + 4) (by omega) false _ hx.i
  have b1 := b16 hx.s
  have b2 := H.bytes_all x.sgn
  have b3 := b16 hx.r
  have b4 := H.bytes_all x.root
  have b5 := b16t hx.r
  simp only [nsI, List.map_cons, List.map_nil] at c
  unfold hdP
  simp only [strsAV, List.map_cons, List.map_nil]
  generalize zints _ = z at *
  rw [call_go (fd := fd44) rfl]
  simp (implicitDefEqProofs := false) (disch := ((fail_if_success (intro _)); omega)) only [go_sem, simprocAttr, ↓reduceIte, ↓Nat.reduceEqDiff, xx, fd44, m44, c, hx.s, b2, hx.r, b4, b5]
theorem rhdP_at (h : 5 ≤ n) (x : Hd) (hx : HdOk x) : call gl tab n 45 [hdAV x] [] = some (.lst false .sc (strsAV (hdP x)), [], []) := by
  obtain ⟨d, rfl⟩ := Nat.exists_eq_add_of_le' h
  have c := @rints_at gl (d + 4) (by omega) false _ hx.i
  have c2 := @rdig_at gl (d + 4) (by omega) x.root hx.r
  have b1 := b16 hx.s
  have b2 := H.bytes_all x.sgn
  have b3 := b16 hx.r
  have b4 := H.bytes_all x.root
  simp only [nsI, List.map_cons, List.map_nil] at c
  unfold hdP
  simp only [strsAV, List.map_cons, List.map_nil]
  generalize zints _ = z at *
  rw [call_go (fd := fd45) rfl]
  simp (implicitDefEqProofs := false) (disch := ((fail_if_success (intro _)); omega)) only [go_sem, simprocAttr, ↓reduceIte, ↓Nat.reduceEqDiff, xx, fd45, m45, c, c2, hx.s, b2, hx.r, b4]
/-- A stamp. -/
structure Sp where
  addr : List UInt8
  var : List UInt8
  st : Int
  sz : Int
  body : List UInt8
  tags : List UInt8
  lo : Int
  hi : Int
  gate : Int
  ser : Int
  sgn : List UInt8
abbrev spAV (x : Sp) : AV := .agg [.str x.addr, .str x.var, i64 x.st, i64 x.sz, bAV x.body, .str x.tags, .agg [i64 x.lo, i64 x.hi], i64 x.gate, i64 x.ser, bAV x.sgn]
structure SpOk (x : Sp) : Prop where
  i : Few64 [x.st, x.sz, x.lo, x.hi, x.gate, x.ser]
  r : x.body.length = 16
  s : x.sgn.length = 16
def spP (x : Sp) : List (List UInt8) := [x.addr, x.var, zints [x.st, x.sz, x.lo, x.hi, x.gate, x.ser], x.body, x.tags]
theorem spP_at (h : 5 ≤ n) (x : Sp) (hx : SpOk x) : call gl tab n 38 [spAV x] [] = some (.lst false .sc (strsAV (spP x)), [], []) := by
  obtain ⟨d, rfl⟩ := Nat.exists_eq_add_of_le' h
  have c := @ints_at gl (d + 4) (by omega) false _ hx.i
  have b1 := b16 hx.s
  have b2 := H.bytes_all x.sgn
  have b3 := b16 hx.r
  have b4 := H.bytes_all x.body
  have b5 := b16t hx.r
  simp only [nsI, List.map_cons, List.map_nil] at c
  unfold spP
  simp only [strsAV, List.map_cons, List.map_nil]
  generalize zints _ = z at *
  rw [call_go (fd := fd38) rfl]
  simp (implicitDefEqProofs := false) (disch := ((fail_if_success (intro _)); omega)) only [go_sem, simprocAttr, ↓reduceIte, ↓Nat.reduceEqDiff, xx, fd38, m38, c, hx.s, b2, hx.r, b4, b5]
theorem rspP_at (h : 5 ≤ n) (x : Sp) (hx : SpOk x) : call gl tab n 39 [spAV x] [] = some (.lst false .sc (strsAV (spP x)), [], []) := by
  obtain ⟨d, rfl⟩ := Nat.exists_eq_add_of_le' h
  have c := @rints_at gl (d + 4) (by omega) false _ hx.i
  have c2 := @rdig_at gl (d + 4) (by omega) x.body hx.r
  have b1 := b16 hx.s
  have b2 := H.bytes_all x.sgn
  have b3 := b16 hx.r
  have b4 := H.bytes_all x.body
  simp only [nsI, List.map_cons, List.map_nil] at c
  unfold spP
  simp only [strsAV, List.map_cons, List.map_nil]
  generalize zints _ = z at *
  rw [call_go (fd := fd39) rfl]
  simp (implicitDefEqProofs := false) (disch := ((fail_if_success (intro _)); omega)) only [go_sem, simprocAttr, ↓reduceIte, ↓Nat.reduceEqDiff, xx, fd39, m39, c, c2, hx.s, b2, hx.r, b4]
end Go.Proofs.S04
