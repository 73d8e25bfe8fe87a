/-
  Lists of integers as bytes. No condition.
-/
import Derived.Test.YtpjpmfjngpjifaaDoorW04G13x8
import Derived.Test.YtpjpmfjngpjifaaDoorW04G15x8
set_option linter.unusedVariables false
set_option linter.unusedSimpArgs false
set_option linter.unusedSectionVars false
namespace Go.Proofs.S04.H
open Go Go.Ev Go.Proofs Go.Proofs.S04
variable {gl : Gl}
def nsI (l : List Int) : List AV := l.map fun n => .int .i64 n
theorem nsI_length (l : List Int) : (nsI l).length = l.length := by simp [nsI]
theorem nsI_get {l : List Int} {i : Nat} (h : i < l.length) : (nsI l)[i]? = some (.int .i64 l[i]) := by simp [nsI, h]
def Few64 (l : List Int) : Prop := l.length ≤ 1000 ∧ ∀ x ∈ l, -9223372036854775808 ≤ x ∧ x ≤ 9223372036854775807
theorem few_get {l : List Int} (h : Few64 l) {i : Nat} (hi : i < l.length) : -9223372036854775808 ≤ l[i] ∧ l[i] ≤ 9223372036854775807 := h.2 _ (List.getElem_mem hi)
def zints (l : List Int) : List UInt8 := zint l.length ++ (l.map zint).flatten
def zpre (l : List Int) (i : Nat) : List UInt8 := zint l.length ++ ((l.take i).map zint).flatten
theorem zpre_0 (l : List Int) : zpre l 0 = zint l.length := by simp [zpre]
theorem zpre_all (l : List Int) : zpre l l.length = zints l := by simp [zpre, zints]
theorem zpre_s {l : List Int} {i : Nat} (hi : i < l.length) : zpre l (i + 1) = zpre l i ++ zint l[i] := by
  unfold zpre; rw [List.take_succ_eq_append_getElem hi, List.map_append, List.flatten_append, ← List.append_assoc]; simp
theorem zpre_len {l : List Int} : ∀ {i : Nat}, i ≤ l.length → (zpre l i).length ≤ 10 * (i + 1)
  | 0, _ => by rw [zpre_0]; have := zint_len l.length; omega
  | i + 1, h => by
    have h1 := zpre_len (l := l) (i := i) (by omega)
    have h2 := zint_len l[i]
    rw [zpre_s (by omega), List.length_append]; omega
theorem zints_len {l : List Int} : (zints l).length ≤ 10 * (l.length + 1) := by rw [← zpre_all]; exact zpre_len (Nat.le_refl _)
def LwI : MC := match m100 with | .seq _ (.seq _ (.seq (.seq _ (.block _ (.loop _ b))) _)) => b | _ => .skip
def SwI (f : Bool) (l : List Int) (i : Nat) : St :=
  ⟨[.set 13 (.int .i64 i), .set 12 (.int .i64 l.length), .set 11 (.lst f .sc (nsI l)), .set 5 (.sl 5005 [] 0 (zpre l i).length), .set 1 (.fn 97 [])], [(5005, .grow .sc (bytesAV (zpre l i)))]⟩
theorem ints_ok {n : Nat} (h : 3 ≤ n) (f : Bool) (l : List Int) (hl : Few64 l) : call gl tab n 92 [.lst f .sc (nsI l)] [] = some (.sl 20000 [] 0 (zints l).length, [], [.grow .sc (bytesAV (zints l))]) := by
  obtain ⟨d, rfl⟩ := Nat.exists_eq_add_of_le' h
  have h1 := hl.1
  have hs : ∀ i, i < l.length → contK [.slot 1, .own 5 5005 .sc, .slot 11, .slot 12, .slot 13] (evC gl (call gl tab (d + 1)) LwI (SwI f l i)) = some (SwI f l (i + 1)) := fun i hi => by
    have hx := nsI_get hi
    have c := int53_ok (gl := gl) d l[i] (few_get hl hi)
    have hz := zint_len l[i]
    have hp := zpre_len (l := l) (i := i) (by omega)
    have hL : (zpre l i).length + (zint l[i]).length ≤ LIM := by unfold LIM; omega
    rw [SwI, SwI, zpre_s hi, bytesAV_append, List.length_append]
    generalize zpre l i = p at *
    generalize zint l[i] = q at *
    simp (disch := ((fail_if_success (intro _)); omega)) only [go_sem, simprocAttr, ↓reduceIte, ↓Nat.reduceEqDiff, xx, LwI, m100, hx, nsI_length, c, bytesAV_length, hL]
  simp only [LwI, m100] at hs
  have c0 := int53_ok (gl := gl) d (l.length : Int) (by omega)
  have e2 := bytesAV_length (zints l)
  have cl : call gl tab (d + 2) 100 [.lst f .sc (nsI l), .fn 97 []] [] = some (.sl 20000 [] 0 (zints l).length, [], [.grow .sc (bytesAV (zints l))]) := by
    rw [call_go (fd := fd100) rfl]
    simp (disch := ((fail_if_success (intro _)); omega)) only [go_sem, simprocAttr, ↓reduceIte, ↓Nat.reduceEqDiff, xx, fd100, m100, nsI_length, c0]
    rw [iter_to (SwI f l) l.length (by unfold LF; omega)]
    · rw [SwI, zpre_all]
      simp (disch := ((fail_if_success (intro _)); omega)) only [go_sem, simprocAttr, ↓reduceIte, ↓Nat.reduceEqDiff, xx, nsI_length, bytesAV_length]
    · simp (disch := ((fail_if_success (intro _)); omega)) only [go_sem, simprocAttr, ↓reduceIte, ↓Nat.reduceEqDiff, xx, SwI, zpre_0, nsI_length]
    · exact hs
    · rw [SwI, zpre_all]
      simp (disch := ((fail_if_success (intro _)); omega)) only [go_sem, simprocAttr, ↓reduceIte, ↓Nat.reduceEqDiff, xx, nsI_length, bytesAV_length]
  rw [call_go (fd := fd92) rfl]
  generalize zints l = z at *
  simp (disch := ((fail_if_success (intro _)); omega)) only [go_sem, simprocAttr, ↓reduceIte, ↓Nat.reduceEqDiff, xx, fd92, m92, cl, e2, noImms_bytesAV]
def LrI : MC := match m93 with | .seq _ (.seq _ (.seq (.seq _ (.block _ (.loop _ b))) _)) => b | _ => .skip
def SrI (f : Bool) (l : List Int) (i : Nat) : St :=
  ⟨[.set 4 (.int .i64 i), .set 3 (.sl 5003 [] 0 (zpre l i).length), .set 0 (.lst f .sc (nsI l))], [(5003, .grow .sc (bytesAV (zpre l i)))]⟩
theorem rints_ok {n : Nat} (h : 2 ≤ n) (f : Bool) (l : List Int) (hl : Few64 l) : call gl tab n 93 [.lst f .sc (nsI l)] [] = some (.sl 20000 [] 0 (zints l).length, [], [.grow .sc (bytesAV (zints l))]) := by
  obtain ⟨d, rfl⟩ := Nat.exists_eq_add_of_le' h
  have h1 := hl.1
  have hs : ∀ i, i < l.length → contK [.slot 0, .own 3 5003 .sc, .slot 4] (evC gl (call gl tab (d + 1)) LrI (SrI f l i)) = some (SrI f l (i + 1)) := fun i hi => by
    have hx := nsI_get hi
    have c := int54_ok (gl := gl) d l[i] (few_get hl hi)
    have hz := zint_len l[i]
    have hp := zpre_len (l := l) (i := i) (by omega)
    have hL : (zpre l i).length + (zint l[i]).length ≤ LIM := by unfold LIM; omega
    rw [SrI, SrI, zpre_s hi, bytesAV_append, List.length_append]
    generalize zpre l i = p at *
    generalize zint l[i] = q at *
    simp (disch := ((fail_if_success (intro _)); omega)) only [go_sem, simprocAttr, ↓reduceIte, ↓Nat.reduceEqDiff, xx, LrI, m93, hx, nsI_length, c, bytesAV_length, hL]
  simp only [LrI, m93] at hs
  have c0 := int54_ok (gl := gl) d (l.length : Int) (by omega)
  rw [call_go (fd := fd93) rfl]
  simp (disch := ((fail_if_success (intro _)); omega)) only [go_sem, simprocAttr, ↓reduceIte, ↓Nat.reduceEqDiff, xx, fd93, m93, nsI_length, c0]
  rw [iter_to (SrI f l) l.length (by unfold LF; omega)]
  · rw [SrI, zpre_all]
    simp (disch := ((fail_if_success (intro _)); omega)) only [go_sem, simprocAttr, ↓reduceIte, ↓Nat.reduceEqDiff, xx, nsI_length, bytesAV_length]
  · simp (disch := ((fail_if_success (intro _)); omega)) only [go_sem, simprocAttr, ↓reduceIte, ↓Nat.reduceEqDiff, xx, SrI, zpre_0, nsI_length]
  · exact hs
  · rw [SrI, zpre_all]
    simp (disch := ((fail_if_success (intro _)); omega)) only [go_sem, simprocAttr, ↓reduceIte, ↓Nat.reduceEqDiff, xx, nsI_length, bytesAV_length]
end Go.Proofs.S04.H
namespace Go.Proofs.S04.H
open Go Go.Ev Go.Proofs Go.Proofs.S04
variable {gl : Gl}
def LtX : MC := match m94 with | .seq _ (.seq _ (.seq (.seq _ (.block _ (.loop _ b))) _)) => b | _ => .skip
def StX (b : List UInt8) (i : Nat) : St :=
  ⟨[.set 4 (.int .i64 i), .set 3 (.sl 5003 [] 0 i), .set 1 (.ptr 1 [])], [(1, .fix (.ar 16 .sc) (.agg (bytesAV b))), (5003, .grow .sc (bytesAV (b.take i)))]⟩
theorem text_ok {n : Nat} (h : 1 ≤ n) (b : List UInt8) (hb : b.length = 16) : call gl tab n 94 [.agg (bytesAV b)] [] = some (.str b, [], []) := by
  obtain ⟨d, rfl⟩ := Nat.exists_eq_add_of_le' h
  have ha := bytes_all b
  have hl : (bytesAV b).length = 16 := by rw [bytesAV_length]; exact hb
  have hs : ∀ i, i < 16 → contK [.slot 1, .own 3 5003 .sc, .slot 4, .key 1] (evC gl (call gl tab d) LtX (StX b i)) = some (StX b (i + 1)) := fun i hi => by
    have g := bytesAV_getD (l := b) (i := i) (by omega)
    have e : b.take (i + 1) = b.take i ++ [b.getD i 0] := by
      rw [List.take_succ_eq_append_getElem (by omega), List.getD_eq_getElem?_getD, List.getElem?_eq_getElem (by omega)]; rfl
    have hp : (bytesAV (b.take i)).length = i := by rw [bytesAV_length, List.length_take]; omega
    have hL : i + 1 ≤ LIM := by unfold LIM; omega
    rw [StX, StX, e, bytesAV_append, show bytesAV [b.getD i 0] = [.int .u8 ((b.getD i 0).toBitVec.toNat : Int)] from rfl]
    generalize bytesAV (b.take i) = p at *
    simp (disch := ((fail_if_success (intro _)); omega)) only [go_sem, simprocAttr, ↓reduceIte, ↓Nat.reduceEqDiff, xx, LtX, m94, g, hl, hp, hL]
  simp only [LtX, m94] at hs
  rw [call_go (fd := fd94) rfl]
  simp (disch := ((fail_if_success (intro _)); omega)) only [go_sem, simprocAttr, ↓reduceIte, ↓Nat.reduceEqDiff, xx, fd94, m94, ha, hl]
  rw [iter_to (StX b) 16 (by unfold LF; omega)]
  · rw [StX, show b.take 16 = b from List.take_of_length_le (by omega)]
    simp (disch := ((fail_if_success (intro _)); omega)) only [go_sem, simprocAttr, ↓reduceIte, ↓Nat.reduceEqDiff, xx, bytesAV_length, hb]
    rw [show List.take 16 (bytesAV b) = bytesAV b from List.take_of_length_le (by omega)]
    simp (disch := ((fail_if_success (intro _)); omega)) only [go_sem, simprocAttr, ↓reduceIte, ↓Nat.reduceEqDiff, xx]
  · simp (disch := ((fail_if_success (intro _)); omega)) only [go_sem, simprocAttr, ↓reduceIte, ↓Nat.reduceEqDiff, xx, StX, List.take_zero]; rfl
  · exact hs
  · simp (disch := ((fail_if_success (intro _)); omega)) only [go_sem, simprocAttr, ↓reduceIte, ↓Nat.reduceEqDiff, xx, StX, hl]
end Go.Proofs.S04.H
namespace Go.Proofs.S04
open Go Go.Ev Go.Proofs
open Go.Proofs.S04.H (strsAV strsAV_length strsAV_get Sml GlK GlR zints Few64 nsI)
variable {gl : Gl} {n : Nat}
theorem ints_at (h : 4 ≤ n) (f : Bool) (l : List Int) (hl : Few64 l) : call gl tab n 70 [.lst f .sc (nsI l)] [] = some (.str (zints l), [], []) := by
  obtain ⟨d, rfl⟩ := Nat.exists_eq_add_of_le' h
  have c := @H.ints_ok gl (d + 3) (by omega) f l hl
  have t : List.take (zints l).length (bytesAV (zints l)) = bytesAV (zints l) := List.take_of_length_le (by rw [bytesAV_length]; exact Nat.le_refl _)
  rw [call_go (fd := fd70) rfl]
  generalize zints l = z at *
  simp (disch := ((fail_if_success (intro _)); omega)) only [go_sem, simprocAttr, ↓reduceIte, ↓Nat.reduceEqDiff, xx, fd70, m70, c, bytesAV_length, t]
theorem rints_at (h : 4 ≤ n) (f : Bool) (l : List Int) (hl : Few64 l) : call gl tab n 71 [.lst f .sc (nsI l)] [] = some (.str (zints l), [], []) := by
  obtain ⟨d, rfl⟩ := Nat.exists_eq_add_of_le' h
  have c := @H.rints_ok gl (d + 3) (by omega) f l hl
  have t : List.take (zints l).length (bytesAV (zints l)) = bytesAV (zints l) := List.take_of_length_le (by rw [bytesAV_length]; exact Nat.le_refl _)
  rw [call_go (fd := fd71) rfl]
  generalize zints l = z at *
  simp (disch := ((fail_if_success (intro _)); omega)) only [go_sem, simprocAttr, ↓reduceIte, ↓Nat.reduceEqDiff, xx, fd71, m71, c, bytesAV_length, t]
theorem rdig_at (h : 2 ≤ n) (b : List UInt8) (hb : b.length = 16) : call gl tab n 72 [.agg (bytesAV b)] [] = some (.str b, [], []) := by
  obtain ⟨d, rfl⟩ := Nat.exists_eq_add_of_le' h
  have c := @H.text_ok gl (d + 1) (by omega) b hb
  have ha := H.bytes_all b
  have hl : (bytesAV b).length = 16 := by rw [bytesAV_length]; exact hb
  rw [call_go (fd := fd72) rfl]
  generalize bytesAV b = z at *
  simp (disch := ((fail_if_success (intro _)); omega)) only [go_sem, simprocAttr, ↓reduceIte, ↓Nat.reduceEqDiff, xx, fd72, m72, c, ha, hl]
abbrev sB : Sh := .ar 16 .sc
abbrev bAV (b : List UInt8) : AV := .agg (bytesAV b)
theorem b16 {b : List UInt8} (h : b.length = 16) : (bytesAV b).length = 16 := by rw [bytesAV_length]; exact h
theorem b16t {b : List UInt8} (h : b.length = 16) : List.take 16 (bytesAV b) = bytesAV b := List.take_of_length_le (by rw [b16 h]; exact Nat.le_refl _)
structure Le where
  site : Int
  ep : Int
  til : Int
  ser : Int
  sgn : List UInt8
abbrev leAV (x : Le) : AV := .agg [i64 x.site, i64 x.ep, i64 x.til, i64 x.ser, bAV x.sgn]
structure LeOk (x : Le) : Prop where
  i : Few64 [x.site, x.ep, x.til, x.ser]
  s : x.sgn.length = 16
def leP (x : Le) : List (List UInt8) := [zints [x.site, x.ep, x.til, x.ser]]
theorem leP_at (h : 5 ≤ n) (x : Le) (hx : LeOk x) : call gl tab n 42 [leAV x] [] = some (.lst false .sc (strsAV (leP x)), [], []) := by
  obtain ⟨d, rfl⟩ := Nat.exists_eq_add_of_le' h
  have c := @ints_at gl (d + 4) (by omega) false _ hx.i
  have b1 := b16 hx.s
  have b2 := H.bytes_all x.sgn
  simp only [nsI, List.map_cons, List.map_nil] at c
  unfold leP
  simp only [strsAV, List.map_cons, List.map_nil]
  generalize zints _ = z at *
  rw [call_go (fd := fd42) rfl]
  simp (disch := ((fail_if_success (intro _)); omega)) only [go_sem, simprocAttr, ↓reduceIte, ↓Nat.reduceEqDiff, xx, fd42, m42, c, hx.s, b2]
theorem rleP_at (h : 5 ≤ n) (x : Le) (hx : LeOk x) : call gl tab n 43 [leAV x] [] = some (.lst false .sc (strsAV (leP x)), [], []) := by
  obtain ⟨d, rfl⟩ := Nat.exists_eq_add_of_le' h
  have c := @rints_at gl (d + 4) (by omega) false _ hx.i
  have b1 := b16 hx.s
  have b2 := H.bytes_all x.sgn
  simp only [nsI, List.map_cons, List.map_nil] at c
  unfold leP
  simp only [strsAV, List.map_cons, List.map_nil]
  generalize zints _ = z at *
  rw [call_go (fd := fd43) rfl]
  simp (disch := ((fail_if_success (intro _)); omega)) only [go_sem, simprocAttr, ↓reduceIte, ↓Nat.reduceEqDiff, xx, fd43, m43, c, hx.s, b2]
structure Hd where
  site : Int
  size : Int
  root : List UInt8
  lo : Int
  hi : Int
  ser : Int
  sgn : List UInt8
abbrev hdAV (x : Hd) : AV := .agg [i64 x.site, i64 x.size, bAV x.root, .agg [i64 x.lo, i64 x.hi], i64 x.ser, bAV x.sgn]
structure HdOk (x : Hd) : Prop where
  i : Few64 [x.site, x.size, x.lo, x.hi, x.ser]
  r : x.root.length = 16
  s : x.sgn.length = 16
def hdP (x : Hd) : List (List UInt8) := [zints [x.site, x.size, x.lo, x.hi, x.ser], x.root]
theorem hdP_at (h : 5 ≤ n) (x : Hd) (hx : HdOk x) : call gl tab n 44 [hdAV x] [] = some (.lst false .sc (strsAV (hdP x)), [], []) := by
  obtain ⟨d, rfl⟩ := Nat.exists_eq_add_of_le' h
  have c := @ints_at gl (d + 4) (by omega) false _ hx.i
  have b1 := b16 hx.s
  have b2 := H.bytes_all x.sgn
  have b3 := b16 hx.r
  have b4 := H.bytes_all x.root
  have b5 := b16t hx.r
  simp only [nsI, List.map_cons, List.map_nil] at c
  unfold hdP
  simp only [strsAV, List.map_cons, List.map_nil]
  generalize zints _ = z at *
  rw [call_go (fd := fd44) rfl]
  simp (implicitDefEqProofs := false) (disch := ((fail_if_success (intro _)); omega)) only [go_sem, simprocAttr, ↓reduceIte, ↓Nat.reduceEqDiff, xx, fd44, m44, c, hx.s, b2, hx.r, b4, b5]
theorem rhdP_at (h : 5 ≤ n) (x : Hd) (hx : HdOk x) : call gl tab n 45 [hdAV x] [] = some (.lst false .sc (strsAV (hdP x)), [], []) := by
  obtain ⟨d, rfl⟩ := Nat.exists_eq_add_of_le' h
  have c := @rints_at gl (d + 4) (by omega) false _ hx.i
  have c2 := @rdig_at gl (d + 4) (by omega) x.root hx.r
  have b1 := b16 hx.s
  have b2 := H.bytes_all x.sgn
  have b3 := b16 hx.r
  have b4 := H.bytes_all x.root
  simp only [nsI, List.map_cons, List.map_nil] at c
  unfold hdP
  simp only [strsAV, List.map_cons, List.map_nil]
  generalize zints _ = z at *
  rw [call_go (fd := fd45) rfl]
  simp (implicitDefEqProofs := false) (disch := ((fail_if_success (intro _)); omega)) only [go_sem, simprocAttr, ↓reduceIte, ↓Nat.reduceEqDiff, xx, fd45, m45, c, c2, hx.s, b2, hx.r, b4]
structure Sp where
  addr : List UInt8
  var : List UInt8
  st : Int
  sz : Int
  body : List UInt8
  tags : List UInt8
  lo : Int
  hi : Int
  gate : Int
  ser : Int
  sgn : List UInt8
abbrev spAV (x : Sp) : AV := .agg [.str x.addr, .str x.var, i64 x.st, i64 x.sz, bAV x.body, .str x.tags, .agg [i64 x.lo, i64 x.hi], i64 x.gate, i64 x.ser, bAV x.sgn]
structure SpOk (x : Sp) : Prop where
  i : Few64 [x.st, x.sz, x.lo, x.hi, x.gate, x.ser]
  r : x.body.length = 16
  s : x.sgn.length = 16
def spP (x : Sp) : List (List UInt8) := [x.addr, x.var, zints [x.st, x.sz, x.lo, x.hi, x.gate, x.ser], x.body, x.tags]
theorem spP_at (h : 5 ≤ n) (x : Sp) (hx : SpOk x) : call gl tab n 38 [spAV x] [] = some (.lst false .sc (strsAV (spP x)), [], []) := by
  obtain ⟨d, rfl⟩ := Nat.exists_eq_add_of_le' h
  have c := @ints_at gl (d + 4) (by omega) false _ hx.i
  have b1 := b16 hx.s
  have b2 := H.bytes_all x.sgn
  have b3 := b16 hx.r
  have b4 := H.bytes_all x.body
  have b5 := b16t hx.r
  simp only [nsI, List.map_cons, List.map_nil] at c
  unfold spP
  simp only [strsAV, List.map_cons, List.map_nil]
  generalize zints _ = z at *
  rw [call_go (fd := fd38) rfl]
  simp (implicitDefEqProofs := false) (disch := ((fail_if_success (intro _)); omega)) only [go_sem, simprocAttr, ↓reduceIte, ↓Nat.reduceEqDiff, xx, fd38, m38, c, hx.s, b2, hx.r, b4, b5]
theorem rspP_at (h : 5 ≤ n) (x : Sp) (hx : SpOk x) : call gl tab n 39 [spAV x] [] = some (.lst false .sc (strsAV (spP x)), [], []) := by
  obtain ⟨d, rfl⟩ := Nat.exists_eq_add_of_le' h
  have c := @rints_at gl (d + 4) (by omega) false _ hx.i
  have c2 := @rdig_at gl (d + 4) (by omega) x.body hx.r
  have b1 := b16 hx.s
  have b2 := H.bytes_all x.sgn
  have b3 := b16 hx.r
  have b4 := H.bytes_all x.body
  simp only [nsI, List.map_cons, List.map_nil] at c
  unfold spP
  simp only [strsAV, List.map_cons, List.map_nil]
  generalize zints _ = z at *
  rw [call_go (fd := fd39) rfl]
  simp (implicitDefEqProofs := false) (disch := ((fail_if_success (intro _)); omega)) only [go_sem, simprocAttr, ↓reduceIte, ↓Nat.reduceEqDiff, xx, fd39, m39, c, c2, hx.s, b2, hx.r, b4]
end Go.Proofs.S04
