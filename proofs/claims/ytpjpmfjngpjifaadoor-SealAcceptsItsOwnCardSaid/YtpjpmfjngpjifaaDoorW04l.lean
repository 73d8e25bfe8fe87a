/-
  Chapter 4: the parts of epochs. No condition.
-/
import Derived.Test.YtpjpmfjngpjifaaDoorW04G16x8
set_option linter.unusedVariables false
set_option linter.unusedSimpArgs false
set_option linter.unusedSectionVars false
namespace Go.Proofs.S04
open Go Go.Ev Go.Proofs
open Go.Proofs.S04.H (strsAV strsAV_length strsAV_get Sml GlK GlR zints Few64 nsI)
variable {gl : Gl} {n : Nat}
structure Pu where
  kind : Int
  what : List UInt8
  soft : Bool
abbrev sPu : Sh := .st [.sc, .sc, .sc]
def puL (l : List Pu) : List AV := l.map fun x => .agg [i64 x.kind, .str x.what, .bool x.soft]
def puA (l : List Pu) (i : Nat) : Pu := l.getD i ⟨0, [], false⟩
theorem puL_length (l : List Pu) : (puL l).length = l.length := by simp [puL]
theorem puL_at {l : List Pu} {i : Nat} (h : i < l.length) : (puL l)[i]? = some (.agg [i64 (puA l i).kind, .str (puA l i).what, .bool (puA l i).soft]) := by simp [puL, puA, h]
def dgL (l : List (List UInt8)) : List AV := l.map fun x => .agg (bytesAV x)
def dgA (l : List (List UInt8)) (i : Nat) : List UInt8 := l.getD i []
theorem dgL_length (l : List (List UInt8)) : (dgL l).length = l.length := by simp [dgL]
theorem dgL_at {l : List (List UInt8)} {i : Nat} (h : i < l.length) : (dgL l)[i]? = some (.agg (bytesAV (dgA l i))) := by simp [dgL, dgA, h]
structure Ep where
  num : Int
  prev : List UInt8
  lo : Int
  hi : Int
  pur : List Pu
  rev : List (List UInt8)
  ser : Int
  sgn : List UInt8
abbrev sEp : Sh := .st [.sc, sB, .st [.sc, .sc], .sc, .sc, .sc, sB]
abbrev epAV (f g : Bool) (x : Ep) : AV := .agg [i64 x.num, bAV x.prev, .agg [i64 x.lo, i64 x.hi], .lst f sPu (puL x.pur), .lst g sB (dgL x.rev), i64 x.ser, bAV x.sgn]
structure EpOk (x : Ep) : Prop where
  i : Few64 [x.num, x.lo, x.hi, x.ser]
  p : x.prev.length = 16
  s : x.sgn.length = 16
  pl : x.pur.length ≤ 10
  pk : ∀ i, i < x.pur.length → R64 (puA x.pur i).kind
  rl : x.rev.length ≤ 10
  r : ∀ i, i < x.rev.length → (dgA x.rev i).length = 16
def one (b : Bool) : Int := if b then 1 else 0
def epH (x : Ep) : List (List UInt8) := [zints [x.num, x.lo, x.hi, x.ser, x.pur.length], x.prev]
def puP (p : Pu) : List (List UInt8) := [zints [p.kind, one p.soft], p.what]
def epL1 (x : Ep) : Nat → List (List UInt8)
  | 0 => epH x
  | i + 1 => epL1 x i ++ puP (puA x.pur i)
def epL2 (x : Ep) : Nat → List (List UInt8)
  | 0 => epL1 x x.pur.length
  | i + 1 => epL2 x i ++ [dgA x.rev i]
def epP (x : Ep) : List (List UInt8) := epL2 x x.rev.length
theorem epL1_len (x : Ep) : ∀ i, (epL1 x i).length = 2 + 2 * i
  | 0 => rfl
  | i + 1 => by rw [epL1, List.length_append, epL1_len x i]; simp [puP]; omega
theorem epL2_len (x : Ep) : ∀ i, (epL2 x i).length = 2 + 2 * x.pur.length + i
  | 0 => by rw [epL2, epL1_len]; omega
  | i + 1 => by rw [epL2, List.length_append, epL2_len x i]; simp; omega
theorem one_bd (b : Bool) : 0 ≤ one b ∧ one b ≤ 1 := by cases b <;> decide
theorem puP_few {p : Pu} (h : R64 p.kind) : Few64 [p.kind, one p.soft] := by
  refine ⟨by simp, fun x hx => ?_⟩
  simp only [List.mem_cons, List.not_mem_nil, or_false] at hx
  have := one_bd p.soft
  unfold R64 at h
  rcases hx with rfl | rfl <;> omega
theorem epH_few {x : Ep} (h : EpOk x) : Few64 [x.num, x.lo, x.hi, x.ser, x.pur.length] := by
  refine ⟨by simp, fun y hy => ?_⟩
  have h1 := h.i.2
  simp only [List.mem_cons, List.not_mem_nil, or_false] at hy h1
  have := h.pl
  rcases hy with rfl | rfl | rfl | rfl | rfl
  · exact h1 _ (by simp)
  · exact h1 _ (by simp)
  · exact h1 _ (by simp)
  · exact h1 _ (by simp)
  · omega
def L40 : MC := match m40 with | .seq _ (.seq _ (.seq (.seq _ (.block _ (.loop _ b))) _)) => b | _ => .skip
def L40b : MC := match m40 with | .seq _ (.seq _ (.seq _ (.seq (.seq _ (.block _ (.loop _ b))) _))) => b | _ => .skip
def S40 (f g : Bool) (x : Ep) (i : Nat) : St :=
  ⟨[.set 31 (i64 i), .set 30 (i64 x.pur.length), .set 29 (.lst f sPu (puL x.pur)), .set 3 (.sl 5003 [] 0 (epL1 x i).length), .set 1 (.ptr 1 [])], [(1, .fix sEp (epAV f g x)), (5003, .grow .sc (strsAV (epL1 x i)))]⟩
def S40b (g : Bool) (x : Ep) (i : Nat) : St :=
  ⟨[.set 51 (i64 i), .set 50 (i64 x.rev.length), .set 49 (.lst g sB (dgL x.rev)), .set 3 (.sl 5003 [] 0 (epL2 x i).length)], [(5003, .grow .sc (strsAV (epL2 x i)))]⟩
theorem strs1 (a : List UInt8) : strsAV [a] = [.str a] := rfl
theorem strs2 (a b : List UInt8) : strsAV [a, b] = [.str a, .str b] := rfl
set_option maxHeartbeats 2000000 in
theorem epP_at (h : 5 ≤ n) (f g : Bool) (x : Ep) (hx : EpOk x) : call gl tab n 40 [epAV f g x] [] = some (.lst false .sc (strsAV (epP x)), [], []) := by
  obtain ⟨d, rfl⟩ := Nat.exists_eq_add_of_le' h
  have hpl := hx.pl
  have hrl := hx.rl
  have c := @ints_at gl (d + 4) (by omega) false _ (epH_few hx)
  have b2 := H.bytes_all x.sgn
  have b4 := H.bytes_all x.prev
  have b5 := b16t hx.p
  simp only [nsI, List.map_cons, List.map_nil] at c
  have hs : ∀ i, i < x.pur.length → contK [.slot 1, .own 3 5003 .sc, .slot 29, .slot 30, .slot 31, .key 1] (evC gl (call gl tab (d + 4)) L40 (S40 f g x i)) = some (S40 f g x (i + 1)) := fun i hi => by
    have hy := puL_at hi
    have c1 := @ints_at gl (d + 4) (by omega) false _ (puP_few (hx.pk i hi))
    have hl := epL1_len x i
    have hL : 2 + 2 * i + 2 ≤ LIM := by unfold LIM; omega
    have hl2 : (strsAV (epL1 x i)).length = 2 + 2 * i := by rw [strsAV_length]; exact hl
    simp only [nsI, List.map_cons, List.map_nil] at c1
    rw [S40, S40, epL1, strs_app, puP, strs2, List.length_append, hl]
    generalize strsAV (epL1 x i) = w at *
    cases hsf : (puA x.pur i).soft with
    | true =>
      rw [hsf] at hy c1
      rw [show one true = 1 from rfl] at c1 ⊢
      generalize zints _ = z at *
      simp (implicitDefEqProofs := false) (disch := ((fail_if_success (intro _)); omega)) only [go_sem, simprocAttr, ↓reduceIte, ↓Nat.reduceEqDiff, xx, L40, m40, puL_length, hy, c1, hl2, hL]
    | false =>
      rw [hsf] at hy c1
      rw [show one false = 0 from rfl] at c1 ⊢
      generalize zints _ = z at *
      simp (implicitDefEqProofs := false) (disch := ((fail_if_success (intro _)); omega)) only [go_sem, simprocAttr, ↓reduceIte, ↓Nat.reduceEqDiff, xx, L40, m40, puL_length, hy, c1, hl2, hL]
  have hs2 : ∀ i, i < x.rev.length → contK [.own 3 5003 .sc, .slot 49, .slot 50, .slot 51] (evC gl (call gl tab (d + 4)) L40b (S40b g x i)) = some (S40b g x (i + 1)) := fun i hi => by
    have hy := dgL_at hi
    have r1 := hx.r i hi
    have r2 := H.bytes_all (dgA x.rev i)
    have r3 := b16t r1
    have hl := epL2_len x i
    have hL : 2 + 2 * x.pur.length + i + 1 ≤ LIM := by unfold LIM; omega
    have hl2 : (strsAV (epL2 x i)).length = 2 + 2 * x.pur.length + i := by rw [strsAV_length]; exact hl
    rw [S40b, S40b, epL2, strs_app, strs1, List.length_append, hl]
    generalize strsAV (epL2 x i) = w at *
    simp (disch := ((fail_if_success (intro _)); omega)) only [go_sem, simprocAttr, ↓reduceIte, ↓Nat.reduceEqDiff, xx, L40b, m40, dgL_length, hy, r1, r2, r3, hl2, hL, ↓out16_eq, H.out16_len, H.out16_all, H.out16_pl]
  simp only [L40, m40] at hs
  simp only [L40b, m40] at hs2
  have hl3 := epL1_len x x.pur.length
  have e1 : (strsAV (epP x)).length = 2 + 2 * x.pur.length + x.rev.length := by rw [strsAV_length]; exact epL2_len x _
  have e2 : List.take (2 + 2 * x.pur.length + x.rev.length) (strsAV (epP x)) = strsAV (epP x) := by rw [← e1]; exact List.take_length
  have e3 := epL2_len x x.rev.length
  have e4 : (strsAV (epL1 x x.pur.length)).length = (epL1 x x.pur.length).length := strsAV_length _
  have e5 : (strsAV (epL2 x x.rev.length)).length = (epL2 x x.rev.length).length := strsAV_length _
  rw [call_go (fd := fd40) rfl]
  simp (implicitDefEqProofs := false) (disch := ((fail_if_success (intro _)); omega)) only [go_sem, simprocAttr, ↓reduceIte, ↓Nat.reduceEqDiff, xx, fd40, m40, c, puL_length, hx.s, b2, hx.p, b4, b5]
  rw [iter_to (S40 f g x) x.pur.length (by unfold LF; omega)]
  · rw [S40]
    simp (disch := ((fail_if_success (intro _)); omega)) only [go_sem, simprocAttr, ↓reduceIte, ↓Nat.reduceEqDiff, xx, puL_length, dgL_length]
    rw [iter_to (S40b g x) x.rev.length (by unfold LF; omega)]
    · rw [S40b, e3]
      unfold epP at *
      generalize strsAV (epL2 x x.rev.length) = w at *
      simp (disch := ((fail_if_success (intro _)); omega)) only [go_sem, simprocAttr, ↓reduceIte, ↓Nat.reduceEqDiff, xx, dgL_length, e1, e2]
    · rw [S40b, epL2]
      simp (disch := ((fail_if_success (intro _)); omega)) only [go_sem, simprocAttr, ↓reduceIte, ↓Nat.reduceEqDiff, xx, e4]
    · exact hs2
    · rw [S40b]; simp (disch := ((fail_if_success (intro _)); omega)) only [go_sem, simprocAttr, ↓reduceIte, ↓Nat.reduceEqDiff, xx, dgL_length]
  · simp (disch := ((fail_if_success (intro _)); omega)) only [go_sem, simprocAttr, ↓reduceIte, ↓Nat.reduceEqDiff, xx, S40, epL1, epH, strs2, List.length_cons, List.length_nil]
  · exact hs
  · rw [S40]; simp (disch := ((fail_if_success (intro _)); omega)) only [go_sem, simprocAttr, ↓reduceIte, ↓Nat.reduceEqDiff, xx, puL_length]
def L41 : MC := match m41 with | .seq _ (.seq _ (.seq (.seq _ (.block _ (.loop _ b))) _)) => b | _ => .skip
def L41b : MC := match m41 with | .seq _ (.seq _ (.seq _ (.seq (.seq _ (.block _ (.loop _ b))) _))) => b | _ => .skip
def S41 (f g : Bool) (x : Ep) (i : Nat) : St :=
  ⟨[.set 4 (i64 i), .set 3 (.sl 5003 [] 0 (epL1 x i).length), .set 1 (.ptr 1 [])], [(1, .fix sEp (epAV f g x)), (5003, .grow .sc (strsAV (epL1 x i)))]⟩
def S41b (f g : Bool) (x : Ep) (i : Nat) : St :=
  ⟨[.set 5 (i64 i), .set 3 (.sl 5003 [] 0 (epL2 x i).length), .set 1 (.ptr 1 [])], [(1, .fix sEp (epAV f g x)), (5003, .grow .sc (strsAV (epL2 x i)))]⟩
theorem rone_at (h : 1 ≤ n) (b : Bool) : call gl tab n 73 [.bool b] [] = some (i64 (one b), [], []) := by
  obtain ⟨d, rfl⟩ := Nat.exists_eq_add_of_le' h
  rw [call_go (fd := fd73) rfl]
  cases b with
  | true => simp (disch := ((fail_if_success (intro _)); omega)) only [go_sem, simprocAttr, ↓reduceIte, ↓Nat.reduceEqDiff, xx, fd73, m73, show one true = 1 from rfl]
  | false => simp (disch := ((fail_if_success (intro _)); omega)) only [go_sem, simprocAttr, ↓reduceIte, ↓Nat.reduceEqDiff, xx, fd73, m73, show one false = 0 from rfl]
set_option maxHeartbeats 2000000 in
theorem repP_at (h : 5 ≤ n) (f g : Bool) (x : Ep) (hx : EpOk x) : call gl tab n 41 [epAV f g x] [] = some (.lst false .sc (strsAV (epP x)), [], []) := by
  obtain ⟨d, rfl⟩ := Nat.exists_eq_add_of_le' h
  have hpl := hx.pl
  have hrl := hx.rl
  have c := @rints_at gl (d + 4) (by omega) false _ (epH_few hx)
  have c0 := @rdig_at gl (d + 4) (by omega) x.prev hx.p
  have b2 := H.bytes_all x.sgn
  have b4 := H.bytes_all x.prev
  simp only [nsI, List.map_cons, List.map_nil] at c
  have hs : ∀ i, i < x.pur.length → contK [.slot 1, .own 3 5003 .sc, .slot 4, .key 1] (evC gl (call gl tab (d + 4)) L41 (S41 f g x i)) = some (S41 f g x (i + 1)) := fun i hi => by
    have hy := puL_at hi
    have c1 := @rints_at gl (d + 4) (by omega) false _ (puP_few (hx.pk i hi))
    have c2 := @rone_at gl (d + 4) (by omega) (puA x.pur i).soft
    have hl := epL1_len x i
    have hL : 2 + 2 * i + 2 ≤ LIM := by unfold LIM; omega
    have hl2 : (strsAV (epL1 x i)).length = 2 + 2 * i := by rw [strsAV_length]; exact hl
    simp only [nsI, List.map_cons, List.map_nil] at c1
    rw [S41, S41, epL1, strs_app, puP, strs2, List.length_append, hl]
    generalize strsAV (epL1 x i) = w at *
    generalize zints _ = z at *
    generalize one _ = o at *
    simp (implicitDefEqProofs := false) (disch := ((fail_if_success (intro _)); omega)) only [go_sem, simprocAttr, ↓reduceIte, ↓Nat.reduceEqDiff, xx, L41, m41, puL_length, hy, c1, c2, hl2, hL]
  have hs2 : ∀ i, i < x.rev.length → contK [.slot 1, .own 3 5003 .sc, .slot 5, .key 1] (evC gl (call gl tab (d + 4)) L41b (S41b f g x i)) = some (S41b f g x (i + 1)) := fun i hi => by
    have hy := dgL_at hi
    have r1 := hx.r i hi
    have c2 := @rdig_at gl (d + 4) (by omega) _ r1
    have hl := epL2_len x i
    have hL : 2 + 2 * x.pur.length + i + 1 ≤ LIM := by unfold LIM; omega
    have hl2 : (strsAV (epL2 x i)).length = 2 + 2 * x.pur.length + i := by rw [strsAV_length]; exact hl
    rw [S41b, S41b, epL2, strs_app, strs1, List.length_append, hl]
    generalize strsAV (epL2 x i) = w at *
    simp (disch := ((fail_if_success (intro _)); omega)) only [go_sem, simprocAttr, ↓reduceIte, ↓Nat.reduceEqDiff, xx, L41b, m41, dgL_length, hy, c2, r1, hl2, hL]
  simp only [L41, m41] at hs
  simp only [L41b, m41] at hs2
  have hl3 := epL1_len x x.pur.length
  have e1 : (strsAV (epP x)).length = 2 + 2 * x.pur.length + x.rev.length := by rw [strsAV_length]; exact epL2_len x _
  have e2 : List.take (2 + 2 * x.pur.length + x.rev.length) (strsAV (epP x)) = strsAV (epP x) := by rw [← e1]; exact List.take_length
  have e3 := epL2_len x x.rev.length
  have e4 : (strsAV (epL1 x x.pur.length)).length = (epL1 x x.pur.length).length := strsAV_length _
  rw [call_go (fd := fd41) rfl]
  simp (implicitDefEqProofs := false) (disch := ((fail_if_success (intro _)); omega)) only [go_sem, simprocAttr, ↓reduceIte, ↓Nat.reduceEqDiff, xx, fd41, m41, c, c0, puL_length, hx.s, b2, hx.p, b4]
  rw [iter_to (S41 f g x) x.pur.length (by unfold LF; omega)]
  · rw [S41]
    simp (disch := ((fail_if_success (intro _)); omega)) only [go_sem, simprocAttr, ↓reduceIte, ↓Nat.reduceEqDiff, xx, puL_length, dgL_length]
    rw [iter_to (S41b f g x) x.rev.length (by unfold LF; omega)]
    · rw [S41b, e3]
      unfold epP at *
      generalize strsAV (epL2 x x.rev.length) = w at *
      simp (disch := ((fail_if_success (intro _)); omega)) only [go_sem, simprocAttr, ↓reduceIte, ↓Nat.reduceEqDiff, xx, dgL_length, e1, e2]
    · rw [S41b, epL2]
      simp (disch := ((fail_if_success (intro _)); omega)) only [go_sem, simprocAttr, ↓reduceIte, ↓Nat.reduceEqDiff, xx, e4]
    · exact hs2
    · rw [S41b]; simp (disch := ((fail_if_success (intro _)); omega)) only [go_sem, simprocAttr, ↓reduceIte, ↓Nat.reduceEqDiff, xx, dgL_length]
  · simp (disch := ((fail_if_success (intro _)); omega)) only [go_sem, simprocAttr, ↓reduceIte, ↓Nat.reduceEqDiff, xx, S41, epL1, epH, strs2, List.length_cons, List.length_nil]
  · exact hs
  · rw [S41]; simp (disch := ((fail_if_success (intro _)); omega)) only [go_sem, simprocAttr, ↓reduceIte, ↓Nat.reduceEqDiff, xx, puL_length]
end Go.Proofs.S04
