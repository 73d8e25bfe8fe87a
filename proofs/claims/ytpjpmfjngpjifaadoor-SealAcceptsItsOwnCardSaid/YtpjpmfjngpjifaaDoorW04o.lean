/-
  Chapter 4: epochs are sealed, in both. No condition.
-/
import Derived.Test.YtpjpmfjngpjifaaDoorW04m
set_option linter.unusedVariables false
set_option linter.unusedSimpArgs false
set_option linter.unusedSectionVars false
namespace Go.Proofs.S04
open Go Go.Ev Go.Proofs
open Go.Proofs.S04.H (strsAV strsAV_length strsAV_get Sml GlK GlR zints Few64 nsI)
variable {gl : Gl} {n : Nat}
theorem cloneP_at (h : 1 ≤ n) {f : Bool} {l : List Pu} (hl : l.length ≤ 1000) : call gl tab n 75 [.lst f sPu (puL l)] [] = some (.sl 20000 [] 0 l.length, [], [.grow sPu (puL l)]) := by
  obtain ⟨d, rfl⟩ := Nat.exists_eq_add_of_le' h
  rw [call_giv (fd := fd75) rfl rfl]
  have h1 : l.length ≤ LIM := by unfold LIM; omega
  simp [cloneG, puL_length, h1, Sh.beq, Sh.beqs]
theorem cloneD_at (h : 1 ≤ n) {f : Bool} {l : List (List UInt8)} (hl : l.length ≤ 1000) : call gl tab n 76 [.lst f sB (dgL l)] [] = some (.sl 20000 [] 0 l.length, [], [.grow sB (dgL l)]) := by
  obtain ⟨d, rfl⟩ := Nat.exists_eq_add_of_le' h
  rw [call_giv (fd := fd76) rfl rfl]
  have h1 : l.length ≤ LIM := by unfold LIM; omega
  simp [cloneG, dgL_length, h1, Sh.beq, Sh.beqs]
theorem epSd_at [Nonempty (GlK gl)] (h : 9 ≤ n) (f g : Bool) {k : Ky} (hk : KOk k) (tag : Int) (x : Ep) (hx : EpOk x) (hs : EpSh x) : call gl tab n 77 [ky k, i64 tag, epAV f g x, .fn 40 []] [] = some (.agg (sAV k.k tag (epP x)), [], []) := by
  obtain ⟨d, rfl⟩ := Nat.exists_eq_add_of_le' h
  have c1 := @epP_at gl (d + 8) (by omega) f g x hx
  have c2 := @make_at gl (d + 8) _ (by omega) k hk.k tag false (epP x) (epP_pts hx hs)
  have q0 := H.bytes_all x.sgn
  have q1 := H.bytes_all x.prev
  have d1 := sAV_len k.k tag (epP x)
  have d2 := sAV_all k.k tag (epP x)
  have d3 := sAV_pl k.k tag (epP x)
  generalize sAV k.k tag (epP x) = z at *
  generalize strsAV (epP x) = w at *
  rw [call_go (fd := fd77) rfl]
  simp (implicitDefEqProofs := false) (disch := ((fail_if_success (intro _)); omega)) only [go_sem, simprocAttr, ↓reduceIte, ↓Nat.reduceEqDiff, xx, fd77, m77, c1, c2, hx.s, hx.p, q0, q1, d1, d2, d3, ↓out16_eq, H.out16_len, H.out16_all, H.out16_pl]
theorem puL_take (l : List Pu) : List.take l.length (puL l) = puL l := by rw [← puL_length]; exact List.take_length
theorem dgL_take (l : List (List UInt8)) : List.take l.length (dgL l) = dgL l := by rw [← dgL_length]; exact List.take_length
set_option maxHeartbeats 1000000 in
theorem epS_at [Nonempty (GlK gl)] (h : 10 ≤ n) (f g : Bool) {k : Ky} (hk : KOk k) (x : Ep) (hx : EpOk x) (hs : EpSh x) : call gl tab n 49 [ky k, epAV f g x] [] = some (epAV false false (epS k x), [], []) := by
  obtain ⟨d, rfl⟩ := Nat.exists_eq_add_of_le' h
  have c1 := @epSd_at gl (d + 9) _ (by omega) false false k hk 42 _ (epK_ok hk hx) hs
  have cP := @cloneP_at gl (d + 9) (by omega) f x.pur (by have := hx.pl; omega)
  have cD := @cloneD_at gl (d + 9) (by omega) g x.rev (by have := hx.rl; omega)
  have q0 := H.bytes_all x.sgn
  have q1 := H.bytes_all x.prev
  have d1 := sAV_len k.k 42 (epP (epK k x))
  have d2 := sAV_all k.k 42 (epP (epK k x))
  have d3 := sAV_pl k.k 42 (epP (epK k x))
  have e1 : bytesAV (sea k.k 42 (epP (epK k x))) = sAV k.k 42 (epP (epK k x)) := rfl
  have t1 := puL_take x.pur
  have t2 := dgL_take x.rev
  have t3 := puL_length x.pur
  have t4 := dgL_length x.rev
  unfold epS
  simp only [epAV, epK, bAV, e1] at c1 d1 d2 d3 ⊢
  simp only [epK, bAV] at e1
  rw [e1]
  generalize sAV k.k 42 _ = z at *
  generalize puL x.pur = w1 at *
  generalize dgL x.rev = w2 at *
  rw [call_go (fd := fd49) rfl]
  simp (implicitDefEqProofs := false) (disch := ((fail_if_success (intro _)); omega)) only [go_sem, simprocAttr, ↓reduceIte, ↓Nat.reduceEqDiff, xx, fd49, m49, c1, cP, cD, hx.s, hx.p, q0, q1, d1, d2, d3, t1, t2, t3, t4, ↓out16_eq, H.out16_len, H.out16_all, H.out16_pl]
theorem eprS_at [Nonempty (GlR gl)] (h : 10 ≤ n) (f g : Bool) {k : Ky} (hk : KOk k) (x : Ep) (hx : EpOk x) (hs : EpSh x) : call gl tab n 50 [ky k, epAV f g x] [] = some (epAV f g (epS k x), [], []) := by
  obtain ⟨d, rfl⟩ := Nat.exists_eq_add_of_le' h
  have hx' := epK_ok hk hx
  have c1 := @repP_at gl (d + 9) (by omega) f g _ hx'
  have c2 := @rmake_at gl (d + 9) _ (by omega) k hk.k 42 false (epP (epK k x)) (epP_pts hx' hs)
  have q0 := H.bytes_all x.sgn
  have q1 := H.bytes_all x.prev
  have d1 := sAV_len k.k 42 (epP (epK k x))
  have d2 := sAV_all k.k 42 (epP (epK k x))
  have d3 := sAV_pl k.k 42 (epP (epK k x))
  have e1 : bytesAV (sea k.k 42 (epP (epK k x))) = sAV k.k 42 (epP (epK k x)) := rfl
  unfold epS
  simp only [epAV, bAV]
  rw [e1]
  generalize sAV k.k 42 _ = z at *
  generalize strsAV (epP (epK k x)) = w at *
  simp only [epAV, epK, bAV] at c1
  rw [call_go (fd := fd50) rfl]
  simp (implicitDefEqProofs := false) (disch := ((fail_if_success (intro _)); omega)) only [go_sem, simprocAttr, ↓reduceIte, ↓Nat.reduceEqDiff, xx, fd50, m50, c1, c2, hx.s, hx.p, q0, q1, d1, d2, d3, ↓out16_eq, H.out16_len, H.out16_all, H.out16_pl]
end Go.Proofs.S04
