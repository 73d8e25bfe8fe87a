/-
  Chapter 39: purses, small things. No condition.
-/
import Derived.Test.YtdbppejfcolacaaS39cp
import Derived.Test.YtdbppejfcolacaaS39e
import Derived.Test.YtdbppejfcolacaaS39h
import Derived.Test.YtdbppejfcolacaaS39y
namespace Go.Proofs.S39
namespace Co
open Go Go.Ev Go.Proofs
set_option linter.unusedSimpArgs false
set_option linter.unusedVariables false
variable {gl : Gl} {n : Nat}
theorem exists_lb {l : List Q4} (ha : Asc l) (x : Q4) : ∃ k, Lb l x k := by
  obtain ⟨h1, h2, h3⟩ := fst_spec (fun t => (at' l t).cmpW x < 0) l.length
  refine ⟨fstN (fun t => (at' l t).cmpW x < 0) l.length, h1, h2, fun t ht htl => ?_⟩
  have h4 := h3 (by omega)
  by_cases he : t = fstN (fun t => (at' l t).cmpW x < 0) l.length
  · rw [he]; omega
  · have h5 := asc_lt ha (show fstN (fun t => (at' l t).cmpW x < 0) l.length < t by omega) htl
    refine Int.not_lt.1 fun h6 => h4 ?_
    rw [cmp_lt] at *; omega
theorem lb_key {l : List Q4} {x y : Q4} {k : Nat} (h : Lb l x k) (hw : y.w = x.w) : Lb l y k := by
  have e : ∀ z : Q4, z.cmpW y = z.cmpW x := fun z => by simp only [Q4.cmpW, hw]
  exact ⟨h.le, fun t ht => by rw [e]; exact h.lo t ht, fun t h1 h2 => by rw [e]; exact h.hi t h1 h2⟩
abbrev keyW (w : Int) : Q4 := ⟨w, 0, 0, 0⟩
/-- Is the coin there? -/
def Kc (l : List Q4) (k : Nat) (w : Int) : Prop := k < l.length ∧ (at' l k).cmpW (keyW w) = 0
instance (l : List Q4) (k : Nat) (w : Int) : Decidable (Kc l k w) := inferInstanceAs (Decidable (_ ∧ _))
theorem coin_key (l : List Q4) (k : Nat) (w : Int) : (coinOr l k (keyW w)).w = w := by
  unfold coinOr
  split
  · rename_i h; exact cmp_eq.1 h.2
  · rfl
theorem coin_bd {len : Int} {l : List Q4} (hv : VP len l) (k : Nat) (w : Int) : 0 ≤ (coinOr l k (keyW w)).g ∧ (coinOr l k (keyW w)).g ≤ 1099511627776 ∧ 0 ≤ (coinOr l k (keyW w)).d ∧ (coinOr l k (keyW w)).d ≤ (coinOr l k (keyW w)).g ∧
    0 ≤ (coinOr l k (keyW w)).b ∧ (coinOr l k (keyW w)).b ≤ (coinOr l k (keyW w)).g - (coinOr l k (keyW w)).d := by
  unfold coinOr
  split
  · rename_i h
    have h1 := hv.ok k h.1
    have := h1.g; have := h1.d; have := h1.b; omega
  · simp
theorem vp37 (h : 5 ≤ n) {len : Int} {f : Bool} {sh : Sh} {l : List Q4} (hs : Shp l sh) (hv : VP len l) : call gl tab n 37 [purse len f sh l] [] = some (.bool true, [], []) := by
  obtain ⟨b, hb, c17⟩ := @validPurse gl n h len f sh l hs (by have := hv.r; omega)
  obtain rfl := hb.2 hv
  exact c17
theorem nvp37 (h : 5 ≤ n) {len : Int} {f : Bool} {sh : Sh} {l : List Q4} (hs : Shp l sh) (hl : l.length < 2 ^ 30) (hv : ¬ VP len l) : call gl tab n 37 [purse len f sh l] [] = some (.bool false, [], []) := by
  obtain ⟨b, hb, c17⟩ := @validPurse gl n h len f sh l hs hl
  obtain rfl : b = false := by cases b; rfl; exact absurd (hb.1 rfl) hv
  exact c17
theorem vp38 (h : 3 ≤ n) {len : Int} {f : Bool} {sh : Sh} {l : List Q4} (hs : Shp l sh) (hv : VP len l) : call gl tab n 38 [purse len f sh l] [] = some (.bool true, [], []) := by
  obtain ⟨b, hb, c17⟩ := @rvalidPurse gl n h len f sh l hs (by have := hv.r; omega)
  obtain rfl := hb.2 hv
  exact c17
theorem nvp38 (h : 3 ≤ n) {len : Int} {f : Bool} {sh : Sh} {l : List Q4} (hs : Shp l sh) (hl : l.length < 2 ^ 30) (hv : ¬ VP len l) : call gl tab n 38 [purse len f sh l] [] = some (.bool false, [], []) := by
  obtain ⟨b, hb, c17⟩ := @rvalidPurse gl n h len f sh l hs hl
  obtain rfl : b = false := by cases b; rfl; exact absurd (hb.1 rfl) hv
  exact c17
theorem coinOf_at (h : 6 ≤ n) (len : Int) (f : Bool) {sh : Sh} {l : List Q4} (hs : Shp l sh) (hl : l.length < 2 ^ 60) (ha : Asc l) (w : Int) {k : Nat} (hk : Lb l (keyW w) k) :
    call gl tab n 61 [purse len f sh l, i64 w] [] = some (.tup [(coinOr l k (keyW w)).av, .bool (decide (k < l.length ∧ (at' l k).cmpW (keyW w) = 0))], [], []) := by
  obtain ⟨d, rfl⟩ := Nat.exists_eq_add_of_le' h
  have c74 := @get_ok gl (d + 5) (by omega) f sh l hs (keyW w) hl ha k hk
  have e : (if k < l.length ∧ (at' l k).cmpW (keyW w) = 0 then (at' l k).av else (keyW w).av) = (coinOr l k (keyW w)).av := by unfold coinOr; split <;> rfl
  rw [e] at c74
  simp only [Q4.av] at c74 ⊢
  rw [call_go (fd := fd61) rfl]
  simp (disch := ((fail_if_success (intro _)); omega)) only [go_sem, reduceIte, Nat.reduceEqDiff, Nat.reduceAdd, Nat.reduceSub, Nat.reduceMul, Nat.reduceDiv, Nat.reduceMod, Nat.reduceLT, Nat.reduceLeDiff, Nat.reduceBEq, Nat.reduceBNe, Int.reduceLE, Int.reduceLT, Int.reduceToNat, Int.reduceEq, Int.reduceBEq, Int.reduceBNe, Int.reduceNeg, Int.reduceSub, Int.reduceMul, Int.reduceAdd, BitVec.reduceOfInt, reduceCtorEq, ↓reduceIte, tn_add, tn_mul, tn_sub, tn_one, tn_zero, w64, ltN_t, ltN_f, leN_t, leN_f, ltI_t, ltI_f, leI_t, leI_f, eqN_t, eqN_f, eqI_t, eqI_f, beq_t, beq_f, bne_t, bne_f, cast_add, fd61, m61, purse, c74]
theorem with_at (h : 6 ≤ n) (len : Int) (f : Bool) {sh : Sh} {l : List Q4} (hs : Shp l sh) (hl : l.length < 2 ^ 30) (ha : Asc l) (x : Q4) {k : Nat} (hk : Lb l x k) :
    call gl tab n 62 [purse len f sh l, x.av] [] = some (purse len false sR (putL l k x), [], []) := by
  obtain ⟨d, rfl⟩ := Nat.exists_eq_add_of_le' h
  have c76 := @set_ok gl (d + 5) (by omega) f sh l hs x hl ha k hk
  simp only [purse, Q4.av] at c76 ⊢
  rw [call_go (fd := fd62) rfl]
  simp (disch := ((fail_if_success (intro _)); omega)) only [go_sem, reduceIte, Nat.reduceEqDiff, Nat.reduceAdd, Nat.reduceSub, Nat.reduceMul, Nat.reduceDiv, Nat.reduceMod, Nat.reduceLT, Nat.reduceLeDiff, Nat.reduceBEq, Nat.reduceBNe, Int.reduceLE, Int.reduceLT, Int.reduceToNat, Int.reduceEq, Int.reduceBEq, Int.reduceBNe, Int.reduceNeg, Int.reduceSub, Int.reduceMul, Int.reduceAdd, BitVec.reduceOfInt, reduceCtorEq, ↓reduceIte, tn_add, tn_mul, tn_sub, tn_one, tn_zero, w64, ltN_t, ltN_f, leN_t, leN_f, ltI_t, ltI_f, leI_t, leI_f, eqN_t, eqN_f, eqI_t, eqI_f, beq_t, beq_f, bne_t, bne_f, cast_add, fd62, m62, c76, rows_length, rows_take', noImms_rows]
/-- What can be spent. -/
def leftF (x : Q4) : Int := x.g - x.d - x.b
theorem left_t (h : 7 ≤ n) (len : Int) (f : Bool) {sh : Sh} {l : List Q4} (hs : Shp l sh) (w : Int) (hv : VP len l) {k : Nat} (hk : Lb l (keyW w) k) : call gl tab n 26 [purse len f sh l, i64 w] [] = some (i64 (leftF (coinOr l k (keyW w))), [], []) := by
  obtain ⟨d, rfl⟩ := Nat.exists_eq_add_of_le' h
  have hr := hv.r
  have c37 := @vp37 gl (d + 6) (by omega) len f sh l hs hv
  have c61 := @coinOf_at gl (d + 6) (by omega) len f sh l hs (by omega) (vp_asc hv) w k hk
  have hbd := coin_bd hv k w
  simp only [purse, Q4.av, leftF] at c37 c61 ⊢
  generalize coinOr l k (keyW w) = q at *
  rw [call_go (fd := fd26) rfl]
  simp (disch := ((fail_if_success (intro _)); omega)) only [go_sem, reduceIte, Nat.reduceEqDiff, Nat.reduceAdd, Nat.reduceSub, Nat.reduceMul, Nat.reduceDiv, Nat.reduceMod, Nat.reduceLT, Nat.reduceLeDiff, Nat.reduceBEq, Nat.reduceBNe, Int.reduceLE, Int.reduceLT, Int.reduceToNat, Int.reduceEq, Int.reduceBEq, Int.reduceBNe, Int.reduceNeg, Int.reduceSub, Int.reduceMul, Int.reduceAdd, BitVec.reduceOfInt, reduceCtorEq, ↓reduceIte, tn_add, tn_mul, tn_sub, tn_one, tn_zero, w64, ltN_t, ltN_f, leN_t, leN_f, ltI_t, ltI_f, leI_t, leI_f, eqN_t, eqN_f, eqI_t, eqI_f, beq_t, beq_f, bne_t, bne_f, cast_add, fd26, m26, purse, c37, c61]
theorem left_f (h : 7 ≤ n) (len : Int) (f : Bool) {sh : Sh} {l : List Q4} (hs : Shp l sh) (hl : l.length < 2 ^ 30) (w : Int) (hv : ¬ VP len l) : call gl tab n 26 [purse len f sh l, i64 w] [] = some (i64 0, [], []) := by
  obtain ⟨d, rfl⟩ := Nat.exists_eq_add_of_le' h
  have c37 := @nvp37 gl (d + 6) (by omega) len f sh l hs hl hv
  simp only [purse] at c37
  rw [call_go (fd := fd26) rfl]
  simp (disch := ((fail_if_success (intro _)); omega)) only [go_sem, reduceIte, Nat.reduceEqDiff, Nat.reduceAdd, Nat.reduceSub, Nat.reduceMul, Nat.reduceDiv, Nat.reduceMod, Nat.reduceLT, Nat.reduceLeDiff, Nat.reduceBEq, Nat.reduceBNe, Int.reduceLE, Int.reduceLT, Int.reduceToNat, Int.reduceEq, Int.reduceBEq, Int.reduceBNe, Int.reduceNeg, Int.reduceSub, Int.reduceMul, Int.reduceAdd, BitVec.reduceOfInt, reduceCtorEq, ↓reduceIte, tn_add, tn_mul, tn_sub, tn_one, tn_zero, w64, ltN_t, ltN_f, leN_t, leN_f, ltI_t, ltI_f, leI_t, leI_f, eqN_t, eqN_f, eqI_t, eqI_f, beq_t, beq_f, bne_t, bne_f, cast_add, fd26, m26, purse, c37]
theorem back_t (h : 7 ≤ n) (len : Int) (f : Bool) {sh : Sh} {l : List Q4} (hs : Shp l sh) (w : Int) (hv : VP len l) {k : Nat} (hk : Lb l (keyW w) k) : call gl tab n 29 [purse len f sh l, i64 w] [] = some (i64 ((coinOr l k (keyW w)).b), [], []) := by
  obtain ⟨d, rfl⟩ := Nat.exists_eq_add_of_le' h
  have hr := hv.r
  have c37 := @vp37 gl (d + 6) (by omega) len f sh l hs hv
  have c61 := @coinOf_at gl (d + 6) (by omega) len f sh l hs (by omega) (vp_asc hv) w k hk
  have hbd := coin_bd hv k w
  simp only [purse, Q4.av, leftF] at c37 c61 ⊢
  generalize coinOr l k (keyW w) = q at *
  rw [call_go (fd := fd29) rfl]
  simp (disch := ((fail_if_success (intro _)); omega)) only [go_sem, reduceIte, Nat.reduceEqDiff, Nat.reduceAdd, Nat.reduceSub, Nat.reduceMul, Nat.reduceDiv, Nat.reduceMod, Nat.reduceLT, Nat.reduceLeDiff, Nat.reduceBEq, Nat.reduceBNe, Int.reduceLE, Int.reduceLT, Int.reduceToNat, Int.reduceEq, Int.reduceBEq, Int.reduceBNe, Int.reduceNeg, Int.reduceSub, Int.reduceMul, Int.reduceAdd, BitVec.reduceOfInt, reduceCtorEq, ↓reduceIte, tn_add, tn_mul, tn_sub, tn_one, tn_zero, w64, ltN_t, ltN_f, leN_t, leN_f, ltI_t, ltI_f, leI_t, leI_f, eqN_t, eqN_f, eqI_t, eqI_f, beq_t, beq_f, bne_t, bne_f, cast_add, fd29, m29, purse, c37, c61]
theorem back_f (h : 7 ≤ n) (len : Int) (f : Bool) {sh : Sh} {l : List Q4} (hs : Shp l sh) (hl : l.length < 2 ^ 30) (w : Int) (hv : ¬ VP len l) : call gl tab n 29 [purse len f sh l, i64 w] [] = some (i64 0, [], []) := by
  obtain ⟨d, rfl⟩ := Nat.exists_eq_add_of_le' h
  have c37 := @nvp37 gl (d + 6) (by omega) len f sh l hs hl hv
  simp only [purse] at c37
  rw [call_go (fd := fd29) rfl]
  simp (disch := ((fail_if_success (intro _)); omega)) only [go_sem, reduceIte, Nat.reduceEqDiff, Nat.reduceAdd, Nat.reduceSub, Nat.reduceMul, Nat.reduceDiv, Nat.reduceMod, Nat.reduceLT, Nat.reduceLeDiff, Nat.reduceBEq, Nat.reduceBNe, Int.reduceLE, Int.reduceLT, Int.reduceToNat, Int.reduceEq, Int.reduceBEq, Int.reduceBNe, Int.reduceNeg, Int.reduceSub, Int.reduceMul, Int.reduceAdd, BitVec.reduceOfInt, reduceCtorEq, ↓reduceIte, tn_add, tn_mul, tn_sub, tn_one, tn_zero, w64, ltN_t, ltN_f, leN_t, leN_f, ltI_t, ltI_f, leI_t, leI_f, eqN_t, eqN_f, eqI_t, eqI_f, beq_t, beq_f, bne_t, bne_f, cast_add, fd29, m29, purse, c37]
theorem rleft_t (h : 4 ≤ n) (len : Int) (f : Bool) {sh : Sh} {l : List Q4} (hs : Shp l sh) (w : Int) (hv : VP len l) {k : Nat} (hk : Lb l (keyW w) k) : call gl tab n 39 [purse len f sh l, i64 w] [] = some (i64 (leftF (coinOr l k (keyW w))), [], []) := by
  obtain ⟨d, rfl⟩ := Nat.exists_eq_add_of_le' h
  have hr := hv.r
  have c37 := @vp38 gl (d + 3) (by omega) len f sh l hs hv
  have c61 := @coin_at gl (d + 3) (by omega) len f sh l hs (by omega) (vp_asc hv) w k hk
  have hbd := coin_bd hv k w
  simp only [purse, Q4.av, leftF] at c37 c61 ⊢
  generalize coinOr l k (keyW w) = q at *
  rw [call_go (fd := fd39) rfl]
  simp (disch := ((fail_if_success (intro _)); omega)) only [go_sem, reduceIte, Nat.reduceEqDiff, Nat.reduceAdd, Nat.reduceSub, Nat.reduceMul, Nat.reduceDiv, Nat.reduceMod, Nat.reduceLT, Nat.reduceLeDiff, Nat.reduceBEq, Nat.reduceBNe, Int.reduceLE, Int.reduceLT, Int.reduceToNat, Int.reduceEq, Int.reduceBEq, Int.reduceBNe, Int.reduceNeg, Int.reduceSub, Int.reduceMul, Int.reduceAdd, BitVec.reduceOfInt, reduceCtorEq, ↓reduceIte, tn_add, tn_mul, tn_sub, tn_one, tn_zero, w64, ltN_t, ltN_f, leN_t, leN_f, ltI_t, ltI_f, leI_t, leI_f, eqN_t, eqN_f, eqI_t, eqI_f, beq_t, beq_f, bne_t, bne_f, cast_add, fd39, m39, purse, c37, c61]
theorem rleft_f (h : 4 ≤ n) (len : Int) (f : Bool) {sh : Sh} {l : List Q4} (hs : Shp l sh) (hl : l.length < 2 ^ 30) (w : Int) (hv : ¬ VP len l) : call gl tab n 39 [purse len f sh l, i64 w] [] = some (i64 0, [], []) := by
  obtain ⟨d, rfl⟩ := Nat.exists_eq_add_of_le' h
  have c37 := @nvp38 gl (d + 3) (by omega) len f sh l hs hl hv
  simp only [purse] at c37
  rw [call_go (fd := fd39) rfl]
  simp (disch := ((fail_if_success (intro _)); omega)) only [go_sem, reduceIte, Nat.reduceEqDiff, Nat.reduceAdd, Nat.reduceSub, Nat.reduceMul, Nat.reduceDiv, Nat.reduceMod, Nat.reduceLT, Nat.reduceLeDiff, Nat.reduceBEq, Nat.reduceBNe, Int.reduceLE, Int.reduceLT, Int.reduceToNat, Int.reduceEq, Int.reduceBEq, Int.reduceBNe, Int.reduceNeg, Int.reduceSub, Int.reduceMul, Int.reduceAdd, BitVec.reduceOfInt, reduceCtorEq, ↓reduceIte, tn_add, tn_mul, tn_sub, tn_one, tn_zero, w64, ltN_t, ltN_f, leN_t, leN_f, ltI_t, ltI_f, leI_t, leI_f, eqN_t, eqN_f, eqI_t, eqI_f, beq_t, beq_f, bne_t, bne_f, cast_add, fd39, m39, purse, c37]
theorem rback_t (h : 4 ≤ n) (len : Int) (f : Bool) {sh : Sh} {l : List Q4} (hs : Shp l sh) (w : Int) (hv : VP len l) {k : Nat} (hk : Lb l (keyW w) k) : call gl tab n 40 [purse len f sh l, i64 w] [] = some (i64 ((coinOr l k (keyW w)).b), [], []) := by
  obtain ⟨d, rfl⟩ := Nat.exists_eq_add_of_le' h
  have hr := hv.r
  have c37 := @vp38 gl (d + 3) (by omega) len f sh l hs hv
  have c61 := @coin_at gl (d + 3) (by omega) len f sh l hs (by omega) (vp_asc hv) w k hk
  have hbd := coin_bd hv k w
  simp only [purse, Q4.av, leftF] at c37 c61 ⊢
  generalize coinOr l k (keyW w) = q at *
  rw [call_go (fd := fd40) rfl]
  simp (disch := ((fail_if_success (intro _)); omega)) only [go_sem, reduceIte, Nat.reduceEqDiff, Nat.reduceAdd, Nat.reduceSub, Nat.reduceMul, Nat.reduceDiv, Nat.reduceMod, Nat.reduceLT, Nat.reduceLeDiff, Nat.reduceBEq, Nat.reduceBNe, Int.reduceLE, Int.reduceLT, Int.reduceToNat, Int.reduceEq, Int.reduceBEq, Int.reduceBNe, Int.reduceNeg, Int.reduceSub, Int.reduceMul, Int.reduceAdd, BitVec.reduceOfInt, reduceCtorEq, ↓reduceIte, tn_add, tn_mul, tn_sub, tn_one, tn_zero, w64, ltN_t, ltN_f, leN_t, leN_f, ltI_t, ltI_f, leI_t, leI_f, eqN_t, eqN_f, eqI_t, eqI_f, beq_t, beq_f, bne_t, bne_f, cast_add, fd40, m40, purse, c37, c61]
theorem rback_f (h : 4 ≤ n) (len : Int) (f : Bool) {sh : Sh} {l : List Q4} (hs : Shp l sh) (hl : l.length < 2 ^ 30) (w : Int) (hv : ¬ VP len l) : call gl tab n 40 [purse len f sh l, i64 w] [] = some (i64 0, [], []) := by
  obtain ⟨d, rfl⟩ := Nat.exists_eq_add_of_le' h
  have c37 := @nvp38 gl (d + 3) (by omega) len f sh l hs hl hv
  simp only [purse] at c37
  rw [call_go (fd := fd40) rfl]
  simp (disch := ((fail_if_success (intro _)); omega)) only [go_sem, reduceIte, Nat.reduceEqDiff, Nat.reduceAdd, Nat.reduceSub, Nat.reduceMul, Nat.reduceDiv, Nat.reduceMod, Nat.reduceLT, Nat.reduceLeDiff, Nat.reduceBEq, Nat.reduceBNe, Int.reduceLE, Int.reduceLT, Int.reduceToNat, Int.reduceEq, Int.reduceBEq, Int.reduceBNe, Int.reduceNeg, Int.reduceSub, Int.reduceMul, Int.reduceAdd, BitVec.reduceOfInt, reduceCtorEq, ↓reduceIte, tn_add, tn_mul, tn_sub, tn_one, tn_zero, w64, ltN_t, ltN_f, leN_t, leN_f, ltI_t, ltI_f, leI_t, leI_f, eqN_t, eqN_f, eqI_t, eqI_f, beq_t, beq_f, bne_t, bne_f, cast_add, fd40, m40, purse, c37]
abbrev purse0 : AV := purse 0 true .sc []
open Classical in
theorem newPurse_at (h : 6 ≤ n) (len : Int) : call gl tab n 27 [i64 len] [] = some (.tup [if VP len [] then purse len true .sc [] else purse0, i64 (if VP len [] then 0 else 1)], [], []) := by
  obtain ⟨d, rfl⟩ := Nat.exists_eq_add_of_le' h
  rw [call_go (fd := fd27) rfl]
  by_cases hv : VP len []
  · have c17 := @vp37 gl (d + 5) (by omega) len true .sc [] (.inl rfl) hv
    simp only [purse, rows, List.map_nil] at c17
    simp (disch := ((fail_if_success (intro _)); omega)) only [go_sem, reduceIte, Nat.reduceEqDiff, Nat.reduceAdd, Nat.reduceSub, Nat.reduceMul, Nat.reduceDiv, Nat.reduceMod, Nat.reduceLT, Nat.reduceLeDiff, Nat.reduceBEq, Nat.reduceBNe, Int.reduceLE, Int.reduceLT, Int.reduceToNat, Int.reduceEq, Int.reduceBEq, Int.reduceBNe, Int.reduceNeg, Int.reduceSub, Int.reduceMul, Int.reduceAdd, BitVec.reduceOfInt, reduceCtorEq, ↓reduceIte, tn_add, tn_mul, tn_sub, tn_one, tn_zero, w64, ltN_t, ltN_f, leN_t, leN_f, ltI_t, ltI_f, leI_t, leI_f, eqN_t, eqN_f, eqI_t, eqI_f, beq_t, beq_f, bne_t, bne_f, cast_add, fd27, m27, purse, rows, List.map_nil, c17, hv]
  · have c17 := @nvp37 gl (d + 5) (by omega) len true .sc [] (.inl rfl) (by decide) hv
    simp only [purse, rows, List.map_nil] at c17
    simp (disch := ((fail_if_success (intro _)); omega)) only [go_sem, reduceIte, Nat.reduceEqDiff, Nat.reduceAdd, Nat.reduceSub, Nat.reduceMul, Nat.reduceDiv, Nat.reduceMod, Nat.reduceLT, Nat.reduceLeDiff, Nat.reduceBEq, Nat.reduceBNe, Int.reduceLE, Int.reduceLT, Int.reduceToNat, Int.reduceEq, Int.reduceBEq, Int.reduceBNe, Int.reduceNeg, Int.reduceSub, Int.reduceMul, Int.reduceAdd, BitVec.reduceOfInt, reduceCtorEq, ↓reduceIte, tn_add, tn_mul, tn_sub, tn_one, tn_zero, w64, ltN_t, ltN_f, leN_t, leN_f, ltI_t, ltI_f, leI_t, leI_f, eqN_t, eqN_f, eqI_t, eqI_f, beq_t, beq_f, bne_t, bne_f, cast_add, fd27, m27, purse, rows, List.map_nil, c17, hv]
open Classical in
theorem rnewPurse_at (h : 4 ≤ n) (len : Int) : call gl tab n 32 [i64 len] [] = some (.agg [if VP len [] then purse len true .sc [] else purse0, i64 (if VP len [] then 0 else 1)], [], []) := by
  obtain ⟨d, rfl⟩ := Nat.exists_eq_add_of_le' h
  rw [call_go (fd := fd32) rfl]
  by_cases hv : VP len []
  · have c17 := @vp38 gl (d + 3) (by omega) len true .sc [] (.inl rfl) hv
    simp only [purse, rows, List.map_nil] at c17
    simp (disch := ((fail_if_success (intro _)); omega)) only [go_sem, reduceIte, Nat.reduceEqDiff, Nat.reduceAdd, Nat.reduceSub, Nat.reduceMul, Nat.reduceDiv, Nat.reduceMod, Nat.reduceLT, Nat.reduceLeDiff, Nat.reduceBEq, Nat.reduceBNe, Int.reduceLE, Int.reduceLT, Int.reduceToNat, Int.reduceEq, Int.reduceBEq, Int.reduceBNe, Int.reduceNeg, Int.reduceSub, Int.reduceMul, Int.reduceAdd, BitVec.reduceOfInt, reduceCtorEq, ↓reduceIte, tn_add, tn_mul, tn_sub, tn_one, tn_zero, w64, ltN_t, ltN_f, leN_t, leN_f, ltI_t, ltI_f, leI_t, leI_f, eqN_t, eqN_f, eqI_t, eqI_f, beq_t, beq_f, bne_t, bne_f, cast_add, fd32, m32, purse, rows, List.map_nil, c17, hv]
  · have c17 := @nvp38 gl (d + 3) (by omega) len true .sc [] (.inl rfl) (by decide) hv
    simp only [purse, rows, List.map_nil] at c17
    simp (disch := ((fail_if_success (intro _)); omega)) only [go_sem, reduceIte, Nat.reduceEqDiff, Nat.reduceAdd, Nat.reduceSub, Nat.reduceMul, Nat.reduceDiv, Nat.reduceMod, Nat.reduceLT, Nat.reduceLeDiff, Nat.reduceBEq, Nat.reduceBNe, Int.reduceLE, Int.reduceLT, Int.reduceToNat, Int.reduceEq, Int.reduceBEq, Int.reduceBNe, Int.reduceNeg, Int.reduceSub, Int.reduceMul, Int.reduceAdd, BitVec.reduceOfInt, reduceCtorEq, ↓reduceIte, tn_add, tn_mul, tn_sub, tn_one, tn_zero, w64, ltN_t, ltN_f, leN_t, leN_f, ltI_t, ltI_f, leI_t, leI_f, eqN_t, eqN_f, eqI_t, eqI_f, beq_t, beq_f, bne_t, bne_f, cast_add, fd32, m32, purse, rows, List.map_nil, c17, hv]
end Co
end Go.Proofs.S39
namespace Go.Proofs.S39
namespace Co
open Go Go.Ev Go.Proofs
set_option linter.unusedSimpArgs false
set_option linter.unusedVariables false
set_option linter.unusedSectionVars false
variable {gl : Gl} {n : Nat}
structure CArg (w t : Int) : Prop where
  w : 0 ≤ w ∧ w ≤ 1099511627776
  t : 0 ≤ t ∧ t ≤ 1099511627776
structure GArg (w m : Int) : Prop where
  w : 0 ≤ w ∧ w ≤ 1099511627776
  m : 1 ≤ m ∧ m ≤ 1073741824
def gotC (x : Q4) (t : Int) : Q4 := ⟨x.w, t, x.d, x.b⟩
def spentC (x : Q4) : Q4 := ⟨x.w, x.g, x.d + 1, x.b⟩
def backC (x : Q4) (m : Int) : Q4 := ⟨x.w, x.g, x.d, x.b + m⟩
theorem quo_ok {len p : Int} (hl : 1 ≤ len) (hp : 0 ≤ p ∧ p ≤ 1099511627776) : IntKind.wrap .i64 (p.tdiv len) = p / len ∧ 0 ≤ p / len ∧ p / len ≤ 1099511627776 := by
  have h1 : p / len ≤ p := Int.ediv_le_self _ hp.1
  have h2 : 0 ≤ p / len := Int.ediv_nonneg hp.1 (by omega)
  refine ⟨?_, h2, by omega⟩
  rw [Int.tdiv_eq_ediv_of_nonneg hp.1]
  exact wrap_i64 (by omega) (by omega)
section
variable {len : Int} {f : Bool} {sh : Sh} {l : List Q4} {w m p q : Int} {k : Nat} (hs : Shp l sh) (hl : l.length < 2 ^ 30)
include hs hl
theorem receive_inv (h : 9 ≤ n) (hv : ¬ VP len l) : call gl tab n 24 [purse len f sh l, i64 w, i64 m] [] = some (.tup [purse0, i64 1], [], []) := by
  obtain ⟨d, rfl⟩ := Nat.exists_eq_add_of_le' h
  have c37 := @nvp37 gl (d + 8) (by omega) len f sh l hs hl hv
  have c43 := @isWindow_at gl (d + 8) (by omega)
  have c45 := @within_at gl (d + 8) (by omega)
  simp only [purse] at c37
  rw [call_go (fd := fd24) rfl]
  simp (disch := ((fail_if_success (intro _)); omega)) only [go_sem, reduceIte, Nat.reduceEqDiff, Nat.reduceAdd, Nat.reduceSub, Nat.reduceMul, Nat.reduceDiv, Nat.reduceMod, Nat.reduceLT, Nat.reduceLeDiff, Nat.reduceBEq, Nat.reduceBNe, Int.reduceLE, Int.reduceLT, Int.reduceToNat, Int.reduceEq, Int.reduceBEq, Int.reduceBNe, Int.reduceNeg, Int.reduceSub, Int.reduceMul, Int.reduceAdd, BitVec.reduceOfInt, reduceCtorEq, ↓reduceIte, tn_add, tn_mul, tn_sub, tn_one, tn_zero, w64, ltN_t, ltN_f, leN_t, leN_f, ltI_t, ltI_f, leI_t, leI_f, eqN_t, eqN_f, eqI_t, eqI_f, beq_t, beq_f, bne_t, bne_f, cast_add, fd24, m24, purse, c37, c43, c45, rows_nil]
theorem give_inv (h : 9 ≤ n) (hv : ¬ VP len l) : call gl tab n 28 [purse len f sh l, i64 w, i64 m] [] = some (.tup [purse0, i64 1], [], []) := by
  obtain ⟨d, rfl⟩ := Nat.exists_eq_add_of_le' h
  have c37 := @nvp37 gl (d + 8) (by omega) len f sh l hs hl hv
  have c43 := @isWindow_at gl (d + 8) (by omega)
  have c45 := @within_at gl (d + 8) (by omega)
  simp only [purse] at c37
  rw [call_go (fd := fd28) rfl]
  simp (disch := ((fail_if_success (intro _)); omega)) only [go_sem, reduceIte, Nat.reduceEqDiff, Nat.reduceAdd, Nat.reduceSub, Nat.reduceMul, Nat.reduceDiv, Nat.reduceMod, Nat.reduceLT, Nat.reduceLeDiff, Nat.reduceBEq, Nat.reduceBNe, Int.reduceLE, Int.reduceLT, Int.reduceToNat, Int.reduceEq, Int.reduceBEq, Int.reduceBNe, Int.reduceNeg, Int.reduceSub, Int.reduceMul, Int.reduceAdd, BitVec.reduceOfInt, reduceCtorEq, ↓reduceIte, tn_add, tn_mul, tn_sub, tn_one, tn_zero, w64, ltN_t, ltN_f, leN_t, leN_f, ltI_t, ltI_f, leI_t, leI_f, eqN_t, eqN_f, eqI_t, eqI_f, beq_t, beq_f, bne_t, bne_f, cast_add, fd28, m28, purse, c37, c43, c45, rows_nil]
theorem receive_arg (h : 9 ≤ n) (hv : VP len l) (ha : ¬ CArg w m) : call gl tab n 24 [purse len f sh l, i64 w, i64 m] [] = some (.tup [purse0, i64 1], [], []) := by
  obtain ⟨d, rfl⟩ := Nat.exists_eq_add_of_le' h
  have c37 := @vp37 gl (d + 8) (by omega) len f sh l hs hv
  have c43 := @isWindow_at gl (d + 8) (by omega)
  have c45 := @within_at gl (d + 8) (by omega)
  simp only [purse] at c37
  rw [call_go (fd := fd24) rfl]
  cases hA : (decide (0 ≤ w) && decide (w ≤ 1099511627776))
  · simp (disch := ((fail_if_success (intro _)); omega)) only [go_sem, reduceIte, Nat.reduceEqDiff, Nat.reduceAdd, Nat.reduceSub, Nat.reduceMul, Nat.reduceDiv, Nat.reduceMod, Nat.reduceLT, Nat.reduceLeDiff, Nat.reduceBEq, Nat.reduceBNe, Int.reduceLE, Int.reduceLT, Int.reduceToNat, Int.reduceEq, Int.reduceBEq, Int.reduceBNe, Int.reduceNeg, Int.reduceSub, Int.reduceMul, Int.reduceAdd, BitVec.reduceOfInt, reduceCtorEq, ↓reduceIte, tn_add, tn_mul, tn_sub, tn_one, tn_zero, w64, ltN_t, ltN_f, leN_t, leN_f, ltI_t, ltI_f, leI_t, leI_f, eqN_t, eqN_f, eqI_t, eqI_f, beq_t, beq_f, bne_t, bne_f, cast_add, fd24, m24, purse, c37, c43, c45, rows_nil, hA]
  cases hB : (decide (0 ≤ m) && decide (m ≤ 1099511627776))
  · simp (disch := ((fail_if_success (intro _)); omega)) only [go_sem, reduceIte, Nat.reduceEqDiff, Nat.reduceAdd, Nat.reduceSub, Nat.reduceMul, Nat.reduceDiv, Nat.reduceMod, Nat.reduceLT, Nat.reduceLeDiff, Nat.reduceBEq, Nat.reduceBNe, Int.reduceLE, Int.reduceLT, Int.reduceToNat, Int.reduceEq, Int.reduceBEq, Int.reduceBNe, Int.reduceNeg, Int.reduceSub, Int.reduceMul, Int.reduceAdd, BitVec.reduceOfInt, reduceCtorEq, ↓reduceIte, tn_add, tn_mul, tn_sub, tn_one, tn_zero, w64, ltN_t, ltN_f, leN_t, leN_f, ltI_t, ltI_f, leI_t, leI_f, eqN_t, eqN_f, eqI_t, eqI_f, beq_t, beq_f, bne_t, bne_f, cast_add, fd24, m24, purse, c37, c43, c45, rows_nil, hA, hB]
  simp only [Bool.and_eq_true, decide_eq_true_eq] at hA hB
  exact absurd ⟨hA, hB⟩ ha
theorem give_arg (h : 9 ≤ n) (hv : VP len l) (ha : ¬ GArg w m) : call gl tab n 28 [purse len f sh l, i64 w, i64 m] [] = some (.tup [purse0, i64 1], [], []) := by
  obtain ⟨d, rfl⟩ := Nat.exists_eq_add_of_le' h
  have c37 := @vp37 gl (d + 8) (by omega) len f sh l hs hv
  have c43 := @isWindow_at gl (d + 8) (by omega)
  have c45 := @within_at gl (d + 8) (by omega)
  simp only [purse] at c37
  rw [call_go (fd := fd28) rfl]
  cases hA : (decide (0 ≤ w) && decide (w ≤ 1099511627776))
  · simp (disch := ((fail_if_success (intro _)); omega)) only [go_sem, reduceIte, Nat.reduceEqDiff, Nat.reduceAdd, Nat.reduceSub, Nat.reduceMul, Nat.reduceDiv, Nat.reduceMod, Nat.reduceLT, Nat.reduceLeDiff, Nat.reduceBEq, Nat.reduceBNe, Int.reduceLE, Int.reduceLT, Int.reduceToNat, Int.reduceEq, Int.reduceBEq, Int.reduceBNe, Int.reduceNeg, Int.reduceSub, Int.reduceMul, Int.reduceAdd, BitVec.reduceOfInt, reduceCtorEq, ↓reduceIte, tn_add, tn_mul, tn_sub, tn_one, tn_zero, w64, ltN_t, ltN_f, leN_t, leN_f, ltI_t, ltI_f, leI_t, leI_f, eqN_t, eqN_f, eqI_t, eqI_f, beq_t, beq_f, bne_t, bne_f, cast_add, fd28, m28, purse, c37, c43, c45, rows_nil, hA]
  cases hB : (decide (1 ≤ m) && decide (m ≤ 1073741824))
  · simp (disch := ((fail_if_success (intro _)); omega)) only [go_sem, reduceIte, Nat.reduceEqDiff, Nat.reduceAdd, Nat.reduceSub, Nat.reduceMul, Nat.reduceDiv, Nat.reduceMod, Nat.reduceLT, Nat.reduceLeDiff, Nat.reduceBEq, Nat.reduceBNe, Int.reduceLE, Int.reduceLT, Int.reduceToNat, Int.reduceEq, Int.reduceBEq, Int.reduceBNe, Int.reduceNeg, Int.reduceSub, Int.reduceMul, Int.reduceAdd, BitVec.reduceOfInt, reduceCtorEq, ↓reduceIte, tn_add, tn_mul, tn_sub, tn_one, tn_zero, w64, ltN_t, ltN_f, leN_t, leN_f, ltI_t, ltI_f, leI_t, leI_f, eqN_t, eqN_f, eqI_t, eqI_f, beq_t, beq_f, bne_t, bne_f, cast_add, fd28, m28, purse, c37, c43, c45, rows_nil, hA, hB]
  simp only [Bool.and_eq_true, decide_eq_true_eq] at hA hB
  exact absurd ⟨hA, hB⟩ ha
theorem receive_same (h : 9 ≤ n) (hv : VP len l) (ha : CArg w m) (hk : Lb l (keyW w) k) (hr : m ≤ (coinOr l k (keyW w)).g) : call gl tab n 24 [purse len f sh l, i64 w, i64 m] [] = some (.tup [purse len f sh l, i64 0], [], []) := by
  obtain ⟨d, rfl⟩ := Nat.exists_eq_add_of_le' h
  have c37 := @vp37 gl (d + 8) (by omega) len f sh l hs hv
  have c43 := @isWindow_at gl (d + 8) (by omega)
  have c45 := @within_at gl (d + 8) (by omega)
  have c61 := @coinOf_at gl (d + 8) (by omega) len f sh l hs (by have := hv.r; omega) (vp_asc hv) w k hk
  obtain ⟨⟨a1, a2⟩, ⟨a3, a4⟩⟩ := ha
  have e1 := coin_key l k w
  simp only [purse, Q4.av, e1] at c37 c61 ⊢
  generalize coinOr l k (keyW w) = x at *
  rw [call_go (fd := fd24) rfl]
  simp (disch := ((fail_if_success (intro _)); omega)) only [go_sem, reduceIte, Nat.reduceEqDiff, Nat.reduceAdd, Nat.reduceSub, Nat.reduceMul, Nat.reduceDiv, Nat.reduceMod, Nat.reduceLT, Nat.reduceLeDiff, Nat.reduceBEq, Nat.reduceBNe, Int.reduceLE, Int.reduceLT, Int.reduceToNat, Int.reduceEq, Int.reduceBEq, Int.reduceBNe, Int.reduceNeg, Int.reduceSub, Int.reduceMul, Int.reduceAdd, BitVec.reduceOfInt, reduceCtorEq, ↓reduceIte, tn_add, tn_mul, tn_sub, tn_one, tn_zero, w64, ltN_t, ltN_f, leN_t, leN_f, ltI_t, ltI_f, leI_t, leI_f, eqN_t, eqN_f, eqI_t, eqI_f, beq_t, beq_f, bne_t, bne_f, cast_add, fd24, m24, c37, c43, c45, c61, rows_length]
theorem receive_lim (h : 9 ≤ n) (hv : VP len l) (ha : CArg w m) (hk : Lb l (keyW w) k) (hr : ¬ m ≤ (coinOr l k (keyW w)).g) (hn : ¬ Kc l k w) (h4 : l.length = 10000) : call gl tab n 24 [purse len f sh l, i64 w, i64 m] [] = some (.tup [purse0, i64 2], [], []) := by
  obtain ⟨d, rfl⟩ := Nat.exists_eq_add_of_le' h
  have c37 := @vp37 gl (d + 8) (by omega) len f sh l hs hv
  have c43 := @isWindow_at gl (d + 8) (by omega)
  have c45 := @within_at gl (d + 8) (by omega)
  have c61 := @coinOf_at gl (d + 8) (by omega) len f sh l hs (by have := hv.r; omega) (vp_asc hv) w k hk
  obtain ⟨⟨a1, a2⟩, ⟨a3, a4⟩⟩ := ha
  have e1 := coin_key l k w
  have hkn2 : ¬ (k < l.length ∧ (at' l k).cmpW (keyW w) = 0) := hn
  simp only [hkn2, decide_false] at c61
  simp only [purse, Q4.av, e1] at c37 c61 ⊢
  generalize coinOr l k (keyW w) = x at *
  rw [call_go (fd := fd24) rfl]
  simp (disch := ((fail_if_success (intro _)); omega)) only [go_sem, reduceIte, Nat.reduceEqDiff, Nat.reduceAdd, Nat.reduceSub, Nat.reduceMul, Nat.reduceDiv, Nat.reduceMod, Nat.reduceLT, Nat.reduceLeDiff, Nat.reduceBEq, Nat.reduceBNe, Int.reduceLE, Int.reduceLT, Int.reduceToNat, Int.reduceEq, Int.reduceBEq, Int.reduceBNe, Int.reduceNeg, Int.reduceSub, Int.reduceMul, Int.reduceAdd, BitVec.reduceOfInt, reduceCtorEq, ↓reduceIte, tn_add, tn_mul, tn_sub, tn_one, tn_zero, w64, ltN_t, ltN_f, leN_t, leN_f, ltI_t, ltI_f, leI_t, leI_f, eqN_t, eqN_f, eqI_t, eqI_f, beq_t, beq_f, bne_t, bne_f, cast_add, fd24, m24, c37, c43, c45, c61, rows_length, rows_nil]
theorem receive_ok (h : 9 ≤ n) (hv : VP len l) (ha : CArg w m) (hk : Lb l (keyW w) k) (hr : ¬ m ≤ (coinOr l k (keyW w)).g) (hn : Kc l k w ∨ l.length ≠ 10000) :
    call gl tab n 24 [purse len f sh l, i64 w, i64 m] [] = some (.tup [purse len false sR (putL l k (gotC (coinOr l k (keyW w)) m)), i64 0], [], []) := by
  obtain ⟨d, rfl⟩ := Nat.exists_eq_add_of_le' h
  have c37 := @vp37 gl (d + 8) (by omega) len f sh l hs hv
  have c43 := @isWindow_at gl (d + 8) (by omega)
  have c45 := @within_at gl (d + 8) (by omega)
  have c61 := @coinOf_at gl (d + 8) (by omega) len f sh l hs (by have := hv.r; omega) (vp_asc hv) w k hk
  have c62 := @with_at gl (d + 8) (by omega) len f sh l hs hl (vp_asc hv) (gotC (coinOr l k (keyW w)) m) k (lb_key hk (coin_key l k w))
  have hr0 := hv.r
  obtain ⟨⟨a1, a2⟩, ⟨a3, a4⟩⟩ := ha
  have e1 := coin_key l k w
  rw [call_go (fd := fd24) rfl]
  by_cases hkn : Kc l k w
  · have hkn2 : (k < l.length ∧ (at' l k).cmpW (keyW w) = 0) := hkn
    simp only [hkn2, and_self, decide_true] at c61
    simp only [keyW] at e1 c61 c62 hr ⊢
    simp only [purse, Q4.av, gotC, e1] at c37 c61 c62 ⊢
    simp (disch := ((fail_if_success (intro _)); omega)) only [go_sem, reduceIte, Nat.reduceEqDiff, Nat.reduceAdd, Nat.reduceSub, Nat.reduceMul, Nat.reduceDiv, Nat.reduceMod, Nat.reduceLT, Nat.reduceLeDiff, Nat.reduceBEq, Nat.reduceBNe, Int.reduceLE, Int.reduceLT, Int.reduceToNat, Int.reduceEq, Int.reduceBEq, Int.reduceBNe, Int.reduceNeg, Int.reduceSub, Int.reduceMul, Int.reduceAdd, BitVec.reduceOfInt, reduceCtorEq, ↓reduceIte, tn_add, tn_mul, tn_sub, tn_one, tn_zero, w64, ltN_t, ltN_f, leN_t, leN_f, ltI_t, ltI_f, leI_t, leI_f, eqN_t, eqN_f, eqI_t, eqI_f, beq_t, beq_f, bne_t, bne_f, cast_add, fd24, m24, c37, c43, c45, c61, c62, rows_length, e1]
  · have hkn2 : ¬ (k < l.length ∧ (at' l k).cmpW (keyW w) = 0) := hkn
    simp only [hkn2, decide_false] at c61
    have r4 : l.length ≠ 10000 := hn.resolve_left hkn
    simp only [keyW] at e1 c61 c62 hr ⊢
    simp only [purse, Q4.av, gotC, e1] at c37 c61 c62 ⊢
    simp (disch := ((fail_if_success (intro _)); omega)) only [go_sem, reduceIte, Nat.reduceEqDiff, Nat.reduceAdd, Nat.reduceSub, Nat.reduceMul, Nat.reduceDiv, Nat.reduceMod, Nat.reduceLT, Nat.reduceLeDiff, Nat.reduceBEq, Nat.reduceBNe, Int.reduceLE, Int.reduceLT, Int.reduceToNat, Int.reduceEq, Int.reduceBEq, Int.reduceBNe, Int.reduceNeg, Int.reduceSub, Int.reduceMul, Int.reduceAdd, BitVec.reduceOfInt, reduceCtorEq, ↓reduceIte, tn_add, tn_mul, tn_sub, tn_one, tn_zero, w64, ltN_t, ltN_f, leN_t, leN_f, ltI_t, ltI_f, leI_t, leI_f, eqN_t, eqN_f, eqI_t, eqI_f, beq_t, beq_f, bne_t, bne_f, cast_add, fd24, m24, c37, c43, c45, c61, c62, rows_length, e1]
theorem give_state (h : 9 ≤ n) (hv : VP len l) (ha : GArg w m) (hk : Lb l (keyW w) k) (hr : ¬ m ≤ leftF (coinOr l k (keyW w))) : call gl tab n 28 [purse len f sh l, i64 w, i64 m] [] = some (.tup [purse0, i64 4], [], []) := by
  obtain ⟨d, rfl⟩ := Nat.exists_eq_add_of_le' h
  have c37 := @vp37 gl (d + 8) (by omega) len f sh l hs hv
  have c43 := @isWindow_at gl (d + 8) (by omega)
  have c45 := @within_at gl (d + 8) (by omega)
  have c26 := @left_t gl (d + 8) (by omega) len f sh l hs w hv k hk
  obtain ⟨⟨a1, a2⟩, ⟨a3, a4⟩⟩ := ha
  simp only [purse] at c37 c26 ⊢
  generalize leftF (coinOr l k (keyW w)) = x at *
  rw [call_go (fd := fd28) rfl]
  simp (disch := ((fail_if_success (intro _)); omega)) only [go_sem, reduceIte, Nat.reduceEqDiff, Nat.reduceAdd, Nat.reduceSub, Nat.reduceMul, Nat.reduceDiv, Nat.reduceMod, Nat.reduceLT, Nat.reduceLeDiff, Nat.reduceBEq, Nat.reduceBNe, Int.reduceLE, Int.reduceLT, Int.reduceToNat, Int.reduceEq, Int.reduceBEq, Int.reduceBNe, Int.reduceNeg, Int.reduceSub, Int.reduceMul, Int.reduceAdd, BitVec.reduceOfInt, reduceCtorEq, ↓reduceIte, tn_add, tn_mul, tn_sub, tn_one, tn_zero, w64, ltN_t, ltN_f, leN_t, leN_f, ltI_t, ltI_f, leI_t, leI_f, eqN_t, eqN_f, eqI_t, eqI_f, beq_t, beq_f, bne_t, bne_f, cast_add, fd28, m28, c37, c43, c45, c26, rows_length, rows_nil]
theorem give_ok (h : 9 ≤ n) (hv : VP len l) (ha : GArg w m) (hk : Lb l (keyW w) k) (hr : m ≤ leftF (coinOr l k (keyW w))) :
    call gl tab n 28 [purse len f sh l, i64 w, i64 m] [] = some (.tup [purse len false sR (putL l k (backC (coinOr l k (keyW w)) m)), i64 0], [], []) := by
  obtain ⟨d, rfl⟩ := Nat.exists_eq_add_of_le' h
  have c37 := @vp37 gl (d + 8) (by omega) len f sh l hs hv
  have c43 := @isWindow_at gl (d + 8) (by omega)
  have c45 := @within_at gl (d + 8) (by omega)
  have c26 := @left_t gl (d + 8) (by omega) len f sh l hs w hv k hk
  have c61 := @coinOf_at gl (d + 8) (by omega) len f sh l hs (by have := hv.r; omega) (vp_asc hv) w k hk
  have c62 := @with_at gl (d + 8) (by omega) len f sh l hs hl (vp_asc hv) (backC (coinOr l k (keyW w)) m) k (lb_key hk (coin_key l k w))
  have hbd := coin_bd hv k w
  obtain ⟨⟨a1, a2⟩, ⟨a3, a4⟩⟩ := ha
  have e1 := coin_key l k w
  simp only [keyW] at e1 c61 c62 c26 hr hbd ⊢
  simp only [purse, Q4.av, backC, e1, leftF] at c37 c61 c62 c26 hr ⊢
  rw [call_go (fd := fd28) rfl]
  simp (disch := ((fail_if_success (intro _)); omega)) only [go_sem, reduceIte, Nat.reduceEqDiff, Nat.reduceAdd, Nat.reduceSub, Nat.reduceMul, Nat.reduceDiv, Nat.reduceMod, Nat.reduceLT, Nat.reduceLeDiff, Nat.reduceBEq, Nat.reduceBNe, Int.reduceLE, Int.reduceLT, Int.reduceToNat, Int.reduceEq, Int.reduceBEq, Int.reduceBNe, Int.reduceNeg, Int.reduceSub, Int.reduceMul, Int.reduceAdd, BitVec.reduceOfInt, reduceCtorEq, ↓reduceIte, tn_add, tn_mul, tn_sub, tn_one, tn_zero, w64, ltN_t, ltN_f, leN_t, leN_f, ltI_t, ltI_f, leI_t, leI_f, eqN_t, eqN_f, eqI_t, eqI_f, beq_t, beq_f, bne_t, bne_f, cast_add, fd28, m28, c37, c43, c45, c61, c62, c26, rows_length, e1]
theorem spend_f (h : 9 ≤ n) (hv : ¬ (VP len l ∧ PV p q)) : call gl tab n 30 [purse len f sh l, .agg [i64 p, i64 q]] [] = some (.tup [purse0, i64 1], [], []) := by
  obtain ⟨d, rfl⟩ := Nat.exists_eq_add_of_le' h
  have c49 := @pvalid_at gl (d + 8) (by omega) p q
  rw [call_go (fd := fd30) rfl]
  by_cases hv1 : VP len l
  · have c37 := @vp37 gl (d + 8) (by omega) len f sh l hs hv1
    rw [decide_eq_false fun h => hv ⟨hv1, h⟩] at c49
    simp only [purse] at c37
    simp (disch := ((fail_if_success (intro _)); omega)) only [go_sem, reduceIte, Nat.reduceEqDiff, Nat.reduceAdd, Nat.reduceSub, Nat.reduceMul, Nat.reduceDiv, Nat.reduceMod, Nat.reduceLT, Nat.reduceLeDiff, Nat.reduceBEq, Nat.reduceBNe, Int.reduceLE, Int.reduceLT, Int.reduceToNat, Int.reduceEq, Int.reduceBEq, Int.reduceBNe, Int.reduceNeg, Int.reduceSub, Int.reduceMul, Int.reduceAdd, BitVec.reduceOfInt, reduceCtorEq, ↓reduceIte, tn_add, tn_mul, tn_sub, tn_one, tn_zero, w64, ltN_t, ltN_f, leN_t, leN_f, ltI_t, ltI_f, leI_t, leI_f, eqN_t, eqN_f, eqI_t, eqI_f, beq_t, beq_f, bne_t, bne_f, cast_add, fd30, m30, purse, c37, c49, rows_nil]
  · have c37 := @nvp37 gl (d + 8) (by omega) len f sh l hs hl hv1
    simp only [purse] at c37
    simp (disch := ((fail_if_success (intro _)); omega)) only [go_sem, reduceIte, Nat.reduceEqDiff, Nat.reduceAdd, Nat.reduceSub, Nat.reduceMul, Nat.reduceDiv, Nat.reduceMod, Nat.reduceLT, Nat.reduceLeDiff, Nat.reduceBEq, Nat.reduceBNe, Int.reduceLE, Int.reduceLT, Int.reduceToNat, Int.reduceEq, Int.reduceBEq, Int.reduceBNe, Int.reduceNeg, Int.reduceSub, Int.reduceMul, Int.reduceAdd, BitVec.reduceOfInt, reduceCtorEq, ↓reduceIte, tn_add, tn_mul, tn_sub, tn_one, tn_zero, w64, ltN_t, ltN_f, leN_t, leN_f, ltI_t, ltI_f, leI_t, leI_f, eqN_t, eqN_f, eqI_t, eqI_f, beq_t, beq_f, bne_t, bne_f, cast_add, fd30, m30, purse, c37, c49, rows_nil]
theorem spend_time (h : 9 ≤ n) (hv : VP len l) (hp : PV p q) (hr : ¬ q / len = p / len) : call gl tab n 30 [purse len f sh l, .agg [i64 p, i64 q]] [] = some (.tup [purse0, i64 9], [], []) := by
  obtain ⟨d, rfl⟩ := Nat.exists_eq_add_of_le' h
  have c37 := @vp37 gl (d + 8) (by omega) len f sh l hs hv
  have c49 := @pvalid_at gl (d + 8) (by omega) p q
  obtain ⟨hn1, hn2⟩ := hv.n
  obtain ⟨p1, p2, p3⟩ := hp
  rw [decide_eq_true (show PV p q from ⟨p1, p2, p3⟩)] at c49
  obtain ⟨w1, w2⟩ := quo_ok hn1 ⟨p1, by omega⟩
  obtain ⟨w3, w4⟩ := quo_ok hn1 (show 0 ≤ q ∧ q ≤ 1099511627776 by omega)
  have hl0 : ¬ len = 0 := by omega
  have hne : (q / len == p / len) = false := by simpa using hr
  simp only [purse] at c37 ⊢
  rw [call_go (fd := fd30) rfl]
  simp (disch := ((fail_if_success (intro _)); omega)) only [go_sem, reduceIte, Nat.reduceEqDiff, Nat.reduceAdd, Nat.reduceSub, Nat.reduceMul, Nat.reduceDiv, Nat.reduceMod, Nat.reduceLT, Nat.reduceLeDiff, Nat.reduceBEq, Nat.reduceBNe, Int.reduceLE, Int.reduceLT, Int.reduceToNat, Int.reduceEq, Int.reduceBEq, Int.reduceBNe, Int.reduceNeg, Int.reduceSub, Int.reduceMul, Int.reduceAdd, BitVec.reduceOfInt, reduceCtorEq, ↓reduceIte, tn_add, tn_mul, tn_sub, tn_one, tn_zero, w64, ltN_t, ltN_f, leN_t, leN_f, ltI_t, ltI_f, leI_t, leI_f, eqN_t, eqN_f, eqI_t, eqI_f, beq_t, beq_f, bne_t, bne_f, cast_add, fd30, m30, c37, c49, binInt, hl0, w1, w3, rows_nil, hne, bne]
theorem spend_state (h : 9 ≤ n) (hv : VP len l) (hp : PV p q) (hr : q / len = p / len) (hk : Lb l (keyW (p / len)) k) (h0 : leftF (coinOr l k (keyW (p / len))) = 0) :
    call gl tab n 30 [purse len f sh l, .agg [i64 p, i64 q]] [] = some (.tup [purse0, i64 4], [], []) := by
  obtain ⟨d, rfl⟩ := Nat.exists_eq_add_of_le' h
  have c37 := @vp37 gl (d + 8) (by omega) len f sh l hs hv
  have c49 := @pvalid_at gl (d + 8) (by omega) p q
  obtain ⟨hn1, hn2⟩ := hv.n
  obtain ⟨p1, p2, p3⟩ := hp
  rw [decide_eq_true (show PV p q from ⟨p1, p2, p3⟩)] at c49
  obtain ⟨w1, w2⟩ := quo_ok hn1 ⟨p1, by omega⟩
  obtain ⟨w3, w4⟩ := quo_ok hn1 (show 0 ≤ q ∧ q ≤ 1099511627776 by omega)
  have hl0 : ¬ len = 0 := by omega
  have c26 := @left_t gl (d + 8) (by omega) len f sh l hs (p / len) hv k hk
  rw [h0] at c26
  simp only [purse] at c37 c26 ⊢
  rw [call_go (fd := fd30) rfl]
  simp (disch := ((fail_if_success (intro _)); omega)) only [go_sem, reduceIte, Nat.reduceEqDiff, Nat.reduceAdd, Nat.reduceSub, Nat.reduceMul, Nat.reduceDiv, Nat.reduceMod, Nat.reduceLT, Nat.reduceLeDiff, Nat.reduceBEq, Nat.reduceBNe, Int.reduceLE, Int.reduceLT, Int.reduceToNat, Int.reduceEq, Int.reduceBEq, Int.reduceBNe, Int.reduceNeg, Int.reduceSub, Int.reduceMul, Int.reduceAdd, BitVec.reduceOfInt, reduceCtorEq, ↓reduceIte, tn_add, tn_mul, tn_sub, tn_one, tn_zero, w64, ltN_t, ltN_f, leN_t, leN_f, ltI_t, ltI_f, leI_t, leI_f, eqN_t, eqN_f, eqI_t, eqI_f, beq_t, beq_f, bne_t, bne_f, cast_add, fd30, m30, c37, c49, c26, binInt, hl0, w1, w3, rows_nil, hr, bne]
theorem spend_ok (h : 9 ≤ n) (hv : VP len l) (hp : PV p q) (hr : q / len = p / len) (hk : Lb l (keyW (p / len)) k) (h0 : ¬ leftF (coinOr l k (keyW (p / len))) = 0) :
    call gl tab n 30 [purse len f sh l, .agg [i64 p, i64 q]] [] = some (.tup [purse len false sR (putL l k (spentC (coinOr l k (keyW (p / len))))), i64 0], [], []) := by
  obtain ⟨d, rfl⟩ := Nat.exists_eq_add_of_le' h
  have c37 := @vp37 gl (d + 8) (by omega) len f sh l hs hv
  have c49 := @pvalid_at gl (d + 8) (by omega) p q
  obtain ⟨hn1, hn2⟩ := hv.n
  obtain ⟨p1, p2, p3⟩ := hp
  rw [decide_eq_true (show PV p q from ⟨p1, p2, p3⟩)] at c49
  obtain ⟨w1, w2⟩ := quo_ok hn1 ⟨p1, by omega⟩
  obtain ⟨w3, w4⟩ := quo_ok hn1 (show 0 ≤ q ∧ q ≤ 1099511627776 by omega)
  have hl0 : ¬ len = 0 := by omega
  have c26 := @left_t gl (d + 8) (by omega) len f sh l hs (p / len) hv k hk
  have hne : (leftF (coinOr l k (keyW (p / len))) == 0) = false := by simpa using h0
  have c61 := @coinOf_at gl (d + 8) (by omega) len f sh l hs (by have := hv.r; omega) (vp_asc hv) (p / len) k hk
  have c62 := @with_at gl (d + 8) (by omega) len f sh l hs hl (vp_asc hv) (spentC (coinOr l k (keyW (p / len)))) k (lb_key hk (coin_key l k (p / len)))
  have hbd := coin_bd hv k (p / len)
  have e1 := coin_key l k (p / len)
  simp only [keyW] at e1 c61 c62 c26 hne hbd ⊢
  simp only [purse, Q4.av, spentC, e1] at c37 c61 c62 c26 ⊢
  rw [call_go (fd := fd30) rfl]
  simp (disch := ((fail_if_success (intro _)); omega)) only [go_sem, reduceIte, Nat.reduceEqDiff, Nat.reduceAdd, Nat.reduceSub, Nat.reduceMul, Nat.reduceDiv, Nat.reduceMod, Nat.reduceLT, Nat.reduceLeDiff, Nat.reduceBEq, Nat.reduceBNe, Int.reduceLE, Int.reduceLT, Int.reduceToNat, Int.reduceEq, Int.reduceBEq, Int.reduceBNe, Int.reduceNeg, Int.reduceSub, Int.reduceMul, Int.reduceAdd, BitVec.reduceOfInt, reduceCtorEq, ↓reduceIte, tn_add, tn_mul, tn_sub, tn_one, tn_zero, w64, ltN_t, ltN_f, leN_t, leN_f, ltI_t, ltI_f, leI_t, leI_f, eqN_t, eqN_f, eqI_t, eqI_f, beq_t, beq_f, bne_t, bne_f, cast_add, fd30, m30, c37, c49, c26, c61, c62, binInt, hl0, w1, w3, rows_length, e1, hne, hr, bne]
theorem rreceive_inv (h : 6 ≤ n) (hv : ¬ VP len l) : call gl tab n 33 [purse len f sh l, i64 w, i64 m] [] = some (.agg [purse0, i64 1], [], []) := by
  obtain ⟨d, rfl⟩ := Nat.exists_eq_add_of_le' h
  have c37 := @nvp38 gl (d + 5) (by omega) len f sh l hs hl hv
  have c43 := @rwindow_at gl (d + 5) (by omega)
  simp only [purse] at c37
  rw [call_go (fd := fd33) rfl]
  simp (disch := ((fail_if_success (intro _)); omega)) only [go_sem, reduceIte, Nat.reduceEqDiff, Nat.reduceAdd, Nat.reduceSub, Nat.reduceMul, Nat.reduceDiv, Nat.reduceMod, Nat.reduceLT, Nat.reduceLeDiff, Nat.reduceBEq, Nat.reduceBNe, Int.reduceLE, Int.reduceLT, Int.reduceToNat, Int.reduceEq, Int.reduceBEq, Int.reduceBNe, Int.reduceNeg, Int.reduceSub, Int.reduceMul, Int.reduceAdd, BitVec.reduceOfInt, reduceCtorEq, ↓reduceIte, tn_add, tn_mul, tn_sub, tn_one, tn_zero, w64, ltN_t, ltN_f, leN_t, leN_f, ltI_t, ltI_f, leI_t, leI_f, eqN_t, eqN_f, eqI_t, eqI_f, beq_t, beq_f, bne_t, bne_f, cast_add, fd33, m33, purse, c37, c43, rows_nil]
theorem rgive_inv (h : 6 ≤ n) (hv : ¬ VP len l) : call gl tab n 35 [purse len f sh l, i64 w, i64 m] [] = some (.agg [purse0, i64 1], [], []) := by
  obtain ⟨d, rfl⟩ := Nat.exists_eq_add_of_le' h
  have c37 := @nvp38 gl (d + 5) (by omega) len f sh l hs hl hv
  have c43 := @rwindow_at gl (d + 5) (by omega)
  simp only [purse] at c37
  rw [call_go (fd := fd35) rfl]
  simp (disch := ((fail_if_success (intro _)); omega)) only [go_sem, reduceIte, Nat.reduceEqDiff, Nat.reduceAdd, Nat.reduceSub, Nat.reduceMul, Nat.reduceDiv, Nat.reduceMod, Nat.reduceLT, Nat.reduceLeDiff, Nat.reduceBEq, Nat.reduceBNe, Int.reduceLE, Int.reduceLT, Int.reduceToNat, Int.reduceEq, Int.reduceBEq, Int.reduceBNe, Int.reduceNeg, Int.reduceSub, Int.reduceMul, Int.reduceAdd, BitVec.reduceOfInt, reduceCtorEq, ↓reduceIte, tn_add, tn_mul, tn_sub, tn_one, tn_zero, w64, ltN_t, ltN_f, leN_t, leN_f, ltI_t, ltI_f, leI_t, leI_f, eqN_t, eqN_f, eqI_t, eqI_f, beq_t, beq_f, bne_t, bne_f, cast_add, fd35, m35, purse, c37, c43, rows_nil]
theorem rreceive_arg (h : 6 ≤ n) (hv : VP len l) (ha : ¬ CArg w m) : call gl tab n 33 [purse len f sh l, i64 w, i64 m] [] = some (.agg [purse0, i64 1], [], []) := by
  obtain ⟨d, rfl⟩ := Nat.exists_eq_add_of_le' h
  have c37 := @vp38 gl (d + 5) (by omega) len f sh l hs hv
  have c43 := @rwindow_at gl (d + 5) (by omega)
  simp only [purse] at c37
  rw [call_go (fd := fd33) rfl]
  cases hA : (decide (0 ≤ w) && decide (w ≤ 1099511627776))
  · simp (disch := ((fail_if_success (intro _)); omega)) only [go_sem, reduceIte, Nat.reduceEqDiff, Nat.reduceAdd, Nat.reduceSub, Nat.reduceMul, Nat.reduceDiv, Nat.reduceMod, Nat.reduceLT, Nat.reduceLeDiff, Nat.reduceBEq, Nat.reduceBNe, Int.reduceLE, Int.reduceLT, Int.reduceToNat, Int.reduceEq, Int.reduceBEq, Int.reduceBNe, Int.reduceNeg, Int.reduceSub, Int.reduceMul, Int.reduceAdd, BitVec.reduceOfInt, reduceCtorEq, ↓reduceIte, tn_add, tn_mul, tn_sub, tn_one, tn_zero, w64, ltN_t, ltN_f, leN_t, leN_f, ltI_t, ltI_f, leI_t, leI_f, eqN_t, eqN_f, eqI_t, eqI_f, beq_t, beq_f, bne_t, bne_f, cast_add, fd33, m33, purse, c37, c43, rows_nil, hA]
  by_cases h1 : 0 ≤ m
  case neg => simp (disch := ((fail_if_success (intro _)); omega)) only [go_sem, reduceIte, Nat.reduceEqDiff, Nat.reduceAdd, Nat.reduceSub, Nat.reduceMul, Nat.reduceDiv, Nat.reduceMod, Nat.reduceLT, Nat.reduceLeDiff, Nat.reduceBEq, Nat.reduceBNe, Int.reduceLE, Int.reduceLT, Int.reduceToNat, Int.reduceEq, Int.reduceBEq, Int.reduceBNe, Int.reduceNeg, Int.reduceSub, Int.reduceMul, Int.reduceAdd, BitVec.reduceOfInt, reduceCtorEq, ↓reduceIte, tn_add, tn_mul, tn_sub, tn_one, tn_zero, w64, ltN_t, ltN_f, leN_t, leN_f, ltI_t, ltI_f, leI_t, leI_f, eqN_t, eqN_f, eqI_t, eqI_f, beq_t, beq_f, bne_t, bne_f, cast_add, fd33, m33, purse, c37, c43, rows_nil, hA]
  by_cases h2 : m ≤ 1099511627776
  case neg => simp (disch := ((fail_if_success (intro _)); omega)) only [go_sem, reduceIte, Nat.reduceEqDiff, Nat.reduceAdd, Nat.reduceSub, Nat.reduceMul, Nat.reduceDiv, Nat.reduceMod, Nat.reduceLT, Nat.reduceLeDiff, Nat.reduceBEq, Nat.reduceBNe, Int.reduceLE, Int.reduceLT, Int.reduceToNat, Int.reduceEq, Int.reduceBEq, Int.reduceBNe, Int.reduceNeg, Int.reduceSub, Int.reduceMul, Int.reduceAdd, BitVec.reduceOfInt, reduceCtorEq, ↓reduceIte, tn_add, tn_mul, tn_sub, tn_one, tn_zero, w64, ltN_t, ltN_f, leN_t, leN_f, ltI_t, ltI_f, leI_t, leI_f, eqN_t, eqN_f, eqI_t, eqI_f, beq_t, beq_f, bne_t, bne_f, cast_add, fd33, m33, purse, c37, c43, rows_nil, hA]
  simp only [Bool.and_eq_true, decide_eq_true_eq] at hA
  exact absurd ⟨hA, h1, h2⟩ ha
theorem rgive_arg (h : 6 ≤ n) (hv : VP len l) (ha : ¬ GArg w m) : call gl tab n 35 [purse len f sh l, i64 w, i64 m] [] = some (.agg [purse0, i64 1], [], []) := by
  obtain ⟨d, rfl⟩ := Nat.exists_eq_add_of_le' h
  have c37 := @vp38 gl (d + 5) (by omega) len f sh l hs hv
  have c43 := @rwindow_at gl (d + 5) (by omega)
  simp only [purse] at c37
  rw [call_go (fd := fd35) rfl]
  cases hA : (decide (0 ≤ w) && decide (w ≤ 1099511627776))
  · simp (disch := ((fail_if_success (intro _)); omega)) only [go_sem, reduceIte, Nat.reduceEqDiff, Nat.reduceAdd, Nat.reduceSub, Nat.reduceMul, Nat.reduceDiv, Nat.reduceMod, Nat.reduceLT, Nat.reduceLeDiff, Nat.reduceBEq, Nat.reduceBNe, Int.reduceLE, Int.reduceLT, Int.reduceToNat, Int.reduceEq, Int.reduceBEq, Int.reduceBNe, Int.reduceNeg, Int.reduceSub, Int.reduceMul, Int.reduceAdd, BitVec.reduceOfInt, reduceCtorEq, ↓reduceIte, tn_add, tn_mul, tn_sub, tn_one, tn_zero, w64, ltN_t, ltN_f, leN_t, leN_f, ltI_t, ltI_f, leI_t, leI_f, eqN_t, eqN_f, eqI_t, eqI_f, beq_t, beq_f, bne_t, bne_f, cast_add, fd35, m35, purse, c37, c43, rows_nil, hA]
  by_cases h1 : 1 ≤ m
  case neg => simp (disch := ((fail_if_success (intro _)); omega)) only [go_sem, reduceIte, Nat.reduceEqDiff, Nat.reduceAdd, Nat.reduceSub, Nat.reduceMul, Nat.reduceDiv, Nat.reduceMod, Nat.reduceLT, Nat.reduceLeDiff, Nat.reduceBEq, Nat.reduceBNe, Int.reduceLE, Int.reduceLT, Int.reduceToNat, Int.reduceEq, Int.reduceBEq, Int.reduceBNe, Int.reduceNeg, Int.reduceSub, Int.reduceMul, Int.reduceAdd, BitVec.reduceOfInt, reduceCtorEq, ↓reduceIte, tn_add, tn_mul, tn_sub, tn_one, tn_zero, w64, ltN_t, ltN_f, leN_t, leN_f, ltI_t, ltI_f, leI_t, leI_f, eqN_t, eqN_f, eqI_t, eqI_f, beq_t, beq_f, bne_t, bne_f, cast_add, fd35, m35, purse, c37, c43, rows_nil, hA]
  by_cases h2 : m ≤ 1073741824
  case neg => simp (disch := ((fail_if_success (intro _)); omega)) only [go_sem, reduceIte, Nat.reduceEqDiff, Nat.reduceAdd, Nat.reduceSub, Nat.reduceMul, Nat.reduceDiv, Nat.reduceMod, Nat.reduceLT, Nat.reduceLeDiff, Nat.reduceBEq, Nat.reduceBNe, Int.reduceLE, Int.reduceLT, Int.reduceToNat, Int.reduceEq, Int.reduceBEq, Int.reduceBNe, Int.reduceNeg, Int.reduceSub, Int.reduceMul, Int.reduceAdd, BitVec.reduceOfInt, reduceCtorEq, ↓reduceIte, tn_add, tn_mul, tn_sub, tn_one, tn_zero, w64, ltN_t, ltN_f, leN_t, leN_f, ltI_t, ltI_f, leI_t, leI_f, eqN_t, eqN_f, eqI_t, eqI_f, beq_t, beq_f, bne_t, bne_f, cast_add, fd35, m35, purse, c37, c43, rows_nil, hA]
  simp only [Bool.and_eq_true, decide_eq_true_eq] at hA
  exact absurd ⟨hA, h1, h2⟩ ha
theorem rreceive_same (h : 6 ≤ n) (hv : VP len l) (ha : CArg w m) (hk : Lb l (keyW w) k) (hr : m ≤ (coinOr l k (keyW w)).g) : call gl tab n 33 [purse len f sh l, i64 w, i64 m] [] = some (.agg [purse len f sh l, i64 0], [], []) := by
  obtain ⟨d, rfl⟩ := Nat.exists_eq_add_of_le' h
  have c37 := @vp38 gl (d + 5) (by omega) len f sh l hs hv
  have c43 := @rwindow_at gl (d + 5) (by omega)
  have c61 := @coin_at gl (d + 5) (by omega) len f sh l hs (by have := hv.r; omega) (vp_asc hv) w k hk
  obtain ⟨⟨a1, a2⟩, ⟨a3, a4⟩⟩ := ha
  have e1 := coin_key l k w
  simp only [purse, Q4.av, e1] at c37 c61 ⊢
  generalize coinOr l k (keyW w) = x at *
  rw [call_go (fd := fd33) rfl]
  simp (disch := ((fail_if_success (intro _)); omega)) only [go_sem, reduceIte, Nat.reduceEqDiff, Nat.reduceAdd, Nat.reduceSub, Nat.reduceMul, Nat.reduceDiv, Nat.reduceMod, Nat.reduceLT, Nat.reduceLeDiff, Nat.reduceBEq, Nat.reduceBNe, Int.reduceLE, Int.reduceLT, Int.reduceToNat, Int.reduceEq, Int.reduceBEq, Int.reduceBNe, Int.reduceNeg, Int.reduceSub, Int.reduceMul, Int.reduceAdd, BitVec.reduceOfInt, reduceCtorEq, ↓reduceIte, tn_add, tn_mul, tn_sub, tn_one, tn_zero, w64, ltN_t, ltN_f, leN_t, leN_f, ltI_t, ltI_f, leI_t, leI_f, eqN_t, eqN_f, eqI_t, eqI_f, beq_t, beq_f, bne_t, bne_f, cast_add, fd33, m33, c37, c43, c61, rows_length]
theorem rreceive_lim (h : 6 ≤ n) (hv : VP len l) (ha : CArg w m) (hk : Lb l (keyW w) k) (hr : ¬ m ≤ (coinOr l k (keyW w)).g) (hn : ¬ Kc l k w) (h4 : l.length = 10000) : call gl tab n 33 [purse len f sh l, i64 w, i64 m] [] = some (.agg [purse0, i64 2], [], []) := by
  obtain ⟨d, rfl⟩ := Nat.exists_eq_add_of_le' h
  have c37 := @vp38 gl (d + 5) (by omega) len f sh l hs hv
  have c43 := @rwindow_at gl (d + 5) (by omega)
  have c61 := @coin_at gl (d + 5) (by omega) len f sh l hs (by have := hv.r; omega) (vp_asc hv) w k hk
  obtain ⟨⟨a1, a2⟩, ⟨a3, a4⟩⟩ := ha
  have e1 := coin_key l k w
  have hkn2 : ¬ (k < l.length ∧ (at' l k).cmpW (keyW w) = 0) := hn
  simp only [hkn2, decide_false] at c61
  simp only [purse, Q4.av, e1] at c37 c61 ⊢
  generalize coinOr l k (keyW w) = x at *
  rw [call_go (fd := fd33) rfl]
  simp (disch := ((fail_if_success (intro _)); omega)) only [go_sem, reduceIte, Nat.reduceEqDiff, Nat.reduceAdd, Nat.reduceSub, Nat.reduceMul, Nat.reduceDiv, Nat.reduceMod, Nat.reduceLT, Nat.reduceLeDiff, Nat.reduceBEq, Nat.reduceBNe, Int.reduceLE, Int.reduceLT, Int.reduceToNat, Int.reduceEq, Int.reduceBEq, Int.reduceBNe, Int.reduceNeg, Int.reduceSub, Int.reduceMul, Int.reduceAdd, BitVec.reduceOfInt, reduceCtorEq, ↓reduceIte, tn_add, tn_mul, tn_sub, tn_one, tn_zero, w64, ltN_t, ltN_f, leN_t, leN_f, ltI_t, ltI_f, leI_t, leI_f, eqN_t, eqN_f, eqI_t, eqI_f, beq_t, beq_f, bne_t, bne_f, cast_add, fd33, m33, c37, c43, c61, rows_length, rows_nil]
theorem rreceive_ok (h : 6 ≤ n) (hv : VP len l) (ha : CArg w m) (hk : Lb l (keyW w) k) (hr : ¬ m ≤ (coinOr l k (keyW w)).g) (hn : Kc l k w ∨ l.length ≠ 10000) :
    call gl tab n 33 [purse len f sh l, i64 w, i64 m] [] = some (.agg [purse len false sR (putL l k (gotC (coinOr l k (keyW w)) m)), i64 0], [], []) := by
  obtain ⟨d, rfl⟩ := Nat.exists_eq_add_of_le' h
  have c37 := @vp38 gl (d + 5) (by omega) len f sh l hs hv
  have c43 := @rwindow_at gl (d + 5) (by omega)
  have c61 := @coin_at gl (d + 5) (by omega) len f sh l hs (by have := hv.r; omega) (vp_asc hv) w k hk
  have c62 := @put_at gl (d + 5) (by omega) len f sh l hs hl (vp_asc hv) (gotC (coinOr l k (keyW w)) m) k (lb_key hk (coin_key l k w))
  have hr0 := hv.r
  obtain ⟨⟨a1, a2⟩, ⟨a3, a4⟩⟩ := ha
  have e1 := coin_key l k w
  rw [call_go (fd := fd33) rfl]
  by_cases hkn : Kc l k w
  · have hkn2 : (k < l.length ∧ (at' l k).cmpW (keyW w) = 0) := hkn
    simp only [hkn2, and_self, decide_true] at c61
    simp only [keyW] at e1 c61 c62 hr ⊢
    simp only [purse, Q4.av, gotC, e1] at c37 c61 c62 ⊢
    simp (disch := ((fail_if_success (intro _)); omega)) only [go_sem, reduceIte, Nat.reduceEqDiff, Nat.reduceAdd, Nat.reduceSub, Nat.reduceMul, Nat.reduceDiv, Nat.reduceMod, Nat.reduceLT, Nat.reduceLeDiff, Nat.reduceBEq, Nat.reduceBNe, Int.reduceLE, Int.reduceLT, Int.reduceToNat, Int.reduceEq, Int.reduceBEq, Int.reduceBNe, Int.reduceNeg, Int.reduceSub, Int.reduceMul, Int.reduceAdd, BitVec.reduceOfInt, reduceCtorEq, ↓reduceIte, tn_add, tn_mul, tn_sub, tn_one, tn_zero, w64, ltN_t, ltN_f, leN_t, leN_f, ltI_t, ltI_f, leI_t, leI_f, eqN_t, eqN_f, eqI_t, eqI_f, beq_t, beq_f, bne_t, bne_f, cast_add, fd33, m33, c37, c43, c61, c62, rows_length, e1]
  · have hkn2 : ¬ (k < l.length ∧ (at' l k).cmpW (keyW w) = 0) := hkn
    simp only [hkn2, decide_false] at c61
    have r4 : l.length ≠ 10000 := hn.resolve_left hkn
    simp only [keyW] at e1 c61 c62 hr ⊢
    simp only [purse, Q4.av, gotC, e1] at c37 c61 c62 ⊢
    simp (disch := ((fail_if_success (intro _)); omega)) only [go_sem, reduceIte, Nat.reduceEqDiff, Nat.reduceAdd, Nat.reduceSub, Nat.reduceMul, Nat.reduceDiv, Nat.reduceMod, Nat.reduceLT, Nat.reduceLeDiff, Nat.reduceBEq, Nat.reduceBNe, Int.reduceLE, Int.reduceLT, Int.reduceToNat, Int.reduceEq, Int.reduceBEq, Int.reduceBNe, Int.reduceNeg, Int.reduceSub, Int.reduceMul, Int.reduceAdd, BitVec.reduceOfInt, reduceCtorEq, ↓reduceIte, tn_add, tn_mul, tn_sub, tn_one, tn_zero, w64, ltN_t, ltN_f, leN_t, leN_f, ltI_t, ltI_f, leI_t, leI_f, eqN_t, eqN_f, eqI_t, eqI_f, beq_t, beq_f, bne_t, bne_f, cast_add, fd33, m33, c37, c43, c61, c62, rows_length, e1]
theorem rgive_state (h : 6 ≤ n) (hv : VP len l) (ha : GArg w m) (hk : Lb l (keyW w) k) (hr : ¬ m ≤ leftF (coinOr l k (keyW w))) : call gl tab n 35 [purse len f sh l, i64 w, i64 m] [] = some (.agg [purse0, i64 4], [], []) := by
  obtain ⟨d, rfl⟩ := Nat.exists_eq_add_of_le' h
  have c37 := @vp38 gl (d + 5) (by omega) len f sh l hs hv
  have c43 := @rwindow_at gl (d + 5) (by omega)
  have c26 := @rleft_t gl (d + 5) (by omega) len f sh l hs w hv k hk
  obtain ⟨⟨a1, a2⟩, ⟨a3, a4⟩⟩ := ha
  simp only [purse] at c37 c26 ⊢
  generalize leftF (coinOr l k (keyW w)) = x at *
  rw [call_go (fd := fd35) rfl]
  simp (disch := ((fail_if_success (intro _)); omega)) only [go_sem, reduceIte, Nat.reduceEqDiff, Nat.reduceAdd, Nat.reduceSub, Nat.reduceMul, Nat.reduceDiv, Nat.reduceMod, Nat.reduceLT, Nat.reduceLeDiff, Nat.reduceBEq, Nat.reduceBNe, Int.reduceLE, Int.reduceLT, Int.reduceToNat, Int.reduceEq, Int.reduceBEq, Int.reduceBNe, Int.reduceNeg, Int.reduceSub, Int.reduceMul, Int.reduceAdd, BitVec.reduceOfInt, reduceCtorEq, ↓reduceIte, tn_add, tn_mul, tn_sub, tn_one, tn_zero, w64, ltN_t, ltN_f, leN_t, leN_f, ltI_t, ltI_f, leI_t, leI_f, eqN_t, eqN_f, eqI_t, eqI_f, beq_t, beq_f, bne_t, bne_f, cast_add, fd35, m35, c37, c43, c26, rows_length, rows_nil]
theorem rgive_ok (h : 6 ≤ n) (hv : VP len l) (ha : GArg w m) (hk : Lb l (keyW w) k) (hr : m ≤ leftF (coinOr l k (keyW w))) :
    call gl tab n 35 [purse len f sh l, i64 w, i64 m] [] = some (.agg [purse len false sR (putL l k (backC (coinOr l k (keyW w)) m)), i64 0], [], []) := by
  obtain ⟨d, rfl⟩ := Nat.exists_eq_add_of_le' h
  have c37 := @vp38 gl (d + 5) (by omega) len f sh l hs hv
  have c43 := @rwindow_at gl (d + 5) (by omega)
  have c26 := @rleft_t gl (d + 5) (by omega) len f sh l hs w hv k hk
  have c61 := @coin_at gl (d + 5) (by omega) len f sh l hs (by have := hv.r; omega) (vp_asc hv) w k hk
  have c62 := @put_at gl (d + 5) (by omega) len f sh l hs hl (vp_asc hv) (backC (coinOr l k (keyW w)) m) k (lb_key hk (coin_key l k w))
  have hbd := coin_bd hv k w
  obtain ⟨⟨a1, a2⟩, ⟨a3, a4⟩⟩ := ha
  have e1 := coin_key l k w
  simp only [keyW] at e1 c61 c62 c26 hr hbd ⊢
  simp only [purse, Q4.av, backC, e1, leftF] at c37 c61 c62 c26 hr ⊢
  rw [call_go (fd := fd35) rfl]
  simp (disch := ((fail_if_success (intro _)); omega)) only [go_sem, reduceIte, Nat.reduceEqDiff, Nat.reduceAdd, Nat.reduceSub, Nat.reduceMul, Nat.reduceDiv, Nat.reduceMod, Nat.reduceLT, Nat.reduceLeDiff, Nat.reduceBEq, Nat.reduceBNe, Int.reduceLE, Int.reduceLT, Int.reduceToNat, Int.reduceEq, Int.reduceBEq, Int.reduceBNe, Int.reduceNeg, Int.reduceSub, Int.reduceMul, Int.reduceAdd, BitVec.reduceOfInt, reduceCtorEq, ↓reduceIte, tn_add, tn_mul, tn_sub, tn_one, tn_zero, w64, ltN_t, ltN_f, leN_t, leN_f, ltI_t, ltI_f, leI_t, leI_f, eqN_t, eqN_f, eqI_t, eqI_f, beq_t, beq_f, bne_t, bne_f, cast_add, fd35, m35, c37, c43, c61, c62, c26, rows_length, e1]
theorem rspend_f (h : 6 ≤ n) (hv : ¬ (VP len l ∧ PV p q)) : call gl tab n 34 [purse len f sh l, .agg [i64 p, i64 q]] [] = some (.agg [purse0, i64 1], [], []) := by
  obtain ⟨d, rfl⟩ := Nat.exists_eq_add_of_le' h
  have c49 := @rpvalid_at gl (d + 5) (by omega) p q
  rw [call_go (fd := fd34) rfl]
  by_cases hv1 : VP len l
  · have c37 := @vp38 gl (d + 5) (by omega) len f sh l hs hv1
    rw [decide_eq_false fun h => hv ⟨hv1, h⟩] at c49
    simp only [purse] at c37
    simp (disch := ((fail_if_success (intro _)); omega)) only [go_sem, reduceIte, Nat.reduceEqDiff, Nat.reduceAdd, Nat.reduceSub, Nat.reduceMul, Nat.reduceDiv, Nat.reduceMod, Nat.reduceLT, Nat.reduceLeDiff, Nat.reduceBEq, Nat.reduceBNe, Int.reduceLE, Int.reduceLT, Int.reduceToNat, Int.reduceEq, Int.reduceBEq, Int.reduceBNe, Int.reduceNeg, Int.reduceSub, Int.reduceMul, Int.reduceAdd, BitVec.reduceOfInt, reduceCtorEq, ↓reduceIte, tn_add, tn_mul, tn_sub, tn_one, tn_zero, w64, ltN_t, ltN_f, leN_t, leN_f, ltI_t, ltI_f, leI_t, leI_f, eqN_t, eqN_f, eqI_t, eqI_f, beq_t, beq_f, bne_t, bne_f, cast_add, fd34, m34, purse, c37, c49, rows_nil]
  · have c37 := @nvp38 gl (d + 5) (by omega) len f sh l hs hl hv1
    simp only [purse] at c37
    simp (disch := ((fail_if_success (intro _)); omega)) only [go_sem, reduceIte, Nat.reduceEqDiff, Nat.reduceAdd, Nat.reduceSub, Nat.reduceMul, Nat.reduceDiv, Nat.reduceMod, Nat.reduceLT, Nat.reduceLeDiff, Nat.reduceBEq, Nat.reduceBNe, Int.reduceLE, Int.reduceLT, Int.reduceToNat, Int.reduceEq, Int.reduceBEq, Int.reduceBNe, Int.reduceNeg, Int.reduceSub, Int.reduceMul, Int.reduceAdd, BitVec.reduceOfInt, reduceCtorEq, ↓reduceIte, tn_add, tn_mul, tn_sub, tn_one, tn_zero, w64, ltN_t, ltN_f, leN_t, leN_f, ltI_t, ltI_f, leI_t, leI_f, eqN_t, eqN_f, eqI_t, eqI_f, beq_t, beq_f, bne_t, bne_f, cast_add, fd34, m34, purse, c37, c49, rows_nil]
theorem rspend_time (h : 6 ≤ n) (hv : VP len l) (hp : PV p q) (hr : ¬ q / len = p / len) : call gl tab n 34 [purse len f sh l, .agg [i64 p, i64 q]] [] = some (.agg [purse0, i64 9], [], []) := by
  obtain ⟨d, rfl⟩ := Nat.exists_eq_add_of_le' h
  have c37 := @vp38 gl (d + 5) (by omega) len f sh l hs hv
  have c49 := @rpvalid_at gl (d + 5) (by omega) p q
  obtain ⟨hn1, hn2⟩ := hv.n
  obtain ⟨p1, p2, p3⟩ := hp
  rw [decide_eq_true (show PV p q from ⟨p1, p2, p3⟩)] at c49
  obtain ⟨w1, w2⟩ := quo_ok hn1 ⟨p1, by omega⟩
  obtain ⟨w3, w4⟩ := quo_ok hn1 (show 0 ≤ q ∧ q ≤ 1099511627776 by omega)
  have hl0 : ¬ len = 0 := by omega
  have hne : (q / len == p / len) = false := by simpa using hr
  simp only [purse] at c37 ⊢
  rw [call_go (fd := fd34) rfl]
  simp (disch := ((fail_if_success (intro _)); omega)) only [go_sem, reduceIte, Nat.reduceEqDiff, Nat.reduceAdd, Nat.reduceSub, Nat.reduceMul, Nat.reduceDiv, Nat.reduceMod, Nat.reduceLT, Nat.reduceLeDiff, Nat.reduceBEq, Nat.reduceBNe, Int.reduceLE, Int.reduceLT, Int.reduceToNat, Int.reduceEq, Int.reduceBEq, Int.reduceBNe, Int.reduceNeg, Int.reduceSub, Int.reduceMul, Int.reduceAdd, BitVec.reduceOfInt, reduceCtorEq, ↓reduceIte, tn_add, tn_mul, tn_sub, tn_one, tn_zero, w64, ltN_t, ltN_f, leN_t, leN_f, ltI_t, ltI_f, leI_t, leI_f, eqN_t, eqN_f, eqI_t, eqI_f, beq_t, beq_f, bne_t, bne_f, cast_add, fd34, m34, c37, c49, binInt, hl0, w1, w3, rows_nil, hne, bne]
theorem rspend_state (h : 6 ≤ n) (hv : VP len l) (hp : PV p q) (hr : q / len = p / len) (hk : Lb l (keyW (p / len)) k) (h0 : leftF (coinOr l k (keyW (p / len))) = 0) :
    call gl tab n 34 [purse len f sh l, .agg [i64 p, i64 q]] [] = some (.agg [purse0, i64 4], [], []) := by
  obtain ⟨d, rfl⟩ := Nat.exists_eq_add_of_le' h
  have c37 := @vp38 gl (d + 5) (by omega) len f sh l hs hv
  have c49 := @rpvalid_at gl (d + 5) (by omega) p q
  obtain ⟨hn1, hn2⟩ := hv.n
  obtain ⟨p1, p2, p3⟩ := hp
  rw [decide_eq_true (show PV p q from ⟨p1, p2, p3⟩)] at c49
  obtain ⟨w1, w2⟩ := quo_ok hn1 ⟨p1, by omega⟩
  obtain ⟨w3, w4⟩ := quo_ok hn1 (show 0 ≤ q ∧ q ≤ 1099511627776 by omega)
  have hl0 : ¬ len = 0 := by omega
  have c26 := @rleft_t gl (d + 5) (by omega) len f sh l hs (p / len) hv k hk
  rw [h0] at c26
  simp only [purse] at c37 c26 ⊢
  rw [call_go (fd := fd34) rfl]
  simp (disch := ((fail_if_success (intro _)); omega)) only [go_sem, reduceIte, Nat.reduceEqDiff, Nat.reduceAdd, Nat.reduceSub, Nat.reduceMul, Nat.reduceDiv, Nat.reduceMod, Nat.reduceLT, Nat.reduceLeDiff, Nat.reduceBEq, Nat.reduceBNe, Int.reduceLE, Int.reduceLT, Int.reduceToNat, Int.reduceEq, Int.reduceBEq, Int.reduceBNe, Int.reduceNeg, Int.reduceSub, Int.reduceMul, Int.reduceAdd, BitVec.reduceOfInt, reduceCtorEq, ↓reduceIte, tn_add, tn_mul, tn_sub, tn_one, tn_zero, w64, ltN_t, ltN_f, leN_t, leN_f, ltI_t, ltI_f, leI_t, leI_f, eqN_t, eqN_f, eqI_t, eqI_f, beq_t, beq_f, bne_t, bne_f, cast_add, fd34, m34, c37, c49, c26, binInt, hl0, w1, w3, rows_nil, hr, bne]
theorem rspend_ok (h : 6 ≤ n) (hv : VP len l) (hp : PV p q) (hr : q / len = p / len) (hk : Lb l (keyW (p / len)) k) (h0 : ¬ leftF (coinOr l k (keyW (p / len))) = 0) :
    call gl tab n 34 [purse len f sh l, .agg [i64 p, i64 q]] [] = some (.agg [purse len false sR (putL l k (spentC (coinOr l k (keyW (p / len))))), i64 0], [], []) := by
  obtain ⟨d, rfl⟩ := Nat.exists_eq_add_of_le' h
  have c37 := @vp38 gl (d + 5) (by omega) len f sh l hs hv
  have c49 := @rpvalid_at gl (d + 5) (by omega) p q
  obtain ⟨hn1, hn2⟩ := hv.n
  obtain ⟨p1, p2, p3⟩ := hp
  rw [decide_eq_true (show PV p q from ⟨p1, p2, p3⟩)] at c49
  obtain ⟨w1, w2⟩ := quo_ok hn1 ⟨p1, by omega⟩
  obtain ⟨w3, w4⟩ := quo_ok hn1 (show 0 ≤ q ∧ q ≤ 1099511627776 by omega)
  have hl0 : ¬ len = 0 := by omega
  have c26 := @rleft_t gl (d + 5) (by omega) len f sh l hs (p / len) hv k hk
  have hne : (leftF (coinOr l k (keyW (p / len))) == 0) = false := by simpa using h0
  have c61 := @coin_at gl (d + 5) (by omega) len f sh l hs (by have := hv.r; omega) (vp_asc hv) (p / len) k hk
  have c62 := @put_at gl (d + 5) (by omega) len f sh l hs hl (vp_asc hv) (spentC (coinOr l k (keyW (p / len)))) k (lb_key hk (coin_key l k (p / len)))
  have hbd := coin_bd hv k (p / len)
  have e1 := coin_key l k (p / len)
  simp only [keyW] at e1 c61 c62 c26 hne hbd ⊢
  simp only [purse, Q4.av, spentC, e1] at c37 c61 c62 c26 ⊢
  rw [call_go (fd := fd34) rfl]
  simp (disch := ((fail_if_success (intro _)); omega)) only [go_sem, reduceIte, Nat.reduceEqDiff, Nat.reduceAdd, Nat.reduceSub, Nat.reduceMul, Nat.reduceDiv, Nat.reduceMod, Nat.reduceLT, Nat.reduceLeDiff, Nat.reduceBEq, Nat.reduceBNe, Int.reduceLE, Int.reduceLT, Int.reduceToNat, Int.reduceEq, Int.reduceBEq, Int.reduceBNe, Int.reduceNeg, Int.reduceSub, Int.reduceMul, Int.reduceAdd, BitVec.reduceOfInt, reduceCtorEq, ↓reduceIte, tn_add, tn_mul, tn_sub, tn_one, tn_zero, w64, ltN_t, ltN_f, leN_t, leN_f, ltI_t, ltI_f, leI_t, leI_f, eqN_t, eqN_f, eqI_t, eqI_f, beq_t, beq_f, bne_t, bne_f, cast_add, fd34, m34, c37, c49, c26, c61, c62, binInt, hl0, w1, w3, rows_length, e1, hne, hr, bne]
end
end Co
end Go.Proofs.S39
namespace Go.Proofs.S39
namespace Co
open Go Go.Ev Go.Proofs
set_option linter.unusedSimpArgs false
set_option linter.unusedVariables false
set_option linter.unusedSectionVars false
variable {gl : Gl} {n : Nat}
/-- The test, as it is handed to the library. -/
theorem over_cp (h : 2 ≤ n) (x : Q4) (len : Int) (f : Bool) {sh : Sh} (l : List Q4) (p q : Int) (hl : 1 ≤ len) (hp : 0 ≤ p ∧ p ≤ 1099511627776) :
    call gl tab n 65 [.agg [i64 x.w, i64 x.g, i64 x.d, i64 x.b], .cp (.st [.sc, .sc]) (purse len f sh l), .cp (.st [.sc, .sc]) (.agg [i64 p, i64 q])] [] = some (.bool (decide (x.w < p / len)), [], []) := by
  obtain ⟨d, rfl⟩ := Nat.exists_eq_add_of_le' h
  have c53 := @isOver_at gl (d + 1) (by omega) x.w len hl p q hp
  rw [call_go (fd := fd65) rfl]
  simp (disch := ((fail_if_success (intro _)); omega)) only [go_sem, reduceIte, Nat.reduceEqDiff, Nat.reduceAdd, Nat.reduceSub, Nat.reduceMul, Nat.reduceDiv, Nat.reduceMod, Nat.reduceLT, Nat.reduceLeDiff, Nat.reduceBEq, Nat.reduceBNe, Int.reduceLE, Int.reduceLT, Int.reduceToNat, Int.reduceEq, Int.reduceBEq, Int.reduceBNe, Int.reduceNeg, Int.reduceSub, Int.reduceMul, Int.reduceAdd, BitVec.reduceOfInt, reduceCtorEq, ↓reduceIte, tn_add, tn_mul, tn_sub, tn_one, tn_zero, w64, ltN_t, ltN_f, leN_t, leN_f, ltI_t, ltI_f, leI_t, leI_f, eqN_t, eqN_f, eqI_t, eqI_f, beq_t, beq_f, bne_t, bne_f, cast_add, fd65, m65, purse, c53]
def fnCp (len : Int) (f : Bool) (sh : Sh) (l : List Q4) (p q : Int) : AV := .fn 65 [.cp (.st [.sc, .sc]) (purse len f sh l), .cp (.st [.sc, .sc]) (.agg [i64 p, i64 q])]
def S77 (r : List Q4) (fv : AV) (i : Nat) : St := ⟨[.set 8 (i64 i), .set 7 (i64 r.length), .set 1 fv, .set 0 (.lst false sR (rows r))], []⟩
def L77 : MC := match m77 with
  | .seq _ (.seq (.seq _ (.block _ (.loop _ b))) _) => b
  | _ => .skip
/-- The first row that goes. -/
theorem index_at (h : 3 ≤ n) (r : List Q4) (hr : r.length < 2 ^ 60) (len : Int) (f : Bool) {sh : Sh} (l : List Q4) (p q : Int) (hl : 1 ≤ len) (hp : 0 ≤ p ∧ p ≤ 1099511627776) :
    ∃ k, k ≤ r.length ∧ (∀ j, j < k → stay len p (at' r j) = true) ∧ (k < r.length → stay len p (at' r k) = false) ∧
      call gl tab n 77 [.lst false sR (rows r), fnCp len f sh l p q] [] = some (i64 (if k < r.length then (k : Int) else -1), [], []) := by
  obtain ⟨d, rfl⟩ := Nat.exists_eq_add_of_le' h
  have c65 := fun x => @over_cp gl (d + 2) (by omega) x len f sh l p q hl hp
  have hs : ∀ i, i < r.length → (∀ j, j < i → ¬ (at' r j).w < p / len) → ¬ (at' r i).w < p / len → contK [.slot 0, .slot 1, .slot 7, .slot 8] (evC gl (call gl tab (d + 2)) L77 (S77 r (fnCp len f sh l p q) i)) = some (S77 r (fnCp len f sh l p q) (i + 1)) := fun i hi _ hp' => by
    have hx := rows_at hi
    have hdec : decide ((at' r i).w < p / len) = false := decide_eq_false hp'
    simp (disch := ((fail_if_success (intro _)); omega)) only [go_sem, reduceIte, Nat.reduceEqDiff, Nat.reduceAdd, Nat.reduceSub, Nat.reduceMul, Nat.reduceDiv, Nat.reduceMod, Nat.reduceLT, Nat.reduceLeDiff, Nat.reduceBEq, Nat.reduceBNe, Int.reduceLE, Int.reduceLT, Int.reduceToNat, Int.reduceEq, Int.reduceBEq, Int.reduceBNe, Int.reduceNeg, Int.reduceSub, Int.reduceMul, Int.reduceAdd, BitVec.reduceOfInt, reduceCtorEq, ↓reduceIte, tn_add, tn_mul, tn_sub, tn_one, tn_zero, w64, ltN_t, ltN_f, leN_t, leN_f, ltI_t, ltI_f, leI_t, leI_f, eqN_t, eqN_f, eqI_t, eqI_f, beq_t, beq_f, bne_t, bne_f, cast_add, L77, m77, S77, fnCp, hx, rows_length, c65, hdec]
  have hx : ∀ i, i < r.length → ¬ ¬ (at' r i).w < p / len → out1 4 (evC gl (call gl tab (d + 2)) L77 (S77 r (fnCp len f sh l p q) i)) = some (.ret, i64 i) := fun i hi hp' => by
    have hx := rows_at hi
    have hdec : decide ((at' r i).w < p / len) = true := decide_eq_true (Classical.not_not.1 hp')
    simp (disch := ((fail_if_success (intro _)); omega)) only [go_sem, reduceIte, Nat.reduceEqDiff, Nat.reduceAdd, Nat.reduceSub, Nat.reduceMul, Nat.reduceDiv, Nat.reduceMod, Nat.reduceLT, Nat.reduceLeDiff, Nat.reduceBEq, Nat.reduceBNe, Int.reduceLE, Int.reduceLT, Int.reduceToNat, Int.reduceEq, Int.reduceBEq, Int.reduceBNe, Int.reduceNeg, Int.reduceSub, Int.reduceMul, Int.reduceAdd, BitVec.reduceOfInt, reduceCtorEq, ↓reduceIte, tn_add, tn_mul, tn_sub, tn_one, tn_zero, w64, ltN_t, ltN_f, leN_t, leN_f, ltI_t, ltI_f, leI_t, leI_f, eqN_t, eqN_f, eqI_t, eqI_f, beq_t, beq_f, bne_t, bne_f, cast_add, L77, m77, S77, fnCp, hx, rows_length, c65, hdec]
  obtain ⟨k, hk, hbef, hat, hit⟩ := iter_fst2 (f := evC gl (call gl tab (d + 2)) L77) (ks := [.slot 0, .slot 1, .slot 7, .slot 8]) (S77 r (fnCp len f sh l p q)) r.length (fun i => ¬ (at' r i).w < p / len) (by unfold LF; omega)
    hs (fun i hi _ hp' => out1_isEx (hx i hi hp')) (fun _ => by simp (disch := ((fail_if_success (intro _)); omega)) only [go_sem, reduceIte, Nat.reduceEqDiff, Nat.reduceAdd, Nat.reduceSub, Nat.reduceMul, Nat.reduceDiv, Nat.reduceMod, Nat.reduceLT, Nat.reduceLeDiff, Nat.reduceBEq, Nat.reduceBNe, Int.reduceLE, Int.reduceLT, Int.reduceToNat, Int.reduceEq, Int.reduceBEq, Int.reduceBNe, Int.reduceNeg, Int.reduceSub, Int.reduceMul, Int.reduceAdd, BitVec.reduceOfInt, reduceCtorEq, ↓reduceIte, tn_add, tn_mul, tn_sub, tn_one, tn_zero, w64, ltN_t, ltN_f, leN_t, leN_f, ltI_t, ltI_f, leI_t, leI_f, eqN_t, eqN_f, eqI_t, eqI_f, beq_t, beq_f, bne_t, bne_f, cast_add, L77, m77, S77])
  refine ⟨k, hk, fun j hj => by simp [stay, hbef j hj], fun hkl => by simpa [stay] using hat hkl, ?_⟩
  simp only [L77, m77] at hit
  rw [call_go (fd := fd77) rfl]
  simp only [fd77, m77, go_sem, reduceIte, Nat.reduceEqDiff, Nat.reduceAdd, Nat.reduceSub, Nat.reduceMul, Nat.reduceDiv, Nat.reduceMod, Nat.reduceLT, Nat.reduceLeDiff, Nat.reduceBEq, Nat.reduceBNe, Int.reduceLE, Int.reduceLT, Int.reduceToNat, Int.reduceEq, Int.reduceBEq, Int.reduceBNe, Int.reduceNeg, Int.reduceSub, Int.reduceMul, Int.reduceAdd, BitVec.reduceOfInt, reduceCtorEq, ↓reduceIte, rows_length]
  rw [hit _ (by simp (disch := ((fail_if_success (intro _)); omega)) only [go_sem, reduceIte, Nat.reduceEqDiff, Nat.reduceAdd, Nat.reduceSub, Nat.reduceMul, Nat.reduceDiv, Nat.reduceMod, Nat.reduceLT, Nat.reduceLeDiff, Nat.reduceBEq, Nat.reduceBNe, Int.reduceLE, Int.reduceLT, Int.reduceToNat, Int.reduceEq, Int.reduceBEq, Int.reduceBNe, Int.reduceNeg, Int.reduceSub, Int.reduceMul, Int.reduceAdd, BitVec.reduceOfInt, reduceCtorEq, ↓reduceIte, tn_add, tn_mul, tn_sub, tn_one, tn_zero, w64, ltN_t, ltN_f, leN_t, leN_f, ltI_t, ltI_f, leI_t, leI_f, eqN_t, eqN_f, eqI_t, eqI_f, beq_t, beq_f, bne_t, bne_f, cast_add, S77, fnCp])]
  by_cases hkl : k < r.length
  · obtain ⟨st, hst, hg⟩ := out1_get (hx k hkl (hat hkl))
    simp only [L77, m77] at hst
    rw [hst]
    simp (disch := ((fail_if_success (intro _)); omega)) only [go_sem, reduceIte, Nat.reduceEqDiff, Nat.reduceAdd, Nat.reduceSub, Nat.reduceMul, Nat.reduceDiv, Nat.reduceMod, Nat.reduceLT, Nat.reduceLeDiff, Nat.reduceBEq, Nat.reduceBNe, Int.reduceLE, Int.reduceLT, Int.reduceToNat, Int.reduceEq, Int.reduceBEq, Int.reduceBNe, Int.reduceNeg, Int.reduceSub, Int.reduceMul, Int.reduceAdd, BitVec.reduceOfInt, reduceCtorEq, ↓reduceIte, tn_add, tn_mul, tn_sub, tn_one, tn_zero, w64, ltN_t, ltN_f, leN_t, leN_f, ltI_t, ltI_f, leI_t, leI_f, eqN_t, eqN_f, eqI_t, eqI_f, beq_t, beq_f, bne_t, bne_f, cast_add, hg]
  · obtain rfl : k = r.length := by omega
    simp (disch := ((fail_if_success (intro _)); omega)) only [go_sem, reduceIte, Nat.reduceEqDiff, Nat.reduceAdd, Nat.reduceSub, Nat.reduceMul, Nat.reduceDiv, Nat.reduceMod, Nat.reduceLT, Nat.reduceLeDiff, Nat.reduceBEq, Nat.reduceBNe, Int.reduceLE, Int.reduceLT, Int.reduceToNat, Int.reduceEq, Int.reduceBEq, Int.reduceBNe, Int.reduceNeg, Int.reduceSub, Int.reduceMul, Int.reduceAdd, BitVec.reduceOfInt, reduceCtorEq, ↓reduceIte, tn_add, tn_mul, tn_sub, tn_one, tn_zero, w64, ltN_t, ltN_f, leN_t, leN_f, ltI_t, ltI_f, leI_t, leI_f, eqN_t, eqN_f, eqI_t, eqI_f, beq_t, beq_f, bne_t, bne_f, cast_add, S77, fnCp]
def S63 (r : List Q4) (len : Int) (f : Bool) (sh : Sh) (l : List Q4) (p q : Int) (j : Nat) : St :=
  ⟨[.set 6 (i64 j), .set 5 (i64 (keepL len p (r.take j)).length), .set 1 (.fn 65 [.ptr 100001 [], .ptr 100002 []]), .set 0 (.sl 100000 [] 0 r.length)],
   [(100002, .fix (.st [.sc, .sc]) (.agg [i64 p, i64 q])), (100001, .fix (.st [.sc, .sc]) (purse len f sh l)), (100000, .grow sR (rows (delN len p r j)))]⟩
def L63 : MC := match m63 with
  | .seq _ (.seq _ (.seq _ (.seq (.seq _ (.block _ (.loop _ b))) _))) => b
  | _ => .skip
section
variable {len : Int} {f : Bool} {sh : Sh} {l r : List Q4} {p q : Int} (hr : r.length < 2 ^ 60) (hl : 1 ≤ len) (hp : 0 ≤ p ∧ p ≤ 1099511627776)
include hr hl hp
theorem loop63 (h : 2 ≤ n) {j : Nat} (hj : j < r.length) : contK [.slot 0, .slot 1, .slot 5, .slot 6] (evC gl (call gl tab n) L63 (S63 r len f sh l p q j)) = some (S63 r len f sh l p q (j + 1)) := by
  have c65 := fun x => @over_cp gl n (by omega) x len f sh l p q hl hp
  have hk := keep_len (len := len) (p := p) r j
  have hlen := delN_len (len := len) (p := p) (r := r) (j := j) (by omega)
  have hx := rows_at (show j < (delN len p r j).length by omega)
  rw [delN_at (Nat.le_refl _) hj] at hx
  have hkl : (keepL len p (r.take j)).length < (delN len p r j).length := by omega
  have hx2 := rows_at hkl
  simp only [purse] at c65
  by_cases ho : (at' r j).w < p / len
  · have hdec : decide ((at' r j).w < p / len) = true := decide_eq_true ho
    have e1 : stay len p (at' r j) = false := by simp [stay, ho]
    have e2 := delN_drop hj e1
    have e3 : keepL len p (r.take (j + 1)) = keepL len p (r.take j) := by rw [keep_take hj, e1]; rfl
    simp (disch := ((fail_if_success (intro _)); omega)) only [go_sem, reduceIte, Nat.reduceEqDiff, Nat.reduceAdd, Nat.reduceSub, Nat.reduceMul, Nat.reduceDiv, Nat.reduceMod, Nat.reduceLT, Nat.reduceLeDiff, Nat.reduceBEq, Nat.reduceBNe, Int.reduceLE, Int.reduceLT, Int.reduceToNat, Int.reduceEq, Int.reduceBEq, Int.reduceBNe, Int.reduceNeg, Int.reduceSub, Int.reduceMul, Int.reduceAdd, BitVec.reduceOfInt, reduceCtorEq, ↓reduceIte, tn_add, tn_mul, tn_sub, tn_one, tn_zero, w64, ltN_t, ltN_f, leN_t, leN_f, ltI_t, ltI_f, leI_t, leI_f, eqN_t, eqN_f, eqI_t, eqI_f, beq_t, beq_f, bne_t, bne_f, cast_add, L63, m63, S63, purse, hx, rows_length, hlen, c65, hdec, e2, e3]
  · have hdec : decide ((at' r j).w < p / len) = false := decide_eq_false ho
    have e1 : stay len p (at' r j) = true := by simp [stay, ho]
    have e2 := delN_keep hj e1
    have e3 : (keepL len p (r.take (j + 1))).length = (keepL len p (r.take j)).length + 1 := by rw [keep_take hj, e1, if_pos rfl]; simp
    simp (disch := ((fail_if_success (intro _)); omega)) only [go_sem, reduceIte, Nat.reduceEqDiff, Nat.reduceAdd, Nat.reduceSub, Nat.reduceMul, Nat.reduceDiv, Nat.reduceMod, Nat.reduceLT, Nat.reduceLeDiff, Nat.reduceBEq, Nat.reduceBNe, Int.reduceLE, Int.reduceLT, Int.reduceToNat, Int.reduceEq, Int.reduceBEq, Int.reduceBNe, Int.reduceNeg, Int.reduceSub, Int.reduceMul, Int.reduceAdd, BitVec.reduceOfInt, reduceCtorEq, ↓reduceIte, tn_add, tn_mul, tn_sub, tn_one, tn_zero, w64, ltN_t, ltN_f, leN_t, leN_f, ltI_t, ltI_f, leI_t, leI_f, eqN_t, eqN_f, eqI_t, eqI_f, beq_t, beq_f, bne_t, bne_f, cast_add, L63, m63, S63, purse, hx, hx2, hkl, rows_length, hlen, c65, hdec, e2, e3, rows_setAt, List.length_set]
theorem delete_at (h : 4 ≤ n) : ∃ L, call gl tab n 63 [.sl 100000 [] 0 r.length, .fn 65 [.ptr 100001 [], .ptr 100002 []]] [(100000, .grow sR (rows r)), (100001, .fix (.st [.sc, .sc]) (purse len f sh l)), (100002, .fix (.st [.sc, .sc]) (.agg [i64 p, i64 q]))] =
    some (.sl 100000 [] 0 (keepL len p r).length, [(100000, .grow sR L), (100001, .fix (.st [.sc, .sc]) (purse len f sh l)), (100002, .fix (.st [.sc, .sc]) (.agg [i64 p, i64 q]))], []) ∧ (keepL len p r).length ≤ L.length ∧ L.take (keepL len p r).length = rows (keepL len p r) := by
  obtain ⟨d, rfl⟩ := Nat.exists_eq_add_of_le' h
  obtain ⟨k, hk, hbef, hat, c77⟩ := @index_at gl (d + 3) (by omega) r hr len f sh l p q hl hp
  have hlp := fun j hj => @loop63 gl (d + 3) len f sh l r p q hr hl hp (by omega) j hj
  simp only [L63, m63] at hlp
  simp only [fnCp, purse] at c77
  rw [call_gen (fd := fd63) rfl]
  by_cases hkl : k < r.length
  · rw [if_pos hkl] at c77
    have hkeep : keepL len p (r.take k) = r.take k := List.filter_eq_self.2 fun x hx => by
      obtain ⟨i, hi, rfl⟩ := List.getElem_of_mem hx
      rw [List.length_take] at hi
      rw [List.getElem_take, at_get (show i < r.length by omega)]; exact hbef i (by omega)
    have hk1 : keepL len p (r.take (k + 1)) = r.take k := by rw [keep_take hkl, hat hkl, if_neg (by simp), hkeep]
    have hD1 : delN len p r (k + 1) = r := by
      rw [delN, hk1, List.length_take, Nat.min_eq_left (by omega), List.take_append_drop]
    have hl1 : (keepL len p (r.take (k + 1))).length = k := by rw [hk1, List.length_take, Nat.min_eq_left (by omega)]
    have hall : keepL len p (r.take r.length) = keepL len p r := by rw [List.take_length]
    have hKle : (keepL len p r).length ≤ r.length := List.length_filter_le _ _
    have hDl : (delN len p r r.length).length = r.length := delN_len (Nat.le_refl _)
    have hDt : (delN len p r r.length).take (keepL len p r).length = keepL len p r := by rw [delN, hall, List.take_left]
    refine ⟨(rows (delN len p r r.length)).take (keepL len p r).length ++ List.replicate (r.length - (keepL len p r).length) Z4 ++ (rows (delN len p r r.length)).drop ((keepL len p r).length + (r.length - (keepL len p r).length)), ?_, ?_, ?_⟩
    · simp only [fd63, m63, go_sem, reduceIte, Nat.reduceEqDiff, Nat.reduceAdd, Nat.reduceSub, Nat.reduceMul, Nat.reduceDiv, Nat.reduceMod, Nat.reduceLT, Nat.reduceLeDiff, Nat.reduceBEq, Nat.reduceBNe, Int.reduceLE, Int.reduceLT, Int.reduceToNat, Int.reduceEq, Int.reduceBEq, Int.reduceBNe, Int.reduceNeg, Int.reduceSub, Int.reduceMul, Int.reduceAdd, BitVec.reduceOfInt, reduceCtorEq, ↓reduceIte, purse, rows_length, rows_take', c77]
      have hb1 : ((k : Int) == -1) = false := by simp
      have hw1 : IntKind.wrap .i64 ((k : Int) + 1) = ((k + 1 : Nat) : Int) := by rw [wrap_i64 (by omega) (by omega)]; rfl
      simp only [go_sem, reduceIte, Nat.reduceEqDiff, Nat.reduceAdd, Nat.reduceSub, Nat.reduceMul, Nat.reduceDiv, Nat.reduceMod, Nat.reduceLT, Nat.reduceLeDiff, Nat.reduceBEq, Nat.reduceBNe, Int.reduceLE, Int.reduceLT, Int.reduceToNat, Int.reduceEq, Int.reduceBEq, Int.reduceBNe, Int.reduceNeg, Int.reduceSub, Int.reduceMul, Int.reduceAdd, BitVec.reduceOfInt, reduceCtorEq, ↓reduceIte, hb1, hw1]
      rw [iter_to (fun t => S63 r len f sh l p q (k + 1 + t)) (r.length - (k + 1)) (by unfold LF; omega)]
      · have hj : k + 1 + (r.length - (k + 1)) = r.length := by omega
        have hKi : ((keepL len p r).length : Int) ≤ (r.length : Int) := by omega
        have h5 : (keepL len p r).length + (r.length - (keepL len p r).length) ≤ r.length := by omega
        simp (disch := ((fail_if_success (intro _)); omega)) only [go_sem, reduceIte, Nat.reduceEqDiff, Nat.reduceAdd, Nat.reduceSub, Nat.reduceMul, Nat.reduceDiv, Nat.reduceMod, Nat.reduceLT, Nat.reduceLeDiff, Nat.reduceBEq, Nat.reduceBNe, Int.reduceLE, Int.reduceLT, Int.reduceToNat, Int.reduceEq, Int.reduceBEq, Int.reduceBNe, Int.reduceNeg, Int.reduceSub, Int.reduceMul, Int.reduceAdd, BitVec.reduceOfInt, reduceCtorEq, ↓reduceIte, tn_add, tn_mul, tn_sub, tn_one, tn_zero, w64, ltN_t, ltN_f, leN_t, leN_f, ltI_t, ltI_f, leI_t, leI_f, eqN_t, eqN_f, eqI_t, eqI_f, beq_t, beq_f, bne_t, bne_f, cast_add, S63, hj, hall, purse, rows_length, hDl, Nat.sub_zero]
      · simp (disch := ((fail_if_success (intro _)); omega)) only [go_sem, reduceIte, Nat.reduceEqDiff, Nat.reduceAdd, Nat.reduceSub, Nat.reduceMul, Nat.reduceDiv, Nat.reduceMod, Nat.reduceLT, Nat.reduceLeDiff, Nat.reduceBEq, Nat.reduceBNe, Int.reduceLE, Int.reduceLT, Int.reduceToNat, Int.reduceEq, Int.reduceBEq, Int.reduceBNe, Int.reduceNeg, Int.reduceSub, Int.reduceMul, Int.reduceAdd, BitVec.reduceOfInt, reduceCtorEq, ↓reduceIte, tn_add, tn_mul, tn_sub, tn_one, tn_zero, w64, ltN_t, ltN_f, leN_t, leN_f, ltI_t, ltI_f, leI_t, leI_f, eqN_t, eqN_f, eqI_t, eqI_f, beq_t, beq_f, bne_t, bne_f, cast_add, S63, hl1, hD1, purse]
      · intro t ht
        exact hlp (k + 1 + t) (by omega)
      · have hj : k + 1 + (r.length - (k + 1)) = r.length := by omega
        simp (disch := ((fail_if_success (intro _)); omega)) only [go_sem, reduceIte, Nat.reduceEqDiff, Nat.reduceAdd, Nat.reduceSub, Nat.reduceMul, Nat.reduceDiv, Nat.reduceMod, Nat.reduceLT, Nat.reduceLeDiff, Nat.reduceBEq, Nat.reduceBNe, Int.reduceLE, Int.reduceLT, Int.reduceToNat, Int.reduceEq, Int.reduceBEq, Int.reduceBNe, Int.reduceNeg, Int.reduceSub, Int.reduceMul, Int.reduceAdd, BitVec.reduceOfInt, reduceCtorEq, ↓reduceIte, tn_add, tn_mul, tn_sub, tn_one, tn_zero, w64, ltN_t, ltN_f, leN_t, leN_f, ltI_t, ltI_f, leI_t, leI_f, eqN_t, eqN_f, eqI_t, eqI_f, beq_t, beq_f, bne_t, bne_f, cast_add, S63, hj, rows_length]
    · simp only [List.length_append, List.length_take, rows_length, hDl, List.length_replicate]; omega
    · rw [List.append_assoc, List.take_append_of_le_length (by simp only [List.length_take, rows_length, hDl]; omega), List.take_take, Nat.min_self]
      rw [rows, ← List.map_take, hDt]; rfl
  · rw [if_neg hkl] at c77
    have hall : keepL len p r = r := List.filter_eq_self.2 fun x hx => by
      obtain ⟨i, hi, rfl⟩ := List.getElem_of_mem hx
      rw [at_get hi]; exact hbef i (by omega)
    refine ⟨rows r, ?_, by rw [hall, rows_length]; omega, by rw [hall, ← rows_length, List.take_length]⟩
    rw [hall]
    simp (disch := ((fail_if_success (intro _)); omega)) only [go_sem, reduceIte, Nat.reduceEqDiff, Nat.reduceAdd, Nat.reduceSub, Nat.reduceMul, Nat.reduceDiv, Nat.reduceMod, Nat.reduceLT, Nat.reduceLeDiff, Nat.reduceBEq, Nat.reduceBNe, Int.reduceLE, Int.reduceLT, Int.reduceToNat, Int.reduceEq, Int.reduceBEq, Int.reduceBNe, Int.reduceNeg, Int.reduceSub, Int.reduceMul, Int.reduceAdd, BitVec.reduceOfInt, reduceCtorEq, ↓reduceIte, tn_add, tn_mul, tn_sub, tn_one, tn_zero, w64, ltN_t, ltN_f, leN_t, leN_f, ltI_t, ltI_f, leI_t, leI_f, eqN_t, eqN_f, eqI_t, eqI_f, beq_t, beq_f, bne_t, bne_f, cast_add, fd63, m63, purse, rows_length, rows_take', c77]
end
theorem drop_ok (h : 7 ≤ n) (len : Int) (f : Bool) {sh : Sh} {l : List Q4} (hs : Shp l sh) (hv : VP len l) (p q : Int) (hp : PV p q) :
    call gl tab n 31 [purse len f sh l, .agg [i64 p, i64 q]] [] = some (.tup [purse len false sR (keepL len p l), i64 0], [], []) := by
  obtain ⟨d, rfl⟩ := Nat.exists_eq_add_of_le' h
  have hr := hv.r
  have hn := hv.n
  obtain ⟨p1, p2, p3⟩ := hp
  have c17 := @vp37 gl (d + 6) (by omega) len f sh l hs hv
  have c49 := @pvalid_at gl (d + 6) (by omega) p q
  rw [decide_eq_true (show PV p q from ⟨p1, p2, p3⟩)] at c49
  have c64 : ∀ f, call gl tab (d + 6) 64 [.lst f sh (rows l)] [] = some (.sl 20000 [] 0 l.length, [], [.grow sR (rows l)]) := fun f => by
    rw [call_giv (fd := fd64) rfl rfl]
    have h1 : l.length ≤ LIM := by unfold LIM; omega
    have h2 : (rows l).isEmpty = true ∨ Sh.beq sR sh = true := hs.imp (fun h => by simp [h, rows]) fun h => by rw [h]; rfl
    have h3 : rows l = [] ∨ Sh.beq sR sh = true := by simpa using h2
    simp [cloneG, rows_length, h1, h3]
  obtain ⟨L, c63, hL1, hL2⟩ := @delete_at gl (d + 6) len f sh l l p q (by omega) (by omega) ⟨p1, by omega⟩ (by omega)
  simp only [purse] at c17 c63
  rw [call_go (fd := fd31) rfl]
  simp (disch := ((fail_if_success (intro _)); omega)) only [go_sem, reduceIte, Nat.reduceEqDiff, Nat.reduceAdd, Nat.reduceSub, Nat.reduceMul, Nat.reduceDiv, Nat.reduceMod, Nat.reduceLT, Nat.reduceLeDiff, Nat.reduceBEq, Nat.reduceBNe, Int.reduceLE, Int.reduceLT, Int.reduceToNat, Int.reduceEq, Int.reduceBEq, Int.reduceBNe, Int.reduceNeg, Int.reduceSub, Int.reduceMul, Int.reduceAdd, BitVec.reduceOfInt, reduceCtorEq, ↓reduceIte, tn_add, tn_mul, tn_sub, tn_one, tn_zero, w64, ltN_t, ltN_f, leN_t, leN_f, ltI_t, ltI_f, leI_t, leI_f, eqN_t, eqN_f, eqI_t, eqI_f, beq_t, beq_f, bne_t, bne_f, cast_add, fd31, m31, purse, c17, c49, c64, rows_length, c63, hL1, hL2]
theorem drop_f (h : 7 ≤ n) (len : Int) (f : Bool) {sh : Sh} {l : List Q4} (hs : Shp l sh) (hl : l.length < 2 ^ 30) (p q : Int) (hv : ¬ (VP len l ∧ PV p q)) :
    call gl tab n 31 [purse len f sh l, .agg [i64 p, i64 q]] [] = some (.tup [purse0, i64 1], [], []) := by
  obtain ⟨d, rfl⟩ := Nat.exists_eq_add_of_le' h
  have c49 := @pvalid_at gl (d + 6) (by omega) p q
  rw [call_go (fd := fd31) rfl]
  by_cases hv1 : VP len l
  · have c17 := @vp37 gl (d + 6) (by omega) len f sh l hs hv1
    rw [decide_eq_false fun h => hv ⟨hv1, h⟩] at c49
    simp only [purse] at c17
    simp (disch := ((fail_if_success (intro _)); omega)) only [go_sem, reduceIte, Nat.reduceEqDiff, Nat.reduceAdd, Nat.reduceSub, Nat.reduceMul, Nat.reduceDiv, Nat.reduceMod, Nat.reduceLT, Nat.reduceLeDiff, Nat.reduceBEq, Nat.reduceBNe, Int.reduceLE, Int.reduceLT, Int.reduceToNat, Int.reduceEq, Int.reduceBEq, Int.reduceBNe, Int.reduceNeg, Int.reduceSub, Int.reduceMul, Int.reduceAdd, BitVec.reduceOfInt, reduceCtorEq, ↓reduceIte, tn_add, tn_mul, tn_sub, tn_one, tn_zero, w64, ltN_t, ltN_f, leN_t, leN_f, ltI_t, ltI_f, leI_t, leI_f, eqN_t, eqN_f, eqI_t, eqI_f, beq_t, beq_f, bne_t, bne_f, cast_add, fd31, m31, purse, c17, c49, rows_nil]
  · have c17 := @nvp37 gl (d + 6) (by omega) len f sh l hs hl hv1
    simp only [purse] at c17
    simp (disch := ((fail_if_success (intro _)); omega)) only [go_sem, reduceIte, Nat.reduceEqDiff, Nat.reduceAdd, Nat.reduceSub, Nat.reduceMul, Nat.reduceDiv, Nat.reduceMod, Nat.reduceLT, Nat.reduceLeDiff, Nat.reduceBEq, Nat.reduceBNe, Int.reduceLE, Int.reduceLT, Int.reduceToNat, Int.reduceEq, Int.reduceBEq, Int.reduceBNe, Int.reduceNeg, Int.reduceSub, Int.reduceMul, Int.reduceAdd, BitVec.reduceOfInt, reduceCtorEq, ↓reduceIte, tn_add, tn_mul, tn_sub, tn_one, tn_zero, w64, ltN_t, ltN_f, leN_t, leN_f, ltI_t, ltI_f, leI_t, leI_f, eqN_t, eqN_f, eqI_t, eqI_f, beq_t, beq_f, bne_t, bne_f, cast_add, fd31, m31, purse, c17, c49, rows_nil]
def S36 (len : Int) (f : Bool) (sh : Sh) (l : List Q4) (p q : Int) (i : Nat) : St :=
  ⟨[.set 6 (i64 i), .set 5 (.sl 5005 [] 0 (keepL len p (l.take i)).length), .set 4 (.ptr 4 []), .set 3 (.ptr 3 []), .set 2 (.ptr 2 [])],
   [(4, .fix (.st [.st [.sc, .sc], .sc]) (.agg [.agg [i64 0, .lst true .sc []], i64 0])), (3, .fix (.st [.sc, .sc]) (.agg [i64 p, i64 q])), (2, .fix (.st [.sc, .sc]) (purse len f sh l)), (5005, .grow sR (rows (keepL len p (l.take i))))]⟩
theorem rdrop_ok (h : 5 ≤ n) (len : Int) (f : Bool) {sh : Sh} {l : List Q4} (hs : Shp l sh) (hv : VP len l) (p q : Int) (hp : PV p q) :
    call gl tab n 36 [purse len f sh l, .agg [i64 p, i64 q]] [] = some (.agg [purse len false sR (keepL len p l), i64 0], [], []) := by
  obtain ⟨d, rfl⟩ := Nat.exists_eq_add_of_le' h
  have hr := hv.r
  have hn := hv.n
  obtain ⟨p1, p2, p3⟩ := hp
  have c18 := @vp38 gl (d + 4) (by omega) len f sh l hs hv
  have c59 := @rpvalid_at gl (d + 4) (by omega) p q
  have hpv : decide (PV p q) = true := decide_eq_true ⟨p1, p2, p3⟩
  rw [hpv] at c59
  simp only [purse] at c18
  rw [call_go (fd := fd36) rfl]
  simp only [fd36, m36, go_sem, reduceIte, Nat.reduceEqDiff, Nat.reduceAdd, Nat.reduceSub, Nat.reduceMul, Nat.reduceDiv, Nat.reduceMod, Nat.reduceLT, Nat.reduceLeDiff, Nat.reduceBEq, Nat.reduceBNe, Int.reduceLE, Int.reduceLT, Int.reduceToNat, Int.reduceEq, Int.reduceBEq, Int.reduceBNe, Int.reduceNeg, Int.reduceSub, Int.reduceMul, Int.reduceAdd, BitVec.reduceOfInt, reduceCtorEq, ↓reduceIte, purse, c18, c59]
  rw [iter_to (S36 len f sh l p q) l.length (by unfold LF; omega)]
  · simp (disch := ((fail_if_success (intro _)); omega)) only [go_sem, reduceIte, Nat.reduceEqDiff, Nat.reduceAdd, Nat.reduceSub, Nat.reduceMul, Nat.reduceDiv, Nat.reduceMod, Nat.reduceLT, Nat.reduceLeDiff, Nat.reduceBEq, Nat.reduceBNe, Int.reduceLE, Int.reduceLT, Int.reduceToNat, Int.reduceEq, Int.reduceBEq, Int.reduceBNe, Int.reduceNeg, Int.reduceSub, Int.reduceMul, Int.reduceAdd, BitVec.reduceOfInt, reduceCtorEq, ↓reduceIte, tn_add, tn_mul, tn_sub, tn_one, tn_zero, w64, ltN_t, ltN_f, leN_t, leN_f, ltI_t, ltI_f, leI_t, leI_f, eqN_t, eqN_f, eqI_t, eqI_f, beq_t, beq_f, bne_t, bne_f, cast_add, S36, purse, rows_length, List.take_length, rows_take']
  · simp (disch := ((fail_if_success (intro _)); omega)) only [go_sem, reduceIte, Nat.reduceEqDiff, Nat.reduceAdd, Nat.reduceSub, Nat.reduceMul, Nat.reduceDiv, Nat.reduceMod, Nat.reduceLT, Nat.reduceLeDiff, Nat.reduceBEq, Nat.reduceBNe, Int.reduceLE, Int.reduceLT, Int.reduceToNat, Int.reduceEq, Int.reduceBEq, Int.reduceBNe, Int.reduceNeg, Int.reduceSub, Int.reduceMul, Int.reduceAdd, BitVec.reduceOfInt, reduceCtorEq, ↓reduceIte, tn_add, tn_mul, tn_sub, tn_one, tn_zero, w64, ltN_t, ltN_f, leN_t, leN_f, ltI_t, ltI_f, leI_t, leI_f, eqN_t, eqN_f, eqI_t, eqI_f, beq_t, beq_f, bne_t, bne_f, cast_add, S36, purse, keepL, List.filter_nil, rows_nil]
  · intro i hi
    have hx := rows_at hi
    obtain rfl := hs.eq hi
    have hk := (hv.ok i hi).w
    have c60 := @rover_at gl (d + 4) (by omega) (at' l i).w len hk (by omega) p q ⟨by omega, by omega⟩
    have e := keep_take (len := len) (p := p) hi
    have hkl := keep_len (len := len) (p := p) l i
    have h6 : (keepL len p (l.take i)).length + 1 ≤ LIM := by unfold LIM; omega
    by_cases ho : (at' l i).w < p / len
    · have e1 : stay len p (at' l i) = false := by simp [stay, ho]
      rw [e1] at e
      simp only [Bool.false_eq_true, if_false] at e
      simp (disch := ((fail_if_success (intro _)); omega)) only [go_sem, reduceIte, Nat.reduceEqDiff, Nat.reduceAdd, Nat.reduceSub, Nat.reduceMul, Nat.reduceDiv, Nat.reduceMod, Nat.reduceLT, Nat.reduceLeDiff, Nat.reduceBEq, Nat.reduceBNe, Int.reduceLE, Int.reduceLT, Int.reduceToNat, Int.reduceEq, Int.reduceBEq, Int.reduceBNe, Int.reduceNeg, Int.reduceSub, Int.reduceMul, Int.reduceAdd, BitVec.reduceOfInt, reduceCtorEq, ↓reduceIte, tn_add, tn_mul, tn_sub, tn_one, tn_zero, w64, ltN_t, ltN_f, leN_t, leN_f, ltI_t, ltI_f, leI_t, leI_f, eqN_t, eqN_f, eqI_t, eqI_f, beq_t, beq_f, bne_t, bne_f, cast_add, S36, purse, hx, rows_length, c60, e, ho]
    · have e1 : stay len p (at' l i) = true := by simp [stay, ho]
      rw [e1, if_pos rfl] at e
      simp (disch := ((fail_if_success (intro _)); omega)) only [go_sem, reduceIte, Nat.reduceEqDiff, Nat.reduceAdd, Nat.reduceSub, Nat.reduceMul, Nat.reduceDiv, Nat.reduceMod, Nat.reduceLT, Nat.reduceLeDiff, Nat.reduceBEq, Nat.reduceBNe, Int.reduceLE, Int.reduceLT, Int.reduceToNat, Int.reduceEq, Int.reduceBEq, Int.reduceBNe, Int.reduceNeg, Int.reduceSub, Int.reduceMul, Int.reduceAdd, BitVec.reduceOfInt, reduceCtorEq, ↓reduceIte, tn_add, tn_mul, tn_sub, tn_one, tn_zero, w64, ltN_t, ltN_f, leN_t, leN_f, ltI_t, ltI_f, leI_t, leI_f, eqN_t, eqN_f, eqI_t, eqI_f, beq_t, beq_f, bne_t, bne_f, cast_add, S36, purse, hx, rows_length, c60, e, h6, rows_snoc, List.length_append, ho]
  · simp (disch := ((fail_if_success (intro _)); omega)) only [go_sem, reduceIte, Nat.reduceEqDiff, Nat.reduceAdd, Nat.reduceSub, Nat.reduceMul, Nat.reduceDiv, Nat.reduceMod, Nat.reduceLT, Nat.reduceLeDiff, Nat.reduceBEq, Nat.reduceBNe, Int.reduceLE, Int.reduceLT, Int.reduceToNat, Int.reduceEq, Int.reduceBEq, Int.reduceBNe, Int.reduceNeg, Int.reduceSub, Int.reduceMul, Int.reduceAdd, BitVec.reduceOfInt, reduceCtorEq, ↓reduceIte, tn_add, tn_mul, tn_sub, tn_one, tn_zero, w64, ltN_t, ltN_f, leN_t, leN_f, ltI_t, ltI_f, leI_t, leI_f, eqN_t, eqN_f, eqI_t, eqI_f, beq_t, beq_f, bne_t, bne_f, cast_add, S36, purse, rows_length]
theorem rdrop_f (h : 5 ≤ n) (len : Int) (f : Bool) {sh : Sh} {l : List Q4} (hs : Shp l sh) (hl : l.length < 2 ^ 30) (p q : Int) (hv : ¬ (VP len l ∧ PV p q)) :
    call gl tab n 36 [purse len f sh l, .agg [i64 p, i64 q]] [] = some (.agg [purse0, i64 1], [], []) := by
  obtain ⟨d, rfl⟩ := Nat.exists_eq_add_of_le' h
  have c59 := @rpvalid_at gl (d + 4) (by omega) p q
  rw [call_go (fd := fd36) rfl]
  by_cases hv1 : VP len l
  · have c18 := @vp38 gl (d + 4) (by omega) len f sh l hs hv1
    have hpv : decide (PV p q) = false := by simpa using fun h => hv ⟨hv1, h⟩
    rw [hpv] at c59
    simp only [purse] at c18
    simp (disch := ((fail_if_success (intro _)); omega)) only [go_sem, reduceIte, Nat.reduceEqDiff, Nat.reduceAdd, Nat.reduceSub, Nat.reduceMul, Nat.reduceDiv, Nat.reduceMod, Nat.reduceLT, Nat.reduceLeDiff, Nat.reduceBEq, Nat.reduceBNe, Int.reduceLE, Int.reduceLT, Int.reduceToNat, Int.reduceEq, Int.reduceBEq, Int.reduceBNe, Int.reduceNeg, Int.reduceSub, Int.reduceMul, Int.reduceAdd, BitVec.reduceOfInt, reduceCtorEq, ↓reduceIte, tn_add, tn_mul, tn_sub, tn_one, tn_zero, w64, ltN_t, ltN_f, leN_t, leN_f, ltI_t, ltI_f, leI_t, leI_f, eqN_t, eqN_f, eqI_t, eqI_f, beq_t, beq_f, bne_t, bne_f, cast_add, fd36, m36, purse, c18, c59, rows_nil]
  · have c18 := @nvp38 gl (d + 4) (by omega) len f sh l hs hl hv1
    simp only [purse] at c18
    simp (disch := ((fail_if_success (intro _)); omega)) only [go_sem, reduceIte, Nat.reduceEqDiff, Nat.reduceAdd, Nat.reduceSub, Nat.reduceMul, Nat.reduceDiv, Nat.reduceMod, Nat.reduceLT, Nat.reduceLeDiff, Nat.reduceBEq, Nat.reduceBNe, Int.reduceLE, Int.reduceLT, Int.reduceToNat, Int.reduceEq, Int.reduceBEq, Int.reduceBNe, Int.reduceNeg, Int.reduceSub, Int.reduceMul, Int.reduceAdd, BitVec.reduceOfInt, reduceCtorEq, ↓reduceIte, tn_add, tn_mul, tn_sub, tn_one, tn_zero, w64, ltN_t, ltN_f, leN_t, leN_f, ltI_t, ltI_f, leI_t, leI_f, eqN_t, eqN_f, eqI_t, eqI_f, beq_t, beq_f, bne_t, bne_f, cast_add, fd36, m36, purse, c18, c59, rows_nil]
end Co
end Go.Proofs.S39
