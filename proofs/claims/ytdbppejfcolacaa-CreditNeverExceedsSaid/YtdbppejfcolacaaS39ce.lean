/-
  Chapter 39: purses, small things. No condition.
-/
import Derived.Test.YtdbppejfcolacaaS39cp
import Derived.Test.YtdbppejfcolacaaS39E
set_option linter.unusedVariables false
set_option linter.unusedSimpArgs false
set_option linter.unusedSectionVars false
namespace Go.Proofs.S39
namespace Co
open Go Go.Ev Go.Proofs
set_option linter.unusedSimpArgs false
set_option linter.unusedVariables false
variable {gl : Gl} {n : Nat}
theorem exists_lb {l : List Q4} (ha : Asc l) (x : Q4) : ∃ k, Lb l x k := by
  obtain ⟨h1, h2, h3⟩ := fst_spec (fun t => (at' l t).cmpW x < 0) l.length
  refine ⟨fstN (fun t => (at' l t).cmpW x < 0) l.length, h1, h2, fun t ht htl => ?_⟩
  have h4 := h3 (by omega)
  by_cases he : t = fstN (fun t => (at' l t).cmpW x < 0) l.length
  · rw [he]; omega
  · have h5 := asc_lt ha (show fstN (fun t => (at' l t).cmpW x < 0) l.length < t by omega) htl
    refine Int.not_lt.1 fun h6 => h4 ?_
    rw [cmp_lt] at *; omega
theorem lb_key {l : List Q4} {x y : Q4} {k : Nat} (h : Lb l x k) (hw : y.w = x.w) : Lb l y k := by
  have e : ∀ z : Q4, z.cmpW y = z.cmpW x := fun z => by simp only [Q4.cmpW, hw]
  exact ⟨h.le, fun t ht => by rw [e]; exact h.lo t ht, fun t h1 h2 => by rw [e]; exact h.hi t h1 h2⟩
abbrev keyW (w : Int) : Q4 := ⟨w, 0, 0, 0⟩
/-- Is the coin there? -/
def Kc (l : List Q4) (k : Nat) (w : Int) : Prop := k < l.length ∧ (at' l k).cmpW (keyW w) = 0
instance (l : List Q4) (k : Nat) (w : Int) : Decidable (Kc l k w) := inferInstanceAs (Decidable (_ ∧ _))
theorem coin_key (l : List Q4) (k : Nat) (w : Int) : (coinOr l k (keyW w)).w = w := by
  unfold coinOr
  split
  · rename_i h; exact cmp_eq.1 h.2
  · rfl
theorem coin_bd {len : Int} {l : List Q4} (hv : VP len l) (k : Nat) (w : Int) : 0 ≤ (coinOr l k (keyW w)).g ∧ (coinOr l k (keyW w)).g ≤ 1099511627776 ∧ 0 ≤ (coinOr l k (keyW w)).d ∧ (coinOr l k (keyW w)).d ≤ (coinOr l k (keyW w)).g ∧
    0 ≤ (coinOr l k (keyW w)).b ∧ (coinOr l k (keyW w)).b ≤ (coinOr l k (keyW w)).g - (coinOr l k (keyW w)).d := by
  unfold coinOr
  split
  · rename_i h
    have h1 := hv.ok k h.1
    have := h1.g; have := h1.d; have := h1.b; omega
  · simp
theorem vp37 (h : 5 ≤ n) {len : Int} {f : Bool} {sh : Sh} {l : List Q4} (hs : Shp l sh) (hv : VP len l) : call gl tab n 37 [purse len f sh l] [] = some (.bool true, [], []) := by
  obtain ⟨b, hb, c17⟩ := @validPurse gl n h len f sh l hs (by have := hv.r; omega)
  obtain rfl := hb.2 hv
  exact c17
theorem nvp37 (h : 5 ≤ n) {len : Int} {f : Bool} {sh : Sh} {l : List Q4} (hs : Shp l sh) (hl : l.length < 2 ^ 30) (hv : ¬ VP len l) : call gl tab n 37 [purse len f sh l] [] = some (.bool false, [], []) := by
  obtain ⟨b, hb, c17⟩ := @validPurse gl n h len f sh l hs hl
  obtain rfl : b = false := by cases b; rfl; exact absurd (hb.1 rfl) hv
  exact c17
theorem vp38 (h : 3 ≤ n) {len : Int} {f : Bool} {sh : Sh} {l : List Q4} (hs : Shp l sh) (hv : VP len l) : call gl tab n 38 [purse len f sh l] [] = some (.bool true, [], []) := by
  obtain ⟨b, hb, c17⟩ := @rvalidPurse gl n h len f sh l hs (by have := hv.r; omega)
  obtain rfl := hb.2 hv
  exact c17
theorem nvp38 (h : 3 ≤ n) {len : Int} {f : Bool} {sh : Sh} {l : List Q4} (hs : Shp l sh) (hl : l.length < 2 ^ 30) (hv : ¬ VP len l) : call gl tab n 38 [purse len f sh l] [] = some (.bool false, [], []) := by
  obtain ⟨b, hb, c17⟩ := @rvalidPurse gl n h len f sh l hs hl
  obtain rfl : b = false := by cases b; rfl; exact absurd (hb.1 rfl) hv
  exact c17
theorem coinOf_at (h : 6 ≤ n) (len : Int) (f : Bool) {sh : Sh} {l : List Q4} (hs : Shp l sh) (hl : l.length < 2 ^ 60) (ha : Asc l) (w : Int) {k : Nat} (hk : Lb l (keyW w) k) :
    call gl tab n 61 [purse len f sh l, i64 w] [] = some (.tup [(coinOr l k (keyW w)).av, .bool (decide (k < l.length ∧ (at' l k).cmpW (keyW w) = 0))], [], []) := by
  obtain ⟨d, rfl⟩ := Nat.exists_eq_add_of_le' h
  have c74 := @get_ok gl (d + 5) (by omega) f sh l hs (keyW w) hl ha k hk
  have e : (if k < l.length ∧ (at' l k).cmpW (keyW w) = 0 then (at' l k).av else (keyW w).av) = (coinOr l k (keyW w)).av := by unfold coinOr; split <;> rfl
  rw [e] at c74
  simp only [Q4.av] at c74 ⊢
  rw [call_go (fd := fd61) rfl]
  simp (disch := ((fail_if_success (intro _)); omega)) only [go_sem, simprocAttr, ↓reduceIte, xx, fd61, m61, purse, c74]
theorem with_at (h : 6 ≤ n) (len : Int) (f : Bool) {sh : Sh} {l : List Q4} (hs : Shp l sh) (hl : l.length < 2 ^ 30) (ha : Asc l) (x : Q4) {k : Nat} (hk : Lb l x k) :
    call gl tab n 62 [purse len f sh l, x.av] [] = some (purse len false sR (putL l k x), [], []) := by
  obtain ⟨d, rfl⟩ := Nat.exists_eq_add_of_le' h
  have c76 := @set_ok gl (d + 5) (by omega) f sh l hs x hl ha k hk
  simp only [purse, Q4.av] at c76 ⊢
  rw [call_go (fd := fd62) rfl]
  simp (disch := ((fail_if_success (intro _)); omega)) only [go_sem, simprocAttr, ↓reduceIte, xx, fd62, m62, c76, rows_length, rows_take', noImms_rows]
/-- What can be spent. -/
def leftF (x : Q4) : Int := x.g - x.d - x.b
theorem left_t (h : 7 ≤ n) (len : Int) (f : Bool) {sh : Sh} {l : List Q4} (hs : Shp l sh) (w : Int) (hv : VP len l) {k : Nat} (hk : Lb l (keyW w) k) : call gl tab n 26 [purse len f sh l, i64 w] [] = some (i64 (leftF (coinOr l k (keyW w))), [], []) := by
  obtain ⟨d, rfl⟩ := Nat.exists_eq_add_of_le' h
  have hr := hv.r
  have c37 := @vp37 gl (d + 6) (by omega) len f sh l hs hv
  have c61 := @coinOf_at gl (d + 6) (by omega) len f sh l hs (by omega) (vp_asc hv) w k hk
  have hbd := coin_bd hv k w
  simp only [purse, Q4.av, leftF] at c37 c61 ⊢
  generalize coinOr l k (keyW w) = q at *
  rw [call_go (fd := fd26) rfl]
  simp (disch := ((fail_if_success (intro _)); omega)) only [go_sem, simprocAttr, ↓reduceIte, xx, fd26, m26, purse, c37, c61]
theorem left_f (h : 7 ≤ n) (len : Int) (f : Bool) {sh : Sh} {l : List Q4} (hs : Shp l sh) (hl : l.length < 2 ^ 30) (w : Int) (hv : ¬ VP len l) : call gl tab n 26 [purse len f sh l, i64 w] [] = some (i64 0, [], []) := by
  obtain ⟨d, rfl⟩ := Nat.exists_eq_add_of_le' h
  have c37 := @nvp37 gl (d + 6) (by omega) len f sh l hs hl hv
  simp only [purse] at c37
  rw [call_go (fd := fd26) rfl]
  simp (disch := ((fail_if_success (intro _)); omega)) only [go_sem, simprocAttr, ↓reduceIte, xx, fd26, m26, purse, c37]
theorem back_t (h : 7 ≤ n) (len : Int) (f : Bool) {sh : Sh} {l : List Q4} (hs : Shp l sh) (w : Int) (hv : VP len l) {k : Nat} (hk : Lb l (keyW w) k) : call gl tab n 29 [purse len f sh l, i64 w] [] = some (i64 ((coinOr l k (keyW w)).b), [], []) := by
  obtain ⟨d, rfl⟩ := Nat.exists_eq_add_of_le' h
  have hr := hv.r
  have c37 := @vp37 gl (d + 6) (by omega) len f sh l hs hv
  have c61 := @coinOf_at gl (d + 6) (by omega) len f sh l hs (by omega) (vp_asc hv) w k hk
  have hbd := coin_bd hv k w
  simp only [purse, Q4.av, leftF] at c37 c61 ⊢
  generalize coinOr l k (keyW w) = q at *
  rw [call_go (fd := fd29) rfl]
  simp (disch := ((fail_if_success (intro _)); omega)) only [go_sem, simprocAttr, ↓reduceIte, xx, fd29, m29, purse, c37, c61]
theorem back_f (h : 7 ≤ n) (len : Int) (f : Bool) {sh : Sh} {l : List Q4} (hs : Shp l sh) (hl : l.length < 2 ^ 30) (w : Int) (hv : ¬ VP len l) : call gl tab n 29 [purse len f sh l, i64 w] [] = some (i64 0, [], []) := by
  obtain ⟨d, rfl⟩ := Nat.exists_eq_add_of_le' h
  have c37 := @nvp37 gl (d + 6) (by omega) len f sh l hs hl hv
  simp only [purse] at c37
  rw [call_go (fd := fd29) rfl]
  simp (disch := ((fail_if_success (intro _)); omega)) only [go_sem, simprocAttr, ↓reduceIte, xx, fd29, m29, purse, c37]
theorem rleft_t (h : 4 ≤ n) (len : Int) (f : Bool) {sh : Sh} {l : List Q4} (hs : Shp l sh) (w : Int) (hv : VP len l) {k : Nat} (hk : Lb l (keyW w) k) : call gl tab n 39 [purse len f sh l, i64 w] [] = some (i64 (leftF (coinOr l k (keyW w))), [], []) := by
  obtain ⟨d, rfl⟩ := Nat.exists_eq_add_of_le' h
  have hr := hv.r
  have c37 := @vp38 gl (d + 3) (by omega) len f sh l hs hv
  have c61 := @coin_at gl (d + 3) (by omega) len f sh l hs (by omega) (vp_asc hv) w k hk
  have hbd := coin_bd hv k w
  simp only [purse, Q4.av, leftF] at c37 c61 ⊢
  generalize coinOr l k (keyW w) = q at *
  rw [call_go (fd := fd39) rfl]
  simp (disch := ((fail_if_success (intro _)); omega)) only [go_sem, simprocAttr, ↓reduceIte, xx, fd39, m39, purse, c37, c61]
theorem rleft_f (h : 4 ≤ n) (len : Int) (f : Bool) {sh : Sh} {l : List Q4} (hs : Shp l sh) (hl : l.length < 2 ^ 30) (w : Int) (hv : ¬ VP len l) : call gl tab n 39 [purse len f sh l, i64 w] [] = some (i64 0, [], []) := by
  obtain ⟨d, rfl⟩ := Nat.exists_eq_add_of_le' h
  have c37 := @nvp38 gl (d + 3) (by omega) len f sh l hs hl hv
  simp only [purse] at c37
  rw [call_go (fd := fd39) rfl]
  simp (disch := ((fail_if_success (intro _)); omega)) only [go_sem, simprocAttr, ↓reduceIte, xx, fd39, m39, purse, c37]
theorem rback_t (h : 4 ≤ n) (len : Int) (f : Bool) {sh : Sh} {l : List Q4} (hs : Shp l sh) (w : Int) (hv : VP len l) {k : Nat} (hk : Lb l (keyW w) k) : call gl tab n 40 [purse len f sh l, i64 w] [] = some (i64 ((coinOr l k (keyW w)).b), [], []) := by
  obtain ⟨d, rfl⟩ := Nat.exists_eq_add_of_le' h
  have hr := hv.r
  have c37 := @vp38 gl (d + 3) (by omega) len f sh l hs hv
  have c61 := @coin_at gl (d + 3) (by omega) len f sh l hs (by omega) (vp_asc hv) w k hk
  have hbd := coin_bd hv k w
  simp only [purse, Q4.av, leftF] at c37 c61 ⊢
  generalize coinOr l k (keyW w) = q at *
  rw [call_go (fd := fd40) rfl]
  simp (disch := ((fail_if_success (intro _)); omega)) only [go_sem, simprocAttr, ↓reduceIte, xx, fd40, m40, purse, c37, c61]
theorem rback_f (h : 4 ≤ n) (len : Int) (f : Bool) {sh : Sh} {l : List Q4} (hs : Shp l sh) (hl : l.length < 2 ^ 30) (w : Int) (hv : ¬ VP len l) : call gl tab n 40 [purse len f sh l, i64 w] [] = some (i64 0, [], []) := by
  obtain ⟨d, rfl⟩ := Nat.exists_eq_add_of_le' h
  have c37 := @nvp38 gl (d + 3) (by omega) len f sh l hs hl hv
  simp only [purse] at c37
  rw [call_go (fd := fd40) rfl]
  simp (disch := ((fail_if_success (intro _)); omega)) only [go_sem, simprocAttr, ↓reduceIte, xx, fd40, m40, purse, c37]
abbrev purse0 : AV := purse 0 true .sc []
open Classical in
theorem newPurse_at (h : 6 ≤ n) (len : Int) : call gl tab n 27 [i64 len] [] = some (.tup [if VP len [] then purse len true .sc [] else purse0, i64 (if VP len [] then 0 else 1)], [], []) := by
  obtain ⟨d, rfl⟩ := Nat.exists_eq_add_of_le' h
  rw [call_go (fd := fd27) rfl]
  by_cases hv : VP len []
  · have c17 := @vp37 gl (d + 5) (by omega) len true .sc [] (.inl rfl) hv
    simp only [purse, rows, List.map_nil] at c17
    simp (disch := ((fail_if_success (intro _)); omega)) only [go_sem, simprocAttr, ↓reduceIte, xx, fd27, m27, purse, rows, List.map_nil, c17, hv]
  · have c17 := @nvp37 gl (d + 5) (by omega) len true .sc [] (.inl rfl) (by decide) hv
    simp only [purse, rows, List.map_nil] at c17
    simp (disch := ((fail_if_success (intro _)); omega)) only [go_sem, simprocAttr, ↓reduceIte, xx, fd27, m27, purse, rows, List.map_nil, c17, hv]
open Classical in
theorem rnewPurse_at (h : 4 ≤ n) (len : Int) : call gl tab n 32 [i64 len] [] = some (.agg [if VP len [] then purse len true .sc [] else purse0, i64 (if VP len [] then 0 else 1)], [], []) := by
  obtain ⟨d, rfl⟩ := Nat.exists_eq_add_of_le' h
  rw [call_go (fd := fd32) rfl]
  by_cases hv : VP len []
  · have c17 := @vp38 gl (d + 3) (by omega) len true .sc [] (.inl rfl) hv
    simp only [purse, rows, List.map_nil] at c17
    simp (disch := ((fail_if_success (intro _)); omega)) only [go_sem, simprocAttr, ↓reduceIte, xx, fd32, m32, purse, rows, List.map_nil, c17, hv]
  · have c17 := @nvp38 gl (d + 3) (by omega) len true .sc [] (.inl rfl) (by decide) hv
    simp only [purse, rows, List.map_nil] at c17
    simp (disch := ((fail_if_success (intro _)); omega)) only [go_sem, simprocAttr, ↓reduceIte, xx, fd32, m32, purse, rows, List.map_nil, c17, hv]
end Co
end Go.Proofs.S39
