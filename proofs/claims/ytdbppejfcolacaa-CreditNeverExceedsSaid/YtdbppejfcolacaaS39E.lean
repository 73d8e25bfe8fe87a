/-
  Chapter 39: credits dealt and given back. No condition.
-/
import Derived.Test.YtdbppejfcolacaaS39p
set_option linter.unusedVariables false
set_option linter.unusedSimpArgs false
set_option linter.unusedSectionVars false
namespace Go.Proofs.S39
open Go Go.Ev Go.Proofs
set_option linter.unusedSimpArgs false
set_option linter.unusedVariables false
variable {gl : Gl} {n : Nat}
theorem exists_lb {l : List Q4} (ha : Asc l) (x : Q4) : ∃ k, Lb l x k := by
  obtain ⟨h1, h2, h3⟩ := fst_spec (fun t => (at' l t).cmp x < 0) l.length
  refine ⟨fstN (fun t => (at' l t).cmp x < 0) l.length, h1, h2, fun t ht htl => ?_⟩
  have h4 := h3 (by omega)
  by_cases he : t = fstN (fun t => (at' l t).cmp x < 0) l.length
  · rw [he]; omega
  · have h5 := asc_lt ha (show fstN (fun t => (at' l t).cmp x < 0) l.length < t by omega) htl
    refine Int.not_lt.1 fun h6 => h4 ?_
    rw [cmp_lt] at *; omega
theorem lb_key {l : List Q4} {x y : Q4} {k : Nat} (h : Lb l x k) (hw : y.w = x.w) (hg : y.g = x.g) : Lb l y k := by
  have e : ∀ z : Q4, z.cmp y = z.cmp x := fun z => by simp only [Q4.cmp, hw, hg]
  exact ⟨h.le, fun t ht => by rw [e]; exact h.lo t ht, fun t h1 h2 => by rw [e]; exact h.hi t h1 h2⟩
abbrev key (w g : Int) : Q4 := ⟨w, g, 0, 0⟩
theorem rowOr_key (l : List Q4) (k : Nat) (w g : Int) : (rowOr l k (key w g)).w = w ∧ (rowOr l k (key w g)).g = g := by
  unfold rowOr
  split
  · rename_i h; have := cmp_eq.1 h.2; exact this
  · exact ⟨rfl, rfl⟩
theorem rowOr_bd {c len : Int} {l : List Q4} (hv : VB c len l) (k : Nat) (w g : Int) : 0 ≤ (rowOr l k (key w g)).d ∧ (rowOr l k (key w g)).d ≤ 1099511627776 ∧ 0 ≤ (rowOr l k (key w g)).b ∧ (rowOr l k (key w g)).b ≤ (rowOr l k (key w g)).d := by
  unfold rowOr
  split
  · rename_i h
    have h1 := hv.ok k h.1
    have := h1.d; have := h1.b; omega
  · simp
/-- Is the row there? -/
def Kn (l : List Q4) (k : Nat) (w g : Int) : Prop := k < l.length ∧ (at' l k).cmp (key w g) = 0
instance (l : List Q4) (k : Nat) (w g : Int) : Decidable (Kn l k w g) := inferInstanceAs (Decidable (_ ∧ _))
theorem vb17 (h : 5 ≤ n) {c len : Int} {f : Bool} {sh : Sh} {l : List Q4} (hs : Shp l sh) (hv : VB c len l) : call gl tab n 17 [bank c len f sh l] [] = some (.bool true, [], []) := by
  obtain ⟨b, hb, c17⟩ := @validBank gl n h c len f sh l hs (by have := hv.r; omega)
  obtain rfl := hb.2 hv
  exact c17
theorem nvb17 (h : 5 ≤ n) {c len : Int} {f : Bool} {sh : Sh} {l : List Q4} (hs : Shp l sh) (hl : l.length < 2 ^ 30) (hv : ¬ VB c len l) : call gl tab n 17 [bank c len f sh l] [] = some (.bool false, [], []) := by
  obtain ⟨b, hb, c17⟩ := @validBank gl n h c len f sh l hs (by omega)
  obtain rfl : b = false := by cases b; rfl; exact absurd (hb.1 rfl) hv
  exact c17
theorem vb18 (h : 3 ≤ n) {c len : Int} {f : Bool} {sh : Sh} {l : List Q4} (hs : Shp l sh) (hv : VB c len l) : call gl tab n 18 [bank c len f sh l] [] = some (.bool true, [], []) := by
  obtain ⟨b, hb, c17⟩ := @rvalidBank gl n h c len f sh l hs (by have := hv.r; omega)
  obtain rfl := hb.2 hv
  exact c17
theorem nvb18 (h : 3 ≤ n) {c len : Int} {f : Bool} {sh : Sh} {l : List Q4} (hs : Shp l sh) (hl : l.length < 2 ^ 30) (hv : ¬ VB c len l) : call gl tab n 18 [bank c len f sh l] [] = some (.bool false, [], []) := by
  obtain ⟨b, hb, c17⟩ := @rvalidBank gl n h c len f sh l hs (by omega)
  obtain rfl : b = false := by cases b; rfl; exact absurd (hb.1 rfl) hv
  exact c17
theorem dealt_t (h : 6 ≤ n) (c len : Int) (f : Bool) {sh : Sh} {l : List Q4} (hs : Shp l sh) (w g : Int) (hv : VB c len l) {k : Nat} (hk : Lb l (key w g) k) :
    call gl tab n 20 [bank c len f sh l, i64 w, i64 g] [] = some (i64 (rowOr l k (key w g)).d, [], []) := by
  obtain ⟨d, rfl⟩ := Nat.exists_eq_add_of_le' h
  have hr := hv.r
  have c17 := @vb17 gl (d + 5) (by omega) c len f sh l hs hv
  have c46 := @get_ok gl (d + 5) (by omega) f sh l hs (key w g) (by omega) (vb_asc hv) k hk
  have e : (if k < l.length ∧ (at' l k).cmp (key w g) = 0 then (at' l k).av else (key w g).av) = (rowOr l k (key w g)).av := by unfold rowOr; split <;> rfl
  rw [e] at c46
  simp only [bank, Q4.av] at c17 c46
  rw [call_go (fd := fd20) rfl]
  simp (disch := ((fail_if_success (intro _)); omega)) only [go_sem, simprocAttr, ↓reduceIte, xx, fd20, m20, bank, c17, c46]
theorem dealt_f (h : 6 ≤ n) (c len : Int) (f : Bool) {sh : Sh} {l : List Q4} (hs : Shp l sh) (hl : l.length < 2 ^ 30) (w g : Int) (hv : ¬ VB c len l) : call gl tab n 20 [bank c len f sh l, i64 w, i64 g] [] = some (i64 0, [], []) := by
  obtain ⟨d, rfl⟩ := Nat.exists_eq_add_of_le' h
  have c17 := @nvb17 gl (d + 5) (by omega) c len f sh l hs hl hv
  simp only [bank] at c17
  rw [call_go (fd := fd20) rfl]
  simp (disch := ((fail_if_success (intro _)); omega)) only [go_sem, simprocAttr, ↓reduceIte, xx, fd20, m20, bank, c17]
theorem rdealt_t (h : 4 ≤ n) (c len : Int) (f : Bool) {sh : Sh} {l : List Q4} (hs : Shp l sh) (w g : Int) (hv : VB c len l) {k : Nat} (hk : Lb l (key w g) k) :
    call gl tab n 21 [bank c len f sh l, i64 w, i64 g] [] = some (i64 (rowOr l k (key w g)).d, [], []) := by
  obtain ⟨d, rfl⟩ := Nat.exists_eq_add_of_le' h
  have hr := hv.r
  have c17 := @vb18 gl (d + 3) (by omega) c len f sh l hs hv
  have c56 := @row_at gl (d + 3) (by omega) c len f sh l hs (by omega) (vb_asc hv) w g k hk
  simp only [bank, Q4.av] at c17 c56
  rw [call_go (fd := fd21) rfl]
  simp (disch := ((fail_if_success (intro _)); omega)) only [go_sem, simprocAttr, ↓reduceIte, xx, fd21, m21, bank, c17, c56]
theorem rdealt_f (h : 4 ≤ n) (c len : Int) (f : Bool) {sh : Sh} {l : List Q4} (hs : Shp l sh) (hl : l.length < 2 ^ 30) (w g : Int) (hv : ¬ VB c len l) : call gl tab n 21 [bank c len f sh l, i64 w, i64 g] [] = some (i64 0, [], []) := by
  obtain ⟨d, rfl⟩ := Nat.exists_eq_add_of_le' h
  have c17 := @nvb18 gl (d + 3) (by omega) c len f sh l hs hl hv
  simp only [bank] at c17
  rw [call_go (fd := fd21) rfl]
  simp (disch := ((fail_if_success (intro _)); omega)) only [go_sem, simprocAttr, ↓reduceIte, xx, fd21, m21, bank, c17]
/-! ### New banks -/
theorem noImms_rows : ∀ l : List Q4, noImms (rows l) = true
  | [] => rfl
  | x :: l => by
    have := noImms_rows l
    rw [rows] at this
    simp [rows, noImms, noImm, Q4.av, this]
theorem rows_nil : rows [] = [] := rfl
abbrev bank0 : AV := bank 0 0 true .sc []
open Classical in
theorem newBank_at (h : 6 ≤ n) (c len : Int) : call gl tab n 9 [i64 c, i64 len] [] = some (.tup [if VB c len [] then bank c len true .sc [] else bank0, i64 (if VB c len [] then 0 else 1)], [], []) := by
  obtain ⟨d, rfl⟩ := Nat.exists_eq_add_of_le' h
  rw [call_go (fd := fd9) rfl]
  by_cases hv : VB c len []
  · have c17 := @vb17 gl (d + 5) (by omega) c len true .sc [] (.inl rfl) hv
    simp only [bank, rows, List.map_nil] at c17
    simp (disch := ((fail_if_success (intro _)); omega)) only [go_sem, simprocAttr, ↓reduceIte, xx, fd9, m9, bank, rows, List.map_nil, c17, hv]
  · have c17 := @nvb17 gl (d + 5) (by omega) c len true .sc [] (.inl rfl) (by decide) hv
    simp only [bank, rows, List.map_nil] at c17
    simp (disch := ((fail_if_success (intro _)); omega)) only [go_sem, simprocAttr, ↓reduceIte, xx, fd9, m9, bank, rows, List.map_nil, c17, hv]
open Classical in
theorem rnewBank_at (h : 4 ≤ n) (c len : Int) : call gl tab n 13 [i64 c, i64 len] [] = some (.agg [if VB c len [] then bank c len true .sc [] else bank0, i64 (if VB c len [] then 0 else 1)], [], []) := by
  obtain ⟨d, rfl⟩ := Nat.exists_eq_add_of_le' h
  rw [call_go (fd := fd13) rfl]
  by_cases hv : VB c len []
  · have c17 := @vb18 gl (d + 3) (by omega) c len true .sc [] (.inl rfl) hv
    simp only [bank, rows, List.map_nil] at c17
    simp (disch := ((fail_if_success (intro _)); omega)) only [go_sem, simprocAttr, ↓reduceIte, xx, fd13, m13, bank, rows, List.map_nil, c17, hv]
  · have c17 := @nvb18 gl (d + 3) (by omega) c len true .sc [] (.inl rfl) (by decide) hv
    simp only [bank, rows, List.map_nil] at c17
    simp (disch := ((fail_if_success (intro _)); omega)) only [go_sem, simprocAttr, ↓reduceIte, xx, fd13, m13, bank, rows, List.map_nil, c17, hv]
end Go.Proofs.S39
namespace Go.Proofs.S39
open Go Go.Ev Go.Proofs
set_option linter.unusedSimpArgs false
set_option linter.unusedVariables false
set_option linter.unusedSectionVars false
variable {gl : Gl} {n : Nat}
/-- What is asked of numbers before credits are dealt. -/
structure DArg (w g m : Int) : Prop where
  w : 0 ≤ w ∧ w ≤ 1099511627776
  g : 1 ≤ g ∧ g ≤ 1073741824
  m : 1 ≤ m ∧ m ≤ 1073741824
/-- There is room. -/
structure DRoom (c : Int) (l : List Q4) (k : Nat) (w g m : Int) : Prop where
  o : outF l w l.length + m ≤ c
  d : (rowOr l k (key w g)).d + m ≤ 1099511627776
  r : Kn l k w g ∨ l.length ≠ 10000
/-- The row with more. -/
def more (l : List Q4) (k : Nat) (w g m : Int) : Q4 := ⟨w, g, (rowOr l k (key w g)).d + m, (rowOr l k (key w g)).b⟩
section
variable {c len : Int} {f : Bool} {sh : Sh} {l : List Q4} {w g m : Int} {k : Nat} (hs : Shp l sh) (hl : l.length < 2 ^ 30)
include hs hl
theorem deal_inv (h : 7 ≤ n) (hv : ¬ VB c len l) : call gl tab n 10 [bank c len f sh l, i64 w, i64 g, i64 m] [] = some (.tup [bank0, i64 1], [], []) := by
  obtain ⟨d, rfl⟩ := Nat.exists_eq_add_of_le' h
  have c17 := @nvb17 gl (d + 6) (by omega) c len f sh l hs hl hv
  have c43 := @isWindow_at gl (d + 6) (by omega)
  have c44 := @isGate_at gl (d + 6) (by omega)
  have c45 := @within_at gl (d + 6) (by omega)
  simp only [bank] at c17
  rw [call_go (fd := fd10) rfl]
  simp (disch := ((fail_if_success (intro _)); omega)) only [go_sem, simprocAttr, ↓reduceIte, xx, fd10, m10, bank, c17, c43, c44, c45, rows_nil]
theorem deal_arg (h : 7 ≤ n) (hv : VB c len l) (ha : ¬ DArg w g m) : call gl tab n 10 [bank c len f sh l, i64 w, i64 g, i64 m] [] = some (.tup [bank0, i64 1], [], []) := by
  obtain ⟨d, rfl⟩ := Nat.exists_eq_add_of_le' h
  have c17 := @vb17 gl (d + 6) (by omega) c len f sh l hs hv
  have c43 := @isWindow_at gl (d + 6) (by omega)
  have c44 := @isGate_at gl (d + 6) (by omega)
  have c45 := @within_at gl (d + 6) (by omega)
  simp only [bank] at c17
  rw [call_go (fd := fd10) rfl]
  cases hA : (decide (0 ≤ w) && decide (w ≤ 1099511627776))
  · simp (disch := ((fail_if_success (intro _)); omega)) only [go_sem, simprocAttr, ↓reduceIte, xx, fd10, m10, bank, c17, c43, c44, c45, hA, rows_nil]
  cases hB : (decide (1 ≤ g) && decide (g ≤ 1073741824))
  · simp (disch := ((fail_if_success (intro _)); omega)) only [go_sem, simprocAttr, ↓reduceIte, xx, fd10, m10, bank, c17, c43, c44, c45, hA, hB, rows_nil]
  cases hC : (decide (1 ≤ m) && decide (m ≤ 1073741824))
  · simp (disch := ((fail_if_success (intro _)); omega)) only [go_sem, simprocAttr, ↓reduceIte, xx, fd10, m10, bank, c17, c43, c44, c45, hA, hB, hC, rows_nil]
  simp only [Bool.and_eq_true, decide_eq_true_eq] at hA hB hC
  exact absurd ⟨hA, hB, hC⟩ ha
theorem deal_ok (h : 7 ≤ n) (hv : VB c len l) (ha : DArg w g m) (hk : Lb l (key w g) k) (hr : DRoom c l k w g m) :
    call gl tab n 10 [bank c len f sh l, i64 w, i64 g, i64 m] [] = some (.tup [bank c len false sR (putL l k (more l k w g m)), i64 0], [], []) := by
  obtain ⟨d, rfl⟩ := Nat.exists_eq_add_of_le' h
  have hr0 := hv.r
  have hasc := vb_asc hv
  have c17 := @vb17 gl (d + 6) (by omega) c len f sh l hs hv
  have c43 := @isWindow_at gl (d + 6) (by omega)
  have c44 := @isGate_at gl (d + 6) (by omega)
  have c45 := @within_at gl (d + 6) (by omega)
  have c22 := @out_t gl (d + 6) (by omega) c len f sh l hs w hv
  have c46 := @get_ok gl (d + 6) (by omega) f sh l hs (key w g) (by omega) hasc k hk
  have c48 := @set_ok gl (d + 6) (by omega) f sh l hs (more l k w g m) (by omega) hasc k (lb_key hk rfl rfl)
  have e : (if k < l.length ∧ (at' l k).cmp (key w g) = 0 then (at' l k).av else (key w g).av) = (rowOr l k (key w g)).av := by unfold rowOr; split <;> rfl
  obtain ⟨e1, e2⟩ := rowOr_key l k w g
  have hbd := rowOr_bd hv k w g
  have hob := out_bd2 (w := w) hv (Nat.le_refl _)
  obtain ⟨⟨a1, a2⟩, ⟨a3, a4⟩, ⟨a5, a6⟩⟩ := ha
  obtain ⟨r1, r2, r3⟩ := hr
  rw [e] at c46
  simp only [bank, Q4.av, more, key, e1, e2] at c17 c46 c48 c22 hbd r2 ⊢
  rw [call_go (fd := fd10) rfl]
  by_cases hkn : Kn l k w g
  · have hkn2 : (k < l.length ∧ (at' l k).cmp ⟨w, g, 0, 0⟩ = 0) := hkn
    simp only [hkn2, and_self, decide_true] at c46
    simp (disch := ((fail_if_success (intro _)); omega)) only [go_sem, simprocAttr, ↓reduceIte, xx, fd10, m10, c17, c43, c44, c45, c46, c22, rows_length, e1, e2, c48, rows_take', noImms_rows]
  · have hkn2 : ¬ (k < l.length ∧ (at' l k).cmp ⟨w, g, 0, 0⟩ = 0) := hkn
    simp only [hkn2, decide_false] at c46
    have r4 : l.length ≠ 10000 := r3.resolve_left hkn
    simp (disch := ((fail_if_success (intro _)); omega)) only [go_sem, simprocAttr, ↓reduceIte, xx, fd10, m10, c17, c43, c44, c45, c46, c22, rows_length, e1, e2, c48, rows_take', noImms_rows]
theorem deal_lim (h : 7 ≤ n) (hv : VB c len l) (ha : DArg w g m) (hk : Lb l (key w g) k) (hr : ¬ DRoom c l k w g m) :
    call gl tab n 10 [bank c len f sh l, i64 w, i64 g, i64 m] [] = some (.tup [bank0, i64 2], [], []) := by
  obtain ⟨d, rfl⟩ := Nat.exists_eq_add_of_le' h
  have hr0 := hv.r
  have hasc := vb_asc hv
  have c17 := @vb17 gl (d + 6) (by omega) c len f sh l hs hv
  have c43 := @isWindow_at gl (d + 6) (by omega)
  have c44 := @isGate_at gl (d + 6) (by omega)
  have c45 := @within_at gl (d + 6) (by omega)
  have c22 := @out_t gl (d + 6) (by omega) c len f sh l hs w hv
  have c46 := @get_ok gl (d + 6) (by omega) f sh l hs (key w g) (by omega) hasc k hk
  have e : (if k < l.length ∧ (at' l k).cmp (key w g) = 0 then (at' l k).av else (key w g).av) = (rowOr l k (key w g)).av := by unfold rowOr; split <;> rfl
  obtain ⟨e1, e2⟩ := rowOr_key l k w g
  have hbd := rowOr_bd hv k w g
  have hob := out_bd2 (w := w) hv (Nat.le_refl _)
  obtain ⟨⟨a1, a2⟩, ⟨a3, a4⟩, ⟨a5, a6⟩⟩ := ha
  rw [e] at c46
  have hr2 : ∀ (h1 : outF l w l.length + m ≤ c) (h2 : (rowOr l k (key w g)).d + m ≤ 1099511627776), ¬ Kn l k w g ∧ l.length = 10000 := fun h1 h2 => by
    by_cases h3 : Kn l k w g
    · exact absurd ⟨h1, h2, .inl h3⟩ hr
    · by_cases h4 : l.length = 10000
      · exact ⟨h3, h4⟩
      · exact absurd ⟨h1, h2, .inr h4⟩ hr
  simp only [bank, Q4.av, key, e1, e2] at c17 c46 c22 hbd hr2 ⊢
  rw [call_go (fd := fd10) rfl]
  generalize (rowOr l k ⟨w, g, 0, 0⟩) = q at *
  by_cases h1 : outF l w l.length + m ≤ c
  case neg => simp (disch := ((fail_if_success (intro _)); omega)) only [go_sem, simprocAttr, ↓reduceIte, xx, fd10, m10, c17, c43, c44, c45, c46, c22, rows_length, rows_nil]
  by_cases h2 : q.d + m ≤ 1099511627776
  case neg => simp (disch := ((fail_if_success (intro _)); omega)) only [go_sem, simprocAttr, ↓reduceIte, xx, fd10, m10, c17, c43, c44, c45, c46, c22, rows_length, rows_nil]
  obtain ⟨h3, h4⟩ := hr2 h1 h2
  have hkn2 : ¬ (k < l.length ∧ (at' l k).cmp ⟨w, g, 0, 0⟩ = 0) := h3
  simp only [hkn2, decide_false] at c46
  simp (disch := ((fail_if_success (intro _)); omega)) only [go_sem, simprocAttr, ↓reduceIte, xx, fd10, m10, c17, c43, c44, c45, c46, c22, rows_length, rows_nil]
end
end Go.Proofs.S39
