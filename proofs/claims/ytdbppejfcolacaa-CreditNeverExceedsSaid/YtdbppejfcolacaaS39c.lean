/-
  Chapter 39: looking rows up. No condition.
-/
import Derived.Test.YtdbppejfcolacaaS39a
set_option linter.unusedVariables false
set_option linter.unusedSimpArgs false
set_option linter.unusedSectionVars false
namespace Go.Proofs.S39
open Go Go.Ev Go.Proofs
set_option linter.unusedSimpArgs false
set_option linter.unusedVariables false
variable {gl : Gl} {n : Nat}
theorem cmp_lt {x y : Q4} : x.cmp y < 0 ↔ x.w < y.w ∨ (x.w = y.w ∧ x.g < y.g) := by
  unfold Q4.cmp cmpI
  split <;> split <;> (try split) <;> omega
theorem cmp_eq {x y : Q4} : x.cmp y = 0 ↔ x.w = y.w ∧ x.g = y.g := by
  unfold Q4.cmp cmpI
  split <;> split <;> (try split) <;> omega
theorem mid_ok (i j : Nat) (h : i + j < 2 ^ 62) : ((BitVec.ofInt 64 ((i : Int) + (j : Int))) >>> (1 : Nat)).toInt = (((i + j) / 2 : Nat) : Int) := by
  have e : BitVec.ofInt 64 ((i : Int) + (j : Int)) = BitVec.ofNat 64 (i + j) := by
    rw [show ((i : Int) + (j : Int)) = ((i + j : Nat) : Int) by omega, BitVec.ofInt_natCast]
  rw [e, BitVec.toInt_eq_toNat_of_lt]
  · rw [BitVec.toNat_ushiftRight, BitVec.toNat_ofNat, Nat.mod_eq_of_lt (by omega), Nat.shiftRight_eq_div_pow]
  · rw [BitVec.toNat_ushiftRight, BitVec.toNat_ofNat, Nat.mod_eq_of_lt (by omega), Nat.shiftRight_eq_div_pow]; omega
/-- In strictly ascending order. -/
def Asc (l : List Q4) : Prop := ∀ i, i + 1 < l.length → (at' l i).cmp (at' l (i + 1)) < 0
theorem asc_lt {l : List Q4} (h : Asc l) {i : Nat} : ∀ {j : Nat}, i < j → j < l.length → (at' l i).cmp (at' l j) < 0
  | 0, hij, _ => absurd hij (Nat.not_lt_zero _)
  | j + 1, hij, hj => by
    have h1 := h j hj
    by_cases hd : i = j
    · subst hd; exact h1
    · have h2 := asc_lt h (show i < j by omega) (by omega)
      rw [cmp_lt] at *; omega
theorem vb_asc {c len : Int} {l : List Q4} (h : VB c len l) : Asc l := fun i hi => (h.ok (i + 1) hi).o (Nat.succ_pos _)
def S68 (f : Bool) (sh : Sh) (l : List Q4) (x : Q4) (a : Nat × Nat) : St :=
  ⟨[.set 10 (i64 a.2), .set 9 (i64 a.1), .set 8 (i64 l.length), .set 4 (.ptr 4 []), .set 2 (.fn 47 []), .set 0 (.lst f sh (rows l))], [(4, .fix sR x.av)]⟩
def L68 : MC := match m68 with
  | .seq _ (.seq _ (.seq _ (.seq (.block _ (.loop _ b)) _))) => b
  | _ => .skip
/-- Where a row has its place. -/
structure Lb (l : List Q4) (x : Q4) (k : Nat) : Prop where
  le : k ≤ l.length
  lo : ∀ t, t < k → (at' l t).cmp x < 0
  hi : ∀ t, k ≤ t → t < l.length → 0 ≤ (at' l t).cmp x
theorem lb_uniq {l : List Q4} {x : Q4} {k k' : Nat} (h : Lb l x k) (h' : Lb l x k') : k = k' := by
  have h1 := h.le
  have h2 := h'.le
  by_cases hlt : k < k'
  · have a1 := h'.lo k hlt
    have a2 := h.hi k (Nat.le_refl _) (by omega)
    omega
  by_cases hgt : k' < k
  · have a1 := h.lo k' hgt
    have a2 := h'.hi k' (Nat.le_refl _) (by omega)
    omega
  omega
theorem loop68 (h : 3 ≤ n) {f : Bool} {sh : Sh} {l : List Q4} {x : Q4} (hs : Shp l sh) (hl : l.length < 2 ^ 60) {i j : Nat} (hij : i < j) (hj : j ≤ l.length) (hc : (at' l ((i + j) / 2)).cmp x < 0) :
    contK [.slot 0, .slot 2, .slot 4, .slot 8, .slot 9, .slot 10, .key 4] (evC gl (call gl tab n) L68 (S68 f sh l x (i, j))) = some (S68 f sh l x ((i + j) / 2 + 1, j)) := by
  have c47 := @byGate_at gl n (by omega)
  have hm := mid_ok i j (by omega)
  have h2 : (i + j) / 2 < l.length := by omega
  have hx := rows_at h2
  obtain rfl := hs.eq h2
  simp only [Q4.av] at c47
  generalize (i + j) / 2 = m at *
  simp (disch := ((fail_if_success (intro _)); omega)) only [go_sem, simprocAttr, ↓reduceIte, xx, L68, m68, S68, hm, hx, rows_length, Q4.av, c47]
theorem loop68' (h : 3 ≤ n) {f : Bool} {sh : Sh} {l : List Q4} {x : Q4} (hs : Shp l sh) (hl : l.length < 2 ^ 60) {i j : Nat} (hij : i < j) (hj : j ≤ l.length) (hc : 0 ≤ (at' l ((i + j) / 2)).cmp x) :
    contK [.slot 0, .slot 2, .slot 4, .slot 8, .slot 9, .slot 10, .key 4] (evC gl (call gl tab n) L68 (S68 f sh l x (i, j))) = some (S68 f sh l x (i, (i + j) / 2)) := by
  have c47 := @byGate_at gl n (by omega)
  have hm := mid_ok i j (by omega)
  have h2 : (i + j) / 2 < l.length := by omega
  have hx := rows_at h2
  obtain rfl := hs.eq h2
  simp only [Q4.av] at c47
  generalize (i + j) / 2 = m at *
  simp (disch := ((fail_if_success (intro _)); omega)) only [go_sem, simprocAttr, ↓reduceIte, xx, L68, m68, S68, hm, hx, rows_length, Q4.av, c47]
theorem search_ok (h : 4 ≤ n) (f : Bool) {sh : Sh} {l : List Q4} (hs : Shp l sh) (x : Q4) (hl : l.length < 2 ^ 60) (ha : Asc l) :
    ∃ k, Lb l x k ∧ call gl tab n 68 [.lst f sh (rows l), x.av, .fn 47 []] [] = some (.tup [i64 k, .bool (decide (k < l.length ∧ (at' l k).cmp x = 0))], [], []) := by
  obtain ⟨d, rfl⟩ := Nat.exists_eq_add_of_le' h
  have c47 := @byGate_at gl (d + 3) (by omega)
  obtain ⟨⟨k, k'⟩, ⟨i1, i2, i3, i4⟩, hgo, hit⟩ := iter_meas (f := evC gl (call gl tab (d + 3)) L68) (ks := [.slot 0, .slot 2, .slot 4, .slot 8, .slot 9, .slot 10, .key 4]) (S68 f sh l x)
    (fun a => a.1 ≤ a.2 ∧ a.2 ≤ l.length ∧ (∀ t, t < a.1 → (at' l t).cmp x < 0) ∧ ∀ t, a.2 ≤ t → t < l.length → 0 ≤ (at' l t).cmp x) (fun a => a.2 - a.1)
    (fun a => if (at' l ((a.1 + a.2) / 2)).cmp x < 0 then ((a.1 + a.2) / 2 + 1, a.2) else (a.1, (a.1 + a.2) / 2)) (fun a => decide (a.1 < a.2)) (a0 := (0, l.length)) (by unfold LF; simp; omega)
    ⟨Nat.zero_le _, Nat.le_refl _, fun t ht => absurd ht (Nat.not_lt_zero _), fun t h1 h2 => absurd h2 (by simp at h1; omega)⟩
    (fun a ⟨h1, h2, h3, h4⟩ hg => by
      obtain ⟨i, j⟩ := a
      simp only [decide_eq_true_eq] at hg h1 h2 h3 h4 ⊢
      by_cases hc : (at' l ((i + j) / 2)).cmp x < 0
      · simp only [hc, if_true]
        refine ⟨loop68 (by omega) hs hl hg h2 hc, ⟨by omega, h2, fun t ht => ?_, h4⟩, by omega⟩
        by_cases ht' : t = (i + j) / 2
        · subst ht'; exact hc
        · have h5 := asc_lt ha (show t < (i + j) / 2 by omega) (by omega)
          rw [cmp_lt] at *; omega
      · simp only [hc, if_false]
        refine ⟨loop68' (by omega) hs hl hg h2 (by omega), ⟨by omega, by omega, h3, fun t ht ht2 => ?_⟩, by omega⟩
        by_cases ht' : t = (i + j) / 2
        · subst ht'; omega
        · have h5 := asc_lt ha (show (i + j) / 2 < t by omega) ht2
          have h6 : ¬ (at' l ((i + j) / 2)).cmp x < 0 := hc
          refine Int.not_lt.1 fun h7 => h6 ?_
          rw [cmp_lt] at *; omega)
    (fun a ⟨h1, h2, h3, h4⟩ hg => by
      obtain ⟨i, j⟩ := a
      simp only [decide_eq_false_iff_not, Nat.not_lt] at hg h1 h2
      simp (disch := ((fail_if_success (intro _)); omega)) only [go_sem, simprocAttr, ↓reduceIte, xx, L68, m68, S68, rows_length])
  simp only [decide_eq_false_iff_not, Nat.not_lt] at hgo i1 i2 i3 i4
  obtain rfl : k = k' := by omega
  refine ⟨k, ⟨i2, i3, i4⟩, ?_⟩
  simp only [L68, m68] at hit
  rw [call_go (fd := fd68) rfl]
  simp (disch := ((fail_if_success (intro _)); omega)) only [go_sem, simprocAttr, ↓reduceIte, xx, fd68, m68, rows_length, Q4.av]
  rw [hit _ (by simp (disch := ((fail_if_success (intro _)); omega)) only [go_sem, simprocAttr, ↓reduceIte, xx, S68, Q4.av])]
  by_cases hk : k < l.length
  · have hx := rows_at hk
    obtain rfl := hs.eq hk
    simp only [Q4.av] at c47
    by_cases he : (at' l k).cmp x = 0
    · simp (disch := ((fail_if_success (intro _)); omega)) only [go_sem, simprocAttr, ↓reduceIte, xx, S68, Q4.av, hx, c47, rows_length, he]
    · have he2 : ((at' l k).cmp x == 0) = false := by simpa using he
      simp (disch := ((fail_if_success (intro _)); omega)) only [go_sem, simprocAttr, ↓reduceIte, xx, S68, Q4.av, hx, c47, rows_length, he2, he, and_false]
  · simp (disch := ((fail_if_success (intro _)); omega)) only [go_sem, simprocAttr, ↓reduceIte, xx, S68, rows_length, false_and]
def clA (l : List Q4) : List AV := rows l
theorem get_ok (h : 5 ≤ n) (f : Bool) {sh : Sh} {l : List Q4} (hs : Shp l sh) (x : Q4) (hl : l.length < 2 ^ 60) (ha : Asc l) {k : Nat} (hk : Lb l x k) :
    call gl tab n 46 [.lst f sh (rows l), x.av, .fn 47 []] [] = some (.tup [if k < l.length ∧ (at' l k).cmp x = 0 then (at' l k).av else x.av, .bool (decide (k < l.length ∧ (at' l k).cmp x = 0))], [], []) := by
  obtain ⟨d, rfl⟩ := Nat.exists_eq_add_of_le' h
  obtain ⟨k', hk', c68⟩ := @search_ok gl (d + 4) (by omega) f sh l hs x hl ha
  obtain rfl := lb_uniq hk hk'
  rw [call_go (fd := fd46) rfl]
  by_cases hf : k < l.length ∧ (at' l k).cmp x = 0
  · have hx := rows_at hf.1
    obtain rfl := hs.eq hf.1
    have hkl := hf.1
    simp only [Q4.av, hf, and_self, decide_true] at c68
    simp (disch := ((fail_if_success (intro _)); omega)) only [go_sem, simprocAttr, ↓reduceIte, xx, fd46, m46, Q4.av, c68, hx, rows_length, hf]
  · simp only [Q4.av, hf, decide_false] at c68
    simp (disch := ((fail_if_success (intro _)); omega)) only [go_sem, simprocAttr, ↓reduceIte, xx, fd46, m46, Q4.av, c68, rows_length, hf]
/-- The list with a row in its place. -/
def putL (l : List Q4) (k : Nat) (x : Q4) : List Q4 := l.take k ++ x :: l.drop (if k < l.length ∧ (at' l k).cmp x = 0 then k + 1 else k)
theorem rows_insL (l : List Q4) (k : Nat) (x : Q4) : insL (rows l) k x.av = rows (l.take k ++ x :: l.drop k) := by
  simp [insL, rows, List.map_take, List.map_drop]
theorem rows_set (l : List Q4) (k : Nat) (x : Q4) (h : k < l.length) : (rows l).set k x.av = rows (l.take k ++ x :: l.drop (k + 1)) := by
  rw [List.set_eq_take_append_cons_drop]
  simp [rows, List.map_take, List.map_drop, h]
theorem set_ok (h : 5 ≤ n) (f : Bool) {sh : Sh} {l : List Q4} (hs : Shp l sh) (x : Q4) (hl : l.length < 2 ^ 30) (ha : Asc l) {k : Nat} (hk : Lb l x k) :
    call gl tab n 48 [.lst f sh (rows l), x.av, .fn 47 []] [] = some (.sl 20000 [] 0 (putL l k x).length, [], [.grow sR (rows (putL l k x))]) := by
  obtain ⟨d, rfl⟩ := Nat.exists_eq_add_of_le' h
  obtain ⟨k', hk', c68⟩ := @search_ok gl (d + 4) (by omega) f sh l hs x (by omega) ha
  obtain rfl := lb_uniq hk hk'
  have c51 : ∀ f, call gl tab (d + 4) 51 [.lst f sh (rows l)] [] = some (.sl 20000 [] 0 l.length, [], [.grow sR (rows l)]) := fun f => by
    rw [call_giv (fd := fd51) rfl rfl]
    have h1 : l.length ≤ LIM := by unfold LIM; omega
    have h2 : (rows l).isEmpty = true ∨ Sh.beq sR sh = true := hs.imp (fun h => by simp [h, rows]) fun h => by rw [h]; rfl
    have h3 : rows l = [] ∨ Sh.beq sR sh = true := by simpa using h2
    simp [cloneG, rows_length, h1, h3]
  rw [call_go (fd := fd48) rfl]
  have hk1 := hk.le
  by_cases hf : k < l.length ∧ (at' l k).cmp x = 0
  · have hkl := hf.1
    have hx := rows_at hkl
    obtain rfl := hs.eq hkl
    simp only [Q4.av, hf, and_self, decide_true] at c68
    have hs := rows_set l k x hkl
    simp only [Q4.av] at hs
    have hp : (putL l k x).length = l.length := by simp [putL, hf]; omega
    have hp2 : l.take k ++ x :: l.drop (k + 1) = putL l k x := by simp [putL, hf]
    rw [hp2] at hs
    rw [hp]
    simp (disch := ((fail_if_success (intro _)); omega)) only [go_sem, simprocAttr, ↓reduceIte, xx, fd48, m48, Q4.av, c68, c51, hx, rows_length, hs, hp]
  · simp only [Q4.av, hf, decide_false] at c68
    have hp : (putL l k x).length = l.length + 1 := by simp [putL, hf]; omega
    have hi := rows_insL l k x
    have hp2 : l.take k ++ x :: l.drop k = putL l k x := by simp [putL, hf]
    rw [hp2] at hi
    simp only [Q4.av] at hi
    have hlim : l.length + 1 ≤ LIM := by unfold LIM; omega
    have c71 : call gl tab (d + 4) 71 [.sl 100000 [] 0 l.length, i64 k, .sl 100001 [] 0 1] [(100000, .grow sR (rows l)), (100001, .grow sR [.agg [i64 x.w, i64 x.g, i64 x.d, i64 x.b]])] =
        some (.sl 20000 [] 0 (l.length + 1), [(100000, .dead), (100001, .grow sR [.agg [i64 x.w, i64 x.g, i64 x.d, i64 x.b]])], [.grow sR (rows (putL l k x))]) := by
      rw [call_giv (fd := fd71) rfl rfl]
      simp [insertG, rows_length, Sh.beq, Sh.beqs, hlim, hk1, hi]
    rw [hp]
    simp (disch := ((fail_if_success (intro _)); omega)) only [go_sem, simprocAttr, ↓reduceIte, xx, fd48, m48, Q4.av, c68, c51, rows_length, c71, hp]
end Go.Proofs.S39
