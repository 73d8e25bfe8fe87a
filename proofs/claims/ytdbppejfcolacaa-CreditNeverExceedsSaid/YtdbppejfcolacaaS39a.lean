/-
  Chapter 39: what the program's small functions compute. No condition.
-/
import Derived.Test.YtdbppejfcolacaaS39
import Derived.Test.YtdbppejfcolacaaEvY
set_option linter.unusedVariables false
set_option linter.unusedSimpArgs false
set_option linter.unusedSectionVars false
namespace Go.Proofs.S39
open Go Go.Ev Go.Proofs
set_option linter.unusedSimpArgs false
set_option linter.unusedVariables false
variable {gl : Gl} {n : Nat}
abbrev i64 (n : Int) : AV := .int .i64 n
/-- Four numbers: a row, or a coin. -/
structure Q4 where
  w : Int
  g : Int
  d : Int
  b : Int
def Q4.av (x : Q4) : AV := .agg [i64 x.w, i64 x.g, i64 x.d, i64 x.b]
def rows (l : List Q4) : List AV := l.map Q4.av
abbrev sR : Sh := .st [.sc, .sc, .sc, .sc]
theorem rows_length (l : List Q4) : (rows l).length = l.length := by simp [rows]
theorem rows_get {l : List Q4} {i : Nat} (h : i < l.length) : (rows l)[i]? = some (.agg [i64 l[i].w, i64 l[i].g, i64 l[i].d, i64 l[i].b]) := by
  rw [rows, List.getElem?_map, List.getElem?_eq_getElem h]; rfl
def bank (c l : Int) (f : Bool) (sh : Sh) (r : List Q4) : AV := .agg [i64 c, i64 l, .lst f sh (rows r)]
/-- A list's make is known, if it is not empty. -/
def Shp (r : List Q4) (sh : Sh) : Prop := r = [] ∨ sh = sR
theorem Shp.eq {r : List Q4} {sh : Sh} (h : Shp r sh) {i : Nat} (hi : i < r.length) : sh = sR := h.resolve_left (by rintro rfl; simp at hi)
theorem within_at (h : 1 ≤ n) (a lo hi : Int) : call gl tab n 45 [i64 a, i64 lo, i64 hi] [] = some (.bool (decide (lo ≤ a) && decide (a ≤ hi)), [], []) := by
  obtain ⟨d, rfl⟩ := Nat.exists_eq_add_of_le' h
  rw [call_go (fd := fd45) rfl]
  simp (disch := ((fail_if_success (intro _)); omega)) only [go_sem, simprocAttr, ↓reduceIte, xx, fd45, m45]
theorem isWindow_at (h : 2 ≤ n) (a : Int) : call gl tab n 43 [i64 a] [] = some (.bool (decide (0 ≤ a) && decide (a ≤ 1099511627776)), [], []) := by
  obtain ⟨d, rfl⟩ := Nat.exists_eq_add_of_le' h
  have c := @within_at gl (d + 1) (by omega)
  rw [call_go (fd := fd43) rfl]
  simp (disch := ((fail_if_success (intro _)); omega)) only [go_sem, simprocAttr, ↓reduceIte, xx, fd43, m43, c]
theorem isGate_at (h : 2 ≤ n) (a : Int) : call gl tab n 44 [i64 a] [] = some (.bool (decide (1 ≤ a) && decide (a ≤ 1073741824)), [], []) := by
  obtain ⟨d, rfl⟩ := Nat.exists_eq_add_of_le' h
  have c := @within_at gl (d + 1) (by omega)
  rw [call_go (fd := fd44) rfl]
  simp (disch := ((fail_if_success (intro _)); omega)) only [go_sem, simprocAttr, ↓reduceIte, xx, fd44, m44, c]
def cmpI (a b : Int) : Int := if a < b then -1 else if b < a then 1 else 0
theorem cmp_at (h : 2 ≤ n) (a b : Int) : call gl tab n 70 [i64 a, i64 b] [] = some (i64 (cmpI a b), [], []) := by
  obtain ⟨d, rfl⟩ := Nat.exists_eq_add_of_le' h
  have c : ∀ a, call gl tab (d + 1) 78 [i64 a] [] = some (.bool false, [], []) := fun a => by
    rw [call_go (fd := fd78) rfl]
    simp (disch := ((fail_if_success (intro _)); omega)) only [go_sem, simprocAttr, ↓reduceIte, xx, fd78, m78]
  rw [call_go (fd := fd70) rfl]
  by_cases h1 : a < b
  · simp (disch := ((fail_if_success (intro _)); omega)) only [go_sem, simprocAttr, ↓reduceIte, xx, fd70, m70, c, cmpI, h1]
  · by_cases h2 : b < a
    · simp (disch := ((fail_if_success (intro _)); omega)) only [go_sem, simprocAttr, ↓reduceIte, xx, fd70, m70, c, cmpI, h1, h2]
    · simp (disch := ((fail_if_success (intro _)); omega)) only [go_sem, simprocAttr, ↓reduceIte, xx, fd70, m70, c, cmpI, h1, h2]
def S69 (a b : Int) (i : Nat) : St := ⟨[.set 8 (i64 i), .set 7 (i64 2), .set 6 (.lst false .sc [i64 a, i64 b]), .set 3 (i64 0)], []⟩
theorem or_at (h : 1 ≤ n) (a b : Int) : call gl tab n 69 [.lst false .sc [i64 a, i64 b]] [] = some (i64 (if a = 0 then b else a), [], []) := by
  obtain ⟨d, rfl⟩ := Nat.exists_eq_add_of_le' h
  rw [call_go (fd := fd69) rfl]
  by_cases h1 : a = 0
  · subst h1
    by_cases h2 : b = 0
    · subst h2
      simp only [fd69, m69, go_sem, simprocAttr, ↓reduceIte]
      rw [iter_to (S69 0 0) 2 (by unfold LF; omega)]
      · simp (disch := ((fail_if_success (intro _)); omega)) only [go_sem, simprocAttr, ↓reduceIte, xx, S69]
      · simp (disch := ((fail_if_success (intro _)); omega)) only [go_sem, simprocAttr, ↓reduceIte, xx, S69]
      · intro i hi
        match i, hi with
        | 0, _ => simp (disch := ((fail_if_success (intro _)); omega)) only [go_sem, simprocAttr, ↓reduceIte, xx, S69]
        | 1, _ => simp (disch := ((fail_if_success (intro _)); omega)) only [go_sem, simprocAttr, ↓reduceIte, xx, S69]
      · simp (disch := ((fail_if_success (intro _)); omega)) only [go_sem, simprocAttr, ↓reduceIte, xx, S69]
    · simp only [fd69, m69, go_sem, simprocAttr, ↓reduceIte]
      have h3 : (b != 0) = true := by simpa using h2
      rw [iter_to (S69 0 b) 1 (by unfold LF; omega)]
      · simp (disch := ((fail_if_success (intro _)); omega)) only [go_sem, simprocAttr, ↓reduceIte, xx, S69, h3]
      · simp (disch := ((fail_if_success (intro _)); omega)) only [go_sem, simprocAttr, ↓reduceIte, xx, S69]
      · intro i hi
        match i, hi with
        | 0, _ => simp (disch := ((fail_if_success (intro _)); omega)) only [go_sem, simprocAttr, ↓reduceIte, xx, S69]
      · simp (disch := ((fail_if_success (intro _)); omega)) only [go_sem, simprocAttr, ↓reduceIte, xx, S69, h3]
  · simp only [fd69, m69, go_sem, simprocAttr, ↓reduceIte]
    have h3 : (a != 0) = true := by simpa using h1
    rw [iter_to (S69 a b) 0 (by unfold LF; omega)]
    · simp (disch := ((fail_if_success (intro _)); omega)) only [go_sem, simprocAttr, ↓reduceIte, xx, S69, h3, h1]
    · simp (disch := ((fail_if_success (intro _)); omega)) only [go_sem, simprocAttr, ↓reduceIte, xx, S69]
    · intro i hi; omega
    · simp (disch := ((fail_if_success (intro _)); omega)) only [go_sem, simprocAttr, ↓reduceIte, xx, S69, h3]
def Q4.cmp (x y : Q4) : Int := if cmpI x.w y.w = 0 then cmpI x.g y.g else cmpI x.w y.w
theorem byGate_at (h : 3 ≤ n) (x y : Q4) : call gl tab n 47 [x.av, y.av] [] = some (i64 (x.cmp y), [], []) := by
  obtain ⟨d, rfl⟩ := Nat.exists_eq_add_of_le' h
  have c := @cmp_at gl (d + 2) (by omega)
  have c2 := @or_at gl (d + 2) (by omega)
  rw [call_go (fd := fd47) rfl]
  simp (disch := ((fail_if_success (intro _)); omega)) only [go_sem, simprocAttr, ↓reduceIte, xx, fd47, m47, Q4.av, c, c2, Q4.cmp]
theorem isOver_at (h : 1 ≤ n) (a len : Int) (hl : 1 ≤ len) (p q : Int) (hp : 0 ≤ p ∧ p ≤ 1099511627776) :
    call gl tab n 53 [i64 a, i64 len, .agg [i64 p, i64 q]] [] = some (.bool (decide (a < p / len)), [], []) := by
  obtain ⟨d, rfl⟩ := Nat.exists_eq_add_of_le' h
  have hl0 : ¬ len = 0 := by omega
  have h1 : p / len ≤ p := Int.ediv_le_self _ hp.1
  have h2 : 0 ≤ p / len := Int.ediv_nonneg hp.1 (by omega)
  have hw : IntKind.wrap .i64 (p.tdiv len) = p / len := by
    rw [Int.tdiv_eq_ediv_of_nonneg hp.1]
    exact wrap_i64 (by omega) (by omega)
  rw [call_go (fd := fd53) rfl]
  simp (disch := ((fail_if_success (intro _)); omega)) only [go_sem, simprocAttr, ↓reduceIte, xx, fd53, m53, binInt, hl0, hw]
/-! ### Banks -/
def Q0 : Q4 := ⟨0, 0, 0, 0⟩
def at' (l : List Q4) (i : Nat) : Q4 := l.getD i Q0
theorem at_get {l : List Q4} {i : Nat} (h : i < l.length) : l[i] = at' l i := by simp [at', h]
theorem rows_at {l : List Q4} {i : Nat} (h : i < l.length) : (rows l)[i]? = some (.agg [i64 (at' l i).w, i64 (at' l i).g, i64 (at' l i).d, i64 (at' l i).b]) := by rw [rows_get h, at_get h]
/-- What is out of the window of the row before. -/
def sumF (l : List Q4) : Nat → Int
  | 0 => 0
  | i + 1 => (if 0 < i ∧ (at' l (i - 1)).w < (at' l i).w then 0 else sumF l i) + ((at' l i).d - (at' l i).b)
structure RowOk (cap : Int) (l : List Q4) (i : Nat) : Prop where
  w : 0 ≤ (at' l i).w ∧ (at' l i).w ≤ 1099511627776
  g : 1 ≤ (at' l i).g ∧ (at' l i).g ≤ 1073741824
  d : 0 ≤ (at' l i).d ∧ (at' l i).d ≤ 1099511627776
  b : 0 ≤ (at' l i).b ∧ (at' l i).b ≤ (at' l i).d
  o : 0 < i → (at' l (i - 1)).cmp (at' l i) < 0
  s : sumF l (i + 1) ≤ cap
structure VB (cap len : Int) (l : List Q4) : Prop where
  c : 0 ≤ cap ∧ cap ≤ 1073741824
  n : 1 ≤ len ∧ len ≤ 3600000
  r : l.length ≤ 10000
  ok : ∀ i, i < l.length → RowOk cap l i
theorem sum_bd {cap : Int} {l : List Q4} (hc : 0 ≤ cap) : ∀ i, (∀ j, j < i → RowOk cap l j) → 0 ≤ sumF l i ∧ sumF l i ≤ cap
  | 0, _ => ⟨Int.le_refl _, hc⟩
  | i + 1, h => by
    have h1 := sum_bd hc i fun j hj => h j (by omega)
    have h2 := h i (by omega)
    refine ⟨?_, h2.s⟩
    have := h2.b
    rw [sumF]
    split <;> omega
def S17 (cap len : Int) (f : Bool) (sh : Sh) (l : List Q4) (i : Nat) : St :=
  ⟨[.set 25 (i64 i), .set 24 (i64 l.length), .set 3 (i64 (sumF l i)), .set 1 (.ptr 1 [])], [(1, .fix (.st [.sc, .sc, .sc]) (bank cap len f sh l))]⟩
def L17 : MC := match m17 with
  | .seq _ (.seq _ (.seq _ (.seq (.seq _ (.block _ (.loop _ b))) _))) => b
  | _ => .skip
theorem loop17_t (h : 4 ≤ n) {cap len : Int} {f : Bool} {sh : Sh} {l : List Q4} (hs : Shp l sh) (hc : 0 ≤ cap ∧ cap ≤ 1073741824) (hl : l.length ≤ 10000) {i : Nat} (hi : i < l.length) (hj : ∀ j, j < i → RowOk cap l j) (hp : RowOk cap l i) :
    contK [.slot 1, .slot 3, .slot 24, .slot 25, .key 1] (evC gl (call gl tab n) L17 (S17 cap len f sh l i)) = some (S17 cap len f sh l (i + 1)) := by
  have c45 := @within_at gl n (by omega)
  have c43 := @isWindow_at gl n (by omega)
  have c44 := @isGate_at gl n (by omega)
  have c47 := @byGate_at gl n (by omega)
  have hb := sum_bd hc.1 i hj
  obtain ⟨⟨h1, h2⟩, ⟨h3, h4⟩, ⟨h5, h6⟩, ⟨h7, h8⟩, h9, h10⟩ := hp
  have hx := rows_at hi
  obtain rfl := hs.eq hi
  by_cases h0 : 0 < i
  · have hx' := rows_at (show i - 1 < l.length by omega)
    have h9 := h9 h0
    simp only [Q4.av] at c47
    by_cases hw : (at' l (i - 1)).w < (at' l i).w
    · have hsum : sumF l (i + 1) = 0 + ((at' l i).d - (at' l i).b) := by rw [sumF, if_pos ⟨h0, hw⟩]
      simp (disch := ((fail_if_success (intro _)); omega)) only [go_sem, simprocAttr, ↓reduceIte, xx, L17, m17, S17, bank, hx, hx', rows_length, c45, c43, c44, c47, hsum, h0, hw]
    · have hsum : sumF l (i + 1) = sumF l i + ((at' l i).d - (at' l i).b) := by rw [sumF, if_neg fun h => hw h.2]
      simp (disch := ((fail_if_success (intro _)); omega)) only [go_sem, simprocAttr, ↓reduceIte, xx, L17, m17, S17, bank, hx, hx', rows_length, c45, c43, c44, c47, hsum, h0, hw]
  · have hsum : sumF l (i + 1) = sumF l i + ((at' l i).d - (at' l i).b) := by rw [sumF, if_neg fun h => h0 h.1]
    simp (disch := ((fail_if_success (intro _)); omega)) only [go_sem, simprocAttr, ↓reduceIte, xx, L17, m17, S17, bank, hx, rows_length, c45, c43, c44, c47, hsum, h0]
theorem loop17_f (h : 4 ≤ n) {cap len : Int} {f : Bool} {sh : Sh} {l : List Q4} (hs : Shp l sh) (hc : 0 ≤ cap ∧ cap ≤ 1073741824) (hl : l.length ≤ 10000) {i : Nat} (hi : i < l.length) (hj : ∀ j, j < i → RowOk cap l j) (hp : ¬ RowOk cap l i) :
    out1 2 (evC gl (call gl tab n) L17 (S17 cap len f sh l i)) = some (.ret, .bool false) := by
  have c45 := @within_at gl n (by omega)
  have c43 := @isWindow_at gl n (by omega)
  have c44 := @isGate_at gl n (by omega)
  have c47 := @byGate_at gl n (by omega)
  have hb := sum_bd hc.1 i hj
  have hx := rows_at hi
  obtain rfl := hs.eq hi
  cases hA : (decide (0 ≤ (at' l i).w) && decide ((at' l i).w ≤ 1099511627776))
  · simp (disch := ((fail_if_success (intro _)); omega)) only [go_sem, simprocAttr, ↓reduceIte, xx, L17, m17, S17, bank, hx, rows_length, c43, c44, c45, hA]
  cases hB : (decide (1 ≤ (at' l i).g) && decide ((at' l i).g ≤ 1073741824))
  · simp (disch := ((fail_if_success (intro _)); omega)) only [go_sem, simprocAttr, ↓reduceIte, xx, L17, m17, S17, bank, hx, rows_length, c43, c44, c45, hA, hB]
  cases hC : (decide (0 ≤ (at' l i).d) && decide ((at' l i).d ≤ 1099511627776))
  · simp (disch := ((fail_if_success (intro _)); omega)) only [go_sem, simprocAttr, ↓reduceIte, xx, L17, m17, S17, bank, hx, rows_length, c43, c44, c45, hA, hB, hC]
  cases hD : (decide (0 ≤ (at' l i).b) && decide ((at' l i).b ≤ (at' l i).d))
  · simp (disch := ((fail_if_success (intro _)); omega)) only [go_sem, simprocAttr, ↓reduceIte, xx, L17, m17, S17, bank, hx, rows_length, c43, c44, c45, hA, hB, hC, hD]
  simp only [Bool.and_eq_true, decide_eq_true_eq] at hA hB hC hD
  obtain ⟨h1, h2⟩ := hA
  obtain ⟨h3, h4⟩ := hB
  obtain ⟨h5, h6⟩ := hC
  obtain ⟨h7, h8⟩ := hD
  by_cases h0 : 0 < i
  · have hx' := rows_at (show i - 1 < l.length by omega)
    simp only [Q4.av] at c47
    by_cases hE : 0 ≤ (at' l (i - 1)).cmp (at' l i)
    · simp (disch := ((fail_if_success (intro _)); omega)) only [go_sem, simprocAttr, ↓reduceIte, xx, L17, m17, S17, bank, hx, hx', rows_length, c45, c43, c44, c47, h0]
    by_cases hw : (at' l (i - 1)).w < (at' l i).w
    · have hsum : sumF l (i + 1) = 0 + ((at' l i).d - (at' l i).b) := by rw [sumF, if_pos ⟨h0, hw⟩]
      have hF : cap < 0 + ((at' l i).d - (at' l i).b) := by
        rw [← hsum]
        exact Int.not_le.1 fun h => hp ⟨⟨h1, h2⟩, ⟨h3, h4⟩, ⟨h5, h6⟩, ⟨h7, h8⟩, fun _ => by omega, h⟩
      simp (disch := ((fail_if_success (intro _)); omega)) only [go_sem, simprocAttr, ↓reduceIte, xx, L17, m17, S17, bank, hx, hx', rows_length, c45, c43, c44, c47, h0, hw]
    · have hsum : sumF l (i + 1) = sumF l i + ((at' l i).d - (at' l i).b) := by rw [sumF, if_neg fun h => hw h.2]
      have hF : cap < sumF l i + ((at' l i).d - (at' l i).b) := by
        rw [← hsum]
        exact Int.not_le.1 fun h => hp ⟨⟨h1, h2⟩, ⟨h3, h4⟩, ⟨h5, h6⟩, ⟨h7, h8⟩, fun _ => by omega, h⟩
      simp (disch := ((fail_if_success (intro _)); omega)) only [go_sem, simprocAttr, ↓reduceIte, xx, L17, m17, S17, bank, hx, hx', rows_length, c45, c43, c44, c47, h0, hw]
  · have hsum : sumF l (i + 1) = sumF l i + ((at' l i).d - (at' l i).b) := by rw [sumF, if_neg fun h => h0 h.1]
    have hF : cap < sumF l i + ((at' l i).d - (at' l i).b) := by
      rw [← hsum]
      exact Int.not_le.1 fun h => hp ⟨⟨h1, h2⟩, ⟨h3, h4⟩, ⟨h5, h6⟩, ⟨h7, h8⟩, fun h => absurd h h0, h⟩
    simp (disch := ((fail_if_success (intro _)); omega)) only [go_sem, simprocAttr, ↓reduceIte, xx, L17, m17, S17, bank, hx, rows_length, c45, c43, c44, c47, h0]
theorem validBank (h : 5 ≤ n) (cap len : Int) (f : Bool) {sh : Sh} {l : List Q4} (hs : Shp l sh) (hl : l.length < 2 ^ 60) : ∃ b : Bool, (b = true ↔ VB cap len l) ∧ call gl tab n 17 [bank cap len f sh l] [] = some (.bool b, [], []) := by
  obtain ⟨d, rfl⟩ := Nat.exists_eq_add_of_le' h
  have c45 := @within_at gl (d + 4) (by omega)
  have lt := @loop17_t gl (d + 4) (by omega) cap len f sh l hs
  have lf := @loop17_f gl (d + 4) (by omega) cap len f sh l hs
  rw [call_go (fd := fd17) rfl]
  cases hA : (decide (0 ≤ cap) && decide (cap ≤ 1073741824))
  · refine ⟨false, ⟨(fun h => by cases h), fun h => ?_⟩, ?_⟩
    · have := h.c; simp [this] at hA
    · simp (disch := ((fail_if_success (intro _)); omega)) only [go_sem, simprocAttr, ↓reduceIte, xx, fd17, m17, bank, c45, hA]
  cases hB : (decide (1 ≤ len) && decide (len ≤ 3600000))
  · refine ⟨false, ⟨(fun h => by cases h), fun h => ?_⟩, ?_⟩
    · have := h.n; simp [this] at hB
    · simp (disch := ((fail_if_success (intro _)); omega)) only [go_sem, simprocAttr, ↓reduceIte, xx, fd17, m17, bank, c45, hA, hB]
  by_cases hC : 10000 < l.length
  · refine ⟨false, ⟨(fun h => by cases h), fun h => ?_⟩, ?_⟩
    · have := h.r; omega
    · simp (disch := ((fail_if_success (intro _)); omega)) only [go_sem, simprocAttr, ↓reduceIte, xx, fd17, m17, bank, c45, hA, hB, rows_length]
  simp only [Bool.and_eq_true, decide_eq_true_eq] at hA hB
  have hL : l.length ≤ 10000 := by omega
  obtain ⟨k, hk, hbef, hat, hit⟩ := iter_fst2 (f := evC gl (call gl tab (d + 4)) L17) (ks := [.slot 1, .slot 3, .slot 24, .slot 25, .key 1]) (S17 cap len f sh l) l.length (RowOk cap l) (by unfold LF; omega)
    (fun i hi hj hp => lt hA hL hi hj hp) (fun i hi hj hp => out1_isEx (lf hA hL hi hj hp)) (fun hj => by
      have hb := sum_bd hA.1 l.length hj
      simp (disch := ((fail_if_success (intro _)); omega)) only [go_sem, simprocAttr, ↓reduceIte, xx, L17, m17, S17, bank, rows_length])
  simp only [L17, m17] at hit
  by_cases hkl : k < l.length
  · obtain ⟨st, hst, hg⟩ := out1_get (lf hA hL hkl hbef (hat hkl))
    simp only [L17, m17] at hst
    refine ⟨false, ⟨(fun h => by cases h), fun h => absurd (h.ok k hkl) (hat hkl)⟩, ?_⟩
    simp (disch := ((fail_if_success (intro _)); omega)) only [go_sem, simprocAttr, ↓reduceIte, xx, fd17, m17, bank, c45, rows_length]
    rw [hit _ (by simp (disch := ((fail_if_success (intro _)); omega)) only [go_sem, simprocAttr, ↓reduceIte, xx, S17, bank]; rfl), hst]
    simp (disch := ((fail_if_success (intro _)); omega)) only [go_sem, simprocAttr, ↓reduceIte, xx, hg]
  · obtain rfl : k = l.length := by omega
    refine ⟨true, ⟨fun _ => ⟨hA, hB, hL, hbef⟩, fun _ => rfl⟩, ?_⟩
    simp (disch := ((fail_if_success (intro _)); omega)) only [go_sem, simprocAttr, ↓reduceIte, xx, fd17, m17, bank, c45, rows_length]
    rw [hit _ (by simp (disch := ((fail_if_success (intro _)); omega)) only [go_sem, simprocAttr, ↓reduceIte, xx, S17, bank]; rfl)]
    simp (disch := ((fail_if_success (intro _)); omega)) only [go_sem, simprocAttr, ↓reduceIte, xx, S17, bank, rows_length]
end Go.Proofs.S39
