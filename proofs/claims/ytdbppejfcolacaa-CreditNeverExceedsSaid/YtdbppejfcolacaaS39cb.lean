/-
  Chapter 39: which purses are valid. No condition.
-/
import Derived.Test.YtdbppejfcolacaaS39b
import Derived.Test.YtdbppejfcolacaaS39ca
set_option linter.unusedVariables false
set_option linter.unusedSimpArgs false
set_option linter.unusedSectionVars false
namespace Go.Proofs.S39
open Go Go.Ev Go.Proofs
set_option linter.unusedSimpArgs false
set_option linter.unusedVariables false
variable {gl : Gl} {n : Nat}
def purse (len : Int) (f : Bool) (sh : Sh) (r : List Q4) : AV := .agg [i64 len, .lst f sh (rows r)]
namespace Co
/-- The window of the coin before. -/
def lastF (l : List Q4) : Nat → Int
  | 0 => -1
  | i + 1 => (at' l i).w
structure CoinOk (l : List Q4) (i : Nat) : Prop where
  w : 0 ≤ (at' l i).w ∧ (at' l i).w ≤ 1099511627776
  o : lastF l i < (at' l i).w
  g : 0 ≤ (at' l i).g ∧ (at' l i).g ≤ 1099511627776
  d : 0 ≤ (at' l i).d ∧ (at' l i).d ≤ (at' l i).g
  b : 0 ≤ (at' l i).b ∧ (at' l i).b ≤ (at' l i).g - (at' l i).d
structure VP (len : Int) (l : List Q4) : Prop where
  n : 1 ≤ len ∧ len ≤ 3600000
  r : l.length ≤ 10000
  ok : ∀ i, i < l.length → CoinOk l i
theorem vp_asc {len : Int} {l : List Q4} (h : VP len l) : Asc l := fun i hi => cmp_lt.2 (h.ok (i + 1) hi).o
def S37 (len : Int) (f : Bool) (sh : Sh) (l : List Q4) (i : Nat) : St :=
  ⟨[.set 9 (i64 i), .set 8 (i64 l.length), .set 7 (.lst f sh (rows l)), .set 3 (i64 (lastF l i)), .set 1 (.ptr 1 [])], [(1, .fix (.st [.sc, .sc]) (purse len f sh l))]⟩
def L37 : MC := match m37 with
  | .seq _ (.seq _ (.seq (.seq _ (.block _ (.loop _ b))) _)) => b
  | _ => .skip
theorem loop37_t (h : 4 ≤ n) {len : Int} {f : Bool} {sh : Sh} {l : List Q4} (hs : Shp l sh) (hl : l.length < 2 ^ 30) {i : Nat} (hi : i < l.length) (hp : CoinOk l i) :
    contK [.slot 1, .slot 3, .slot 7, .slot 8, .slot 9, .key 1] (evC gl (call gl tab n) L37 (S37 len f sh l i)) = some (S37 len f sh l (i + 1)) := by
  have c45 := @within_at gl n (by omega)
  have c43 := @isWindow_at gl n (by omega)
  obtain ⟨⟨h1, h2⟩, h0, ⟨h3, h4⟩, ⟨h5, h6⟩, h7, h8⟩ := hp
  have hx := rows_at hi
  obtain rfl := hs.eq hi
  have e : lastF l (i + 1) = (at' l i).w := rfl
  simp (disch := ((fail_if_success (intro _)); omega)) only [go_sem, simprocAttr, ↓reduceIte, xx, L37, m37, S37, purse, hx, rows_length, c45, c43, e]
theorem loop37_f (h : 4 ≤ n) {len : Int} {f : Bool} {sh : Sh} {l : List Q4} (hs : Shp l sh) (hl : l.length < 2 ^ 30) {i : Nat} (hi : i < l.length) (hp : ¬ CoinOk l i) :
    out1 2 (evC gl (call gl tab n) L37 (S37 len f sh l i)) = some (.ret, .bool false) := by
  have c45 := @within_at gl n (by omega)
  have c43 := @isWindow_at gl n (by omega)
  have hx := rows_at hi
  obtain rfl := hs.eq hi
  cases hA : (decide (0 ≤ (at' l i).w) && decide ((at' l i).w ≤ 1099511627776))
  · simp (disch := ((fail_if_success (intro _)); omega)) only [go_sem, simprocAttr, ↓reduceIte, xx, L37, m37, S37, purse, hx, rows_length, c43, c45, hA]
  by_cases h0 : (at' l i).w ≤ lastF l i
  · simp (disch := ((fail_if_success (intro _)); omega)) only [go_sem, simprocAttr, ↓reduceIte, xx, L37, m37, S37, purse, hx, rows_length, c43, c45, hA]
  cases hC : (decide (0 ≤ (at' l i).g) && decide ((at' l i).g ≤ 1099511627776))
  · simp (disch := ((fail_if_success (intro _)); omega)) only [go_sem, simprocAttr, ↓reduceIte, xx, L37, m37, S37, purse, hx, rows_length, c43, c45, hA, hC]
  cases hD : (decide (0 ≤ (at' l i).d) && decide ((at' l i).d ≤ (at' l i).g))
  · simp (disch := ((fail_if_success (intro _)); omega)) only [go_sem, simprocAttr, ↓reduceIte, xx, L37, m37, S37, purse, hx, rows_length, c43, c45, hA, hC, hD]
  cases hE : (decide (0 ≤ (at' l i).b) && decide ((at' l i).b ≤ (at' l i).g - (at' l i).d))
  · simp only [Bool.and_eq_true, decide_eq_true_eq] at hC hD
    have hw : IntKind.wrap .i64 ((at' l i).g - (at' l i).d) = (at' l i).g - (at' l i).d := wrap_i64 (by omega) (by omega)
    simp (disch := ((fail_if_success (intro _)); omega)) only [go_sem, simprocAttr, ↓reduceIte, xx, L37, m37, S37, purse, hx, rows_length, c43, c45, hA, hC, hD, hE]
  simp only [Bool.and_eq_true, decide_eq_true_eq] at hA hC hD hE
  exact absurd ⟨hA, by omega, hC, hD, hE⟩ hp
theorem validPurse (h : 5 ≤ n) (len : Int) (f : Bool) {sh : Sh} {l : List Q4} (hs : Shp l sh) (hl : l.length < 2 ^ 30) : ∃ b : Bool, (b = true ↔ VP len l) ∧ call gl tab n 37 [purse len f sh l] [] = some (.bool b, [], []) := by
  obtain ⟨d, rfl⟩ := Nat.exists_eq_add_of_le' h
  have c45 := @within_at gl (d + 4) (by omega)
  have lt := @loop37_t gl (d + 4) (by omega) len f sh l hs hl
  have lf := @loop37_f gl (d + 4) (by omega) len f sh l hs hl
  rw [call_go (fd := fd37) rfl]
  obtain ⟨k, hk, hbef, hat, hit⟩ := iter_fst2 (f := evC gl (call gl tab (d + 4)) L37) (ks := [.slot 1, .slot 3, .slot 7, .slot 8, .slot 9, .key 1]) (S37 len f sh l) l.length (CoinOk l) (by unfold LF; omega)
    (fun i hi hj hp => lt hi hp) (fun i hi hj hp => out1_isEx (lf hi hp)) (fun hj => by
      simp (disch := ((fail_if_success (intro _)); omega)) only [go_sem, simprocAttr, ↓reduceIte, xx, L37, m37, S37, purse, rows_length])
  simp only [L37, m37] at hit
  by_cases hkl : k < l.length
  · obtain ⟨st, hst, hg⟩ := out1_get (lf hkl (hat hkl))
    simp only [L37, m37] at hst
    refine ⟨false, ⟨(fun h => by cases h), fun h => absurd (h.ok k hkl) (hat hkl)⟩, ?_⟩
    simp (disch := ((fail_if_success (intro _)); omega)) only [go_sem, simprocAttr, ↓reduceIte, xx, fd37, m37, purse, c45, rows_length]
    rw [hit _ (by simp (disch := ((fail_if_success (intro _)); omega)) only [go_sem, simprocAttr, ↓reduceIte, xx, S37, purse, lastF]), hst]
    simp (disch := ((fail_if_success (intro _)); omega)) only [go_sem, simprocAttr, ↓reduceIte, xx, hg]
  · obtain rfl : k = l.length := by omega
    refine ⟨(decide (1 ≤ len) && decide (len ≤ 3600000)) && decide (l.length ≤ 10000), ?_, ?_⟩
    · simp only [Bool.and_eq_true, decide_eq_true_eq]
      exact ⟨fun h => ⟨h.1, h.2, hbef⟩, fun h => ⟨h.n, h.r⟩⟩
    simp (disch := ((fail_if_success (intro _)); omega)) only [go_sem, simprocAttr, ↓reduceIte, xx, fd37, m37, purse, c45, rows_length]
    rw [hit _ (by simp (disch := ((fail_if_success (intro _)); omega)) only [go_sem, simprocAttr, ↓reduceIte, xx, S37, purse, lastF])]
    simp (disch := ((fail_if_success (intro _)); omega)) only [go_sem, simprocAttr, ↓reduceIte, xx, S37, purse, rows_length, c45]
/-- As the rules that they are named after, but with proofs that the kernel need not look for. -/
theorem guardK_tt' {gl : Gl} {cl : Cl} {d : Option Nat} {m : MOp} {l : List FO} {st : St} : guardK gl cl d m true l st (.bool true) = flat0K gl cl d l st (stepOp gl cl st d m) := by rw [guardK, if_pos rfl]
theorem guardK_ff' {gl : Gl} {cl : Cl} {d : Option Nat} {m : MOp} {l : List FO} {st : St} : guardK gl cl d m false l st (.bool false) = flat0K gl cl d l st (stepOp gl cl st d m) := by rw [guardK, if_pos rfl]
theorem guardK_tf' {gl : Gl} {cl : Cl} {d : Option Nat} {m : MOp} {l : List FO} {st : St} : guardK gl cl d m true l st (.bool false) = evFlat0 gl cl l (st.upd d (.tup []) []) := by rw [guardK, if_neg (by decide)]
theorem guardK_ft' {gl : Gl} {cl : Cl} {d : Option Nat} {m : MOp} {l : List FO} {st : St} : guardK gl cl d m false l st (.bool true) = evFlat0 gl cl l (st.upd d (.tup []) []) := by rw [guardK, if_neg (by decide)]
def S38 (len : Int) (f : Bool) (sh : Sh) (l : List Q4) (i : Nat) : St :=
  ⟨[.set 3 (i64 i), .set 1 (.ptr 1 [])], [(1, .fix (.st [.sc, .sc]) (purse len f sh l))]⟩
def L38 : MC := match m38 with
  | .seq _ (.seq _ (.seq (.seq _ (.block _ (.loop _ b))) _)) => b
  | _ => .skip
theorem loop38_t (h : 2 ≤ n) {len : Int} {f : Bool} {sh : Sh} {l : List Q4} (hs : Shp l sh) (hl : l.length < 2 ^ 30) {i : Nat} (hi : i < l.length) (hp : CoinOk l i) :
    contK [.slot 1, .slot 3, .key 1] (evC gl (call gl tab n) L38 (S38 len f sh l i)) = some (S38 len f sh l (i + 1)) := by
  have c43 := @rwindow_at gl n (by omega)
  obtain ⟨⟨h1, h2⟩, ho, ⟨h3, h4⟩, ⟨h5, h6⟩, h7, h8⟩ := hp
  have hx := rows_at hi
  obtain rfl := hs.eq hi
  by_cases h0 : 0 < i
  · have hx' := rows_at (show i - 1 < l.length by omega)
    have e : lastF l i = (at' l (i - 1)).w := by
      obtain ⟨j, rfl⟩ : ∃ j, i = j + 1 := ⟨i - 1, by omega⟩
      rfl
    rw [e] at ho
    simp (disch := ((fail_if_success (intro _)); omega)) only [go_sem, simprocAttr, ↓reduceIte, xx, guardK_tt', guardK_ff', guardK_tf', guardK_ft', L38, m38, S38, purse, hx, hx', rows_length, c43, h0]
  · simp (disch := ((fail_if_success (intro _)); omega)) only [go_sem, simprocAttr, ↓reduceIte, xx, guardK_tt', guardK_ff', guardK_tf', guardK_ft', L38, m38, S38, purse, hx, rows_length, c43, h0]
theorem loop38_f (h : 2 ≤ n) {len : Int} {f : Bool} {sh : Sh} {l : List Q4} (hs : Shp l sh) (hl : l.length < 2 ^ 30) {i : Nat} (hi : i < l.length) (hp : ¬ CoinOk l i) :
    out1 2 (evC gl (call gl tab n) L38 (S38 len f sh l i)) = some (.ret, .bool false) := by
  have c43 := @rwindow_at gl n (by omega)
  have hx := rows_at hi
  obtain rfl := hs.eq hi
  cases hA : (decide (0 ≤ (at' l i).w) && decide ((at' l i).w ≤ 1099511627776))
  · simp (disch := ((fail_if_success (intro _)); omega)) only [go_sem, simprocAttr, ↓reduceIte, xx, guardK_tt', guardK_ff', guardK_tf', guardK_ft', L38, m38, S38, purse, hx, rows_length, c43, hA]
  by_cases h5 : 0 ≤ (at' l i).g
  case neg => simp (disch := ((fail_if_success (intro _)); omega)) only [go_sem, simprocAttr, ↓reduceIte, xx, guardK_tt', guardK_ff', guardK_tf', guardK_ft', L38, m38, S38, purse, hx, rows_length, c43, hA]
  by_cases h6 : (at' l i).g ≤ 1099511627776
  case neg => simp (disch := ((fail_if_success (intro _)); omega)) only [go_sem, simprocAttr, ↓reduceIte, xx, guardK_tt', guardK_ff', guardK_tf', guardK_ft', L38, m38, S38, purse, hx, rows_length, c43, hA]
  by_cases h7 : 0 ≤ (at' l i).d
  case neg => simp (disch := ((fail_if_success (intro _)); omega)) only [go_sem, simprocAttr, ↓reduceIte, xx, guardK_tt', guardK_ff', guardK_tf', guardK_ft', L38, m38, S38, purse, hx, rows_length, c43, hA]
  by_cases h8 : 0 ≤ (at' l i).b
  case neg => simp (disch := ((fail_if_success (intro _)); omega)) only [go_sem, simprocAttr, ↓reduceIte, xx, guardK_tt', guardK_ff', guardK_tf', guardK_ft', L38, m38, S38, purse, hx, rows_length, c43, hA]
  by_cases h9 : (at' l i).d ≤ (at' l i).g
  case neg => simp (disch := ((fail_if_success (intro _)); omega)) only [go_sem, simprocAttr, ↓reduceIte, xx, guardK_tt', guardK_ff', guardK_tf', guardK_ft', L38, m38, S38, purse, hx, rows_length, c43, hA]
  by_cases h10 : (at' l i).b ≤ (at' l i).g - (at' l i).d
  case neg => simp (disch := ((fail_if_success (intro _)); omega)) only [go_sem, simprocAttr, ↓reduceIte, xx, guardK_tt', guardK_ff', guardK_tf', guardK_ft', L38, m38, S38, purse, hx, rows_length, c43, hA]
  simp only [Bool.and_eq_true, decide_eq_true_eq] at hA
  have hw : (at' l i).w ≤ lastF l i := Int.not_lt.1 fun h => hp ⟨hA, h, ⟨h5, h6⟩, ⟨h7, h9⟩, h8, h10⟩
  obtain ⟨h1, h2⟩ := hA
  by_cases h0 : 0 < i
  · have hx' := rows_at (show i - 1 < l.length by omega)
    have e : lastF l i = (at' l (i - 1)).w := by
      obtain ⟨j, rfl⟩ : ∃ j, i = j + 1 := ⟨i - 1, by omega⟩
      rfl
    rw [e] at hw
    simp (disch := ((fail_if_success (intro _)); omega)) only [go_sem, simprocAttr, ↓reduceIte, xx, guardK_tt', guardK_ff', guardK_tf', guardK_ft', L38, m38, S38, purse, hx, hx', rows_length, c43, h0]
  · obtain rfl : i = 0 := by omega
    simp only [lastF] at hw
    omega
theorem rvalidPurse (h : 3 ≤ n) (len : Int) (f : Bool) {sh : Sh} {l : List Q4} (hs : Shp l sh) (hl : l.length < 2 ^ 30) : ∃ b : Bool, (b = true ↔ VP len l) ∧ call gl tab n 38 [purse len f sh l] [] = some (.bool b, [], []) := by
  obtain ⟨d, rfl⟩ := Nat.exists_eq_add_of_le' h
  have lt := @loop38_t gl (d + 2) (by omega) len f sh l hs hl
  have lf := @loop38_f gl (d + 2) (by omega) len f sh l hs hl
  rw [call_go (fd := fd38) rfl]
  by_cases hB1 : 1 ≤ len
  case neg =>
    refine ⟨false, ⟨(fun h => by cases h), fun h => ?_⟩, ?_⟩
    · have := h.n; omega
    · simp (disch := ((fail_if_success (intro _)); omega)) only [go_sem, simprocAttr, ↓reduceIte, xx, fd38, m38, purse, rows_length]
  by_cases hB2 : len ≤ 3600000
  case neg =>
    refine ⟨false, ⟨(fun h => by cases h), fun h => ?_⟩, ?_⟩
    · have := h.n; omega
    · simp (disch := ((fail_if_success (intro _)); omega)) only [go_sem, simprocAttr, ↓reduceIte, xx, fd38, m38, purse, rows_length]
  by_cases hC : 10000 < l.length
  · refine ⟨false, ⟨(fun h => by cases h), fun h => ?_⟩, ?_⟩
    · have := h.r; omega
    · simp (disch := ((fail_if_success (intro _)); omega)) only [go_sem, simprocAttr, ↓reduceIte, xx, fd38, m38, purse, rows_length]
  have hL : l.length ≤ 10000 := by omega
  obtain ⟨k, hk, hbef, hat, hit⟩ := iter_fst2 (f := evC gl (call gl tab (d + 2)) L38) (ks := [.slot 1, .slot 3, .key 1]) (S38 len f sh l) l.length (CoinOk l) (by unfold LF; omega)
    (fun i hi hj hp => lt hi hp) (fun i hi hj hp => out1_isEx (lf hi hp)) (fun hj => by
      simp (disch := ((fail_if_success (intro _)); omega)) only [go_sem, simprocAttr, ↓reduceIte, xx, L38, m38, S38, purse, rows_length])
  simp only [L38, m38] at hit
  by_cases hkl : k < l.length
  · obtain ⟨st, hst, hg⟩ := out1_get (lf hkl (hat hkl))
    simp only [L38, m38] at hst
    refine ⟨false, ⟨(fun h => by cases h), fun h => absurd (h.ok k hkl) (hat hkl)⟩, ?_⟩
    simp (disch := ((fail_if_success (intro _)); omega)) only [go_sem, simprocAttr, ↓reduceIte, xx, fd38, m38, purse, rows_length]
    rw [hit _ (by simp (disch := ((fail_if_success (intro _)); omega)) only [go_sem, simprocAttr, ↓reduceIte, xx, S38, purse]), hst]
    simp (disch := ((fail_if_success (intro _)); omega)) only [go_sem, simprocAttr, ↓reduceIte, xx, hg]
  · obtain rfl : k = l.length := by omega
    refine ⟨true, ⟨fun _ => ⟨⟨hB1, hB2⟩, hL, hbef⟩, fun _ => rfl⟩, ?_⟩
    simp (disch := ((fail_if_success (intro _)); omega)) only [go_sem, simprocAttr, ↓reduceIte, xx, fd38, m38, purse, rows_length]
    rw [hit _ (by simp (disch := ((fail_if_success (intro _)); omega)) only [go_sem, simprocAttr, ↓reduceIte, xx, S38, purse])]
    simp (disch := ((fail_if_success (intro _)); omega)) only [go_sem, simprocAttr, ↓reduceIte, xx, S38, purse, rows_length]
end Co
end Go.Proofs.S39
