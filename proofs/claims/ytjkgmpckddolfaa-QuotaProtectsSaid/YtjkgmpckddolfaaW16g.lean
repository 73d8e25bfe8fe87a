/-
  Chapter 16: open and use. No condition.
-/
import Derived.Test.YtjkgmpckddolfaaW16f
import Derived.Test.YtjkgmpckddolfaaW16d
set_option linter.unusedVariables false
set_option linter.unusedSimpArgs false
set_option linter.unusedSectionVars false
namespace Go.Proofs.S16
open Go Go.Ev Go.Proofs
set_option linter.unusedSimpArgs false
set_option linter.unusedVariables false
variable {gl : Gl} {n : Nat}
def L43 : MC := match m43 with | .seq _ (.seq (.seq _ (.block _ (.loop _ b))) _) => b | _ => .skip
def S43 (f : Bool) (m : Sh) (l : List A3) (q : Int) (i : Nat) : St := ⟨[.set 5 (i64 i), .set 1 (i64 q), .set 0 (.lst f m (ac l))], []⟩
theorem rplace_at (h : 1 ≤ n) {f : Bool} {m : Sh} {l : List A3} (hm : Mk l m sA) (hl : l.length ≤ 1000) {q : Int} {k : Nat} (hk : k ≤ l.length) (hb : ∀ j, j < k → (aat l j).t ≠ q) (he : k < l.length → (aat l k).t = q) :
    call gl tab n 43 [.lst f m (ac l), i64 q] [] = some (i64 (if k < l.length then k else -1), [], []) := by
  obtain ⟨d, rfl⟩ := Nat.exists_eq_add_of_le' h
  rw [call_go (fd := fd43) rfl]
  simp (disch := ((fail_if_success (intro _)); omega)) only [go_sem, simprocAttr, ↓reduceIte, xx, fd43, m43, ac_length]
  have hs : ∀ i, i < k → contK [.slot 0, .slot 1, .slot 5] (evC gl (call gl tab d) L43 (S43 f m l q i)) = some (S43 f m l q (i + 1)) := fun i hi => by
    have hx := ac_at (show i < l.length by omega)
    obtain rfl := hm.eq (show i < l.length by omega)
    have hq : ((aat l i).t == q) = false := by simp [hb i hi]
    simp (disch := ((fail_if_success (intro _)); omega)) only [go_sem, simprocAttr, ↓reduceIte, xx, L43, m43, S43, ac_length, hx, hq]
  simp only [L43, m43] at hs
  by_cases hkl : k < l.length
  · have hx := ac_at hkl
    obtain rfl := hm.eq hkl
    have hq : ((aat l k).t == q) = true := by simp [he hkl]
    rw [iter_to (S43 f sA l q) k (by unfold LF; omega)]
    · simp (disch := ((fail_if_success (intro _)); omega)) only [go_sem, simprocAttr, ↓reduceIte, xx, S43, ac_length, hx, hq]
    · simp (disch := ((fail_if_success (intro _)); omega)) only [go_sem, simprocAttr, ↓reduceIte, xx, S43]
    · exact hs
    · simp (disch := ((fail_if_success (intro _)); omega)) only [go_sem, simprocAttr, ↓reduceIte, xx, S43, ac_length, hx, hq]
  · rw [iter_to (S43 f m l q) k (by unfold LF; omega)]
    · simp (disch := ((fail_if_success (intro _)); omega)) only [go_sem, simprocAttr, ↓reduceIte, xx, S43, ac_length]
    · simp (disch := ((fail_if_success (intro _)); omega)) only [go_sem, simprocAttr, ↓reduceIte, xx, S43]
    · exact hs
    · simp (disch := ((fail_if_success (intro _)); omega)) only [go_sem, simprocAttr, ↓reduceIte, xx, S43, ac_length]
/-- Both ways to a tenant's place. -/
theorem places (h : 4 ≤ n) {l : List A3} (hv : VA l) (ht : ∀ i, i < l.length → (aat l i).t ≤ 9223372036854775807) {q : Int} (hq : -9223372036854775808 ≤ q ∧ q ≤ 9223372036854775807) :
    ∃ (k : Nat) (b : Bool), k ≤ l.length ∧ (0 < q → Pl l q k) ∧ (b = true → k < l.length ∧ (aat l k).t = q) ∧ (b = false → ¬ has l q) ∧
      call gl tab n 40 [.lst false sA (ac l), i64 q] [] = some (.tup [i64 k, .bool b], [], []) ∧ call gl tab n 43 [.lst false sA (ac l), i64 q] [] = some (i64 (if b then k else -1), [], []) := by
  obtain ⟨d, rfl⟩ := Nat.exists_eq_add_of_le' h
  have hn := hv.n
  obtain ⟨k, hk, hp, b, hb, c46⟩ := @search_at gl (d + 3) (by omega) false sA l (.inr rfl) hv ht q hq
  have hk2 : b = true → k < l.length ∧ (aat l k).t = q := fun h => by
    obtain ⟨j, hj, hj2⟩ := hb.1 h
    have h0 : 0 < q := by have := ten_pos hv hj; omega
    have p := hp h0
    rcases Nat.lt_trichotomy j k with h3 | h3 | h3
    · have := p.lo j h3; omega
    · subst h3; exact ⟨hj, hj2⟩
    · have := ten_lt hv h3 hj
      have := p.hi k (Nat.le_refl _) (by omega); omega
  refine ⟨k, b, hk, hp, hk2, fun h h' => by have := hb.2 h'; simp_all, ?_, ?_⟩
  · rw [call_go (fd := fd40) rfl]
    simp (disch := ((fail_if_success (intro _)); omega)) only [go_sem, simprocAttr, ↓reduceIte, xx, fd40, m40, c46]
  · cases b with
    | false =>
      rw [rplace_at (by omega) (.inr rfl) hn (Nat.le_refl l.length) (fun j hj h' => by have := hb.2 ⟨j, hj, h'⟩; simp at this) (fun h => absurd h (by omega))]
      simp
    | true =>
      obtain ⟨h1, h2⟩ := hk2 rfl
      rw [rplace_at (by omega) (.inr rfl) hn hk (fun j hj h' => by have := ten_lt hv hj h1; omega) (fun _ => h2)]
      simp [h1]
/-! ### Open -/
def insA (l : List A3) (k : Nat) (q w : Int) : List A3 := l.take k ++ ⟨q, w, 0⟩ :: l.drop k
theorem insA_ac (l : List A3) (k : Nat) (q w : Int) : insL (ac l) k (.agg [i64 q, i64 w, i64 0]) = ac (insA l k q w) := by simp [insL, ac, insA]
theorem insA_length {l : List A3} {k : Nat} (hk : k ≤ l.length) (q w : Int) : (insA l k q w).length = l.length + 1 := by simp [insA]; omega
theorem clone_at (h : 1 ≤ n) {f : Bool} {l : List A3} (hl : l.length ≤ 1000) : call gl tab n 42 [.lst f sA (ac l)] [] = some (.sl 20000 [] 0 l.length, [], [.grow sA (ac l)]) := by
  obtain ⟨d, rfl⟩ := Nat.exists_eq_add_of_le' h
  rw [call_giv (fd := fd42) rfl rfl]
  have h1 : l.length ≤ LIM := by unfold LIM; omega
  simp [cloneG, ac_length, h1, Sh.beq, Sh.beqs]
theorem insert_at (h : 1 ≤ n) {l : List A3} (hl : l.length ≤ 1000) {k : Nat} (hk : k ≤ l.length) (q w : Int) :
    call gl tab n 41 [.sl 100000 [] 0 l.length, i64 k, .sl 100001 [] 0 1] [(100000, .grow sA (ac l)), (100001, .grow sA [.agg [i64 q, i64 w, i64 0]])] =
      some (.sl 20000 [] 0 (l.length + 1), [(100000, .dead), (100001, .grow sA [.agg [i64 q, i64 w, i64 0]])], [.grow sA (ac (insA l k q w))]) := by
  obtain ⟨d, rfl⟩ := Nat.exists_eq_add_of_le' h
  rw [call_giv (fd := fd41) rfl rfl]
  have hlim : l.length + 1 ≤ LIM := by unfold LIM; omega
  have hi := insA_ac l k q w
  simp [insertG, ac_length, Sh.beq, Sh.beqs, hlim, hk, hi]
theorem open_ok (h : 6 ≤ n) {l : List A3} (hv : VA l) {q w : Int} {k : Nat} (hk : k ≤ l.length) (hw : (1 ≤ q) ∧ 1 ≤ w ∧ w ≤ 1048576) (hl : l.length < 1000)
    (c40 : call gl tab (n - 1) 40 [.lst false sA (ac l), i64 q] [] = some (.tup [i64 k, .bool false], [], [])) :
    call gl tab n 22 [.lst false sA (ac l), i64 q, i64 w] [] = some (.tup [.lst false sA (ac (insA l k q w)), i64 0], [], []) := by
  obtain ⟨d, rfl⟩ := Nat.exists_eq_add_of_le' h
  rw [show d + 6 - 1 = d + 5 from rfl] at c40; have c := c40; clear c40
  have c42 := @clone_at gl (d + 5) (by omega) false l (by omega)
  have c41 := @insert_at gl (d + 5) (by omega) l (by omega) k hk q w
  have e1 := @insA_length l k hk q w
  have e2 := ac_take' (insA l k q w)
  rw [e1] at e2
  rw [call_go (fd := fd22) rfl]
  simp (disch := ((fail_if_success (intro _)); omega)) only [go_sem, simprocAttr, ↓reduceIte, xx, fd22, m22, c, ac_length, c42, c41, e1, e2]
/-- What is wrong with opening an account. -/
def oerr (l : List A3) (q w : Int) (b : Bool) : Int := if q < 1 ∨ w < 1 ∨ 1048576 < w then 1 else if b then 6 else if 1000 ≤ l.length then 2 else 0
theorem open_no (h : 6 ≤ n) {l : List A3} {q w : Int} {k : Nat} {b : Bool} (he : oerr l q w b ≠ 0)
    (c40 : call gl tab (n - 1) 40 [.lst false sA (ac l), i64 q] [] = some (.tup [i64 k, .bool b], [], [])) :
    call gl tab n 22 [.lst false sA (ac l), i64 q, i64 w] [] = some (.tup [.lst true .sc [], i64 (oerr l q w b)], [], []) := by
  obtain ⟨d, rfl⟩ := Nat.exists_eq_add_of_le' h
  rw [show d + 6 - 1 = d + 5 from rfl] at c40; have c := c40; clear c40
  rw [call_go (fd := fd22) rfl]
  unfold oerr at *
  by_cases h1 : q < 1
  · simp (disch := ((fail_if_success (intro _)); omega)) only [go_sem, simprocAttr, ↓reduceIte, xx, fd22, m22, c, ac_length, true_or, if_true]
  by_cases h2 : w < 1
  · simp (disch := ((fail_if_success (intro _)); omega)) only [go_sem, simprocAttr, ↓reduceIte, xx, fd22, m22, c, ac_length, true_or, or_true, if_true]
  by_cases h3 : 1048576 < w
  · simp (disch := ((fail_if_success (intro _)); omega)) only [go_sem, simprocAttr, ↓reduceIte, xx, fd22, m22, c, ac_length, true_or, or_true, if_true]
  cases b with
  | true => simp (disch := ((fail_if_success (intro _)); omega)) only [go_sem, simprocAttr, ↓reduceIte, xx, fd22, m22, c, ac_length, or_self, if_false]
  | false =>
    by_cases h4 : 1000 ≤ l.length
    · simp (disch := ((fail_if_success (intro _)); omega)) only [go_sem, simprocAttr, ↓reduceIte, xx, fd22, m22, c, ac_length, or_self, if_false, Bool.false_eq_true]
    · simp [h1, h2, h3, h4] at he
theorem ropen_no (h : 6 ≤ n) {l : List A3} {q w : Int} {k : Nat} {b : Bool} (he : oerr l q w b ≠ 0)
    (c43 : call gl tab (n - 1) 43 [.lst false sA (ac l), i64 q] [] = some (i64 (if b then k else -1), [], [])) :
    call gl tab n 23 [.lst false sA (ac l), i64 q, i64 w] [] = some (.agg [.lst true .sc [], i64 (oerr l q w b)], [], []) := by
  obtain ⟨d, rfl⟩ := Nat.exists_eq_add_of_le' h
  rw [show d + 6 - 1 = d + 5 from rfl] at c43; have c := c43; clear c43
  rw [call_go (fd := fd23) rfl]
  unfold oerr at *
  by_cases h1 : q < 1
  · simp (disch := ((fail_if_success (intro _)); omega)) only [go_sem, simprocAttr, ↓reduceIte, xx, fd23, m23, c, ac_length, true_or, if_true]
  by_cases h2 : w < 1
  · simp (disch := ((fail_if_success (intro _)); omega)) only [go_sem, simprocAttr, ↓reduceIte, xx, fd23, m23, c, ac_length, true_or, or_true, if_true]
  by_cases h3 : 1048576 < w
  · simp (disch := ((fail_if_success (intro _)); omega)) only [go_sem, simprocAttr, ↓reduceIte, xx, fd23, m23, c, ac_length, true_or, or_true, if_true]
  cases b with
  | true =>
    simp only [if_true] at c
    simp (disch := ((fail_if_success (intro _)); omega)) only [go_sem, simprocAttr, ↓reduceIte, xx, fd23, m23, c, ac_length, or_self, if_false]
  | false =>
    simp only [Bool.false_eq_true, if_false] at c
    by_cases h4 : 1000 ≤ l.length
    · simp (disch := ((fail_if_success (intro _)); omega)) only [go_sem, simprocAttr, ↓reduceIte, xx, fd23, m23, c, ac_length, or_self, if_false, Bool.false_eq_true]
    · simp [h1, h2, h3, h4] at he
/-- What 'Open' of the specification has made after i accounts. -/
def opn (l : List A3) (k : Nat) (q w : Int) : Nat → List A3
  | 0 => []
  | i + 1 => (if i = k then opn l k q w i ++ [⟨q, w, 0⟩] else opn l k q w i) ++ [aat l i]
theorem opn_eq {l : List A3} {k : Nat} {q w : Int} : ∀ {i : Nat}, i ≤ l.length → opn l k q w i = if i ≤ k then l.take i else insA (l.take i) k q w
  | 0, _ => by simp [opn]
  | i + 1, h => by
    have e1 : l.take (i + 1) = l.take i ++ [aat l i] := by rw [List.take_add_one, List.getElem?_eq_getElem (by omega)]; simp [aat, List.getD, List.getElem?_eq_getElem (show i < l.length by omega)]
    rw [opn, opn_eq (show i ≤ l.length by omega)]
    by_cases h1 : i = k
    · subst h1
      rw [if_pos rfl, if_pos (Nat.le_refl _), if_neg (by omega), e1]
      simp [insA, List.take_append_of_le_length, List.length_take, Nat.min_eq_left (show i ≤ l.length by omega)]
    · rw [if_neg h1]
      by_cases h2 : i ≤ k
      · rw [if_pos h2, if_pos (by omega), e1]
      · rw [if_neg h2, if_neg (by omega), e1]
        simp only [insA]
        rw [List.take_append_of_le_length (by simp; omega), List.drop_append_of_le_length (by simp; omega)]
        simp
theorem opn_length {l : List A3} {k : Nat} {q w : Int} {i : Nat} (h : i ≤ l.length) : (opn l k q w i).length = if i ≤ k then i else i + 1 := by
  rw [opn_eq h]
  split
  · simp; omega
  · rw [insA_length (by simp; omega)]; simp; omega
def L23 : MC := match m23 with | .seq _ (.seq _ (.seq _ (.seq _ (.seq _ (.seq _ (.seq (.seq _ (.block _ (.loop _ b))) _)))))) => b | _ => .skip
def S23 (l : List A3) (k : Nat) (q w : Int) (i : Nat) : St :=
  ⟨[.set 9 (i64 i), .set 8 (.bool (decide (k < i))), .set 7 (.sl 5007 [] 0 (opn l k q w i).length), .set 6 (.ptr 6 []), .set 2 (i64 w), .set 1 (i64 q), .set 0 (.lst false sA (ac l))],
   [(6, .fix sS (.agg [.lst true .sc [], i64 0])), (5007, .grow sA (ac (opn l k q w i)))]⟩
set_option maxHeartbeats 1000000 in
theorem ropen_ok (h : 6 ≤ n) {l : List A3} (hv : VA l) {q w : Int} {k : Nat} (hk : Pl l q k) (hn : ¬ has l q) (hw : (1 ≤ q) ∧ 1 ≤ w ∧ w ≤ 1048576) (hl : l.length < 1000)
    (c43 : call gl tab (n - 1) 43 [.lst false sA (ac l), i64 q] [] = some (i64 (-1), [], [])) :
    call gl tab n 23 [.lst false sA (ac l), i64 q, i64 w] [] = some (.agg [.lst false sA (ac (insA l k q w)), i64 0], [], []) := by
  obtain ⟨d, rfl⟩ := Nat.exists_eq_add_of_le' h
  rw [show d + 6 - 1 = d + 5 from rfl] at c43; have c := c43; clear c43
  have hkl := hk.le
  have hs : ∀ i, i < l.length → contK [.slot 0, .slot 1, .slot 2, .slot 6, .own 7 5007 (.st [.sc, .sc, .sc]), .slot 8, .slot 9, .key 6] (evC gl (call gl tab (d + 5)) L23 (S23 l k q w i)) = some (S23 l k q w (i + 1)) := fun i hi => by
    have hx := ac_at hi
    have hlen := @opn_length l k q w i (by omega)
    have hlim : (opn l k q w i).length + 1 ≤ LIM := by rw [hlen]; unfold LIM; split <;> omega
    have hlim2 : (opn l k q w i).length + 1 + 1 ≤ LIM := by rw [hlen]; unfold LIM; split <;> omega
    have htk := fun v => ac_take (opn l k q w i) v
    rcases Nat.lt_trichotomy i k with h3 | h3 | h3
    · have h4 : ¬ q < (aat l i).t := by have := hk.lo i h3; omega
      have h5 : ¬ k < i := by omega
      have h6 : ¬ k < i + 1 := by omega
      have e : opn l k q w (i + 1) = opn l k q w i ++ [aat l i] := by rw [opn, if_neg (by omega)]
      simp (disch := ((fail_if_success (intro _)); omega)) only [go_sem, simprocAttr, ↓reduceIte, xx, L23, m23, S23, ac_length, hx, h4, h5, h6, e, ac_app, htk, hlim, List.length_append]
    · have h4 : q < (aat l i).t := by have := hk.hi i (by omega) hi; have : (aat l i).t ≠ q := fun h => hn ⟨i, hi, h⟩; omega
      have h5 : ¬ k < i := by omega
      have h6 : k < i + 1 := by omega
      have e : opn l k q w (i + 1) = opn l k q w i ++ [⟨q, w, 0⟩] ++ [aat l i] := by rw [opn, if_pos h3]
      simp (disch := ((fail_if_success (intro _)); omega)) only [go_sem, simprocAttr, ↓reduceIte, xx, L23, m23, S23, ac_length, hx, h4, h5, h6, e, ac_app, htk, hlim, hlim2, List.length_append]
    · have h5 : k < i := by omega
      have h6 : k < i + 1 := by omega
      have e : opn l k q w (i + 1) = opn l k q w i ++ [aat l i] := by rw [opn, if_neg (by omega)]
      simp (disch := ((fail_if_success (intro _)); omega)) only [go_sem, simprocAttr, ↓reduceIte, xx, L23, m23, S23, ac_length, hx, h5, h6, e, ac_app, htk, hlim, List.length_append]
  simp only [L23, m23] at hs
  rw [call_go (fd := fd23) rfl]
  simp (disch := ((fail_if_success (intro _)); omega)) only [go_sem, simprocAttr, ↓reduceIte, xx, fd23, m23, c, ac_length]
  rw [iter_to (S23 l k q w) l.length (by unfold LF; omega)]
  · by_cases h5 : k < l.length
    · have e : opn l k q w l.length = insA l k q w := by rw [opn_eq (Nat.le_refl _), if_neg (by omega), List.take_length]
      have e1 := @insA_length l k hkl q w
      have e3 := ac_take' (insA l k q w)
      rw [e1] at e3
      simp (disch := ((fail_if_success (intro _)); omega)) only [go_sem, simprocAttr, ↓reduceIte, xx, S23, ac_length, h5, e, e1, e3]
    · have e : opn l k q w l.length = l := by rw [opn_eq (Nat.le_refl _), if_pos (by omega), List.take_length]
      have e2 : insA l k q w = l ++ [⟨q, w, 0⟩] := by
        have : k = l.length := by omega
        subst this; simp [insA]
      have hlim : l.length + 1 ≤ LIM := by unfold LIM; omega
      have htk := fun v => ac_take l v
      simp (disch := ((fail_if_success (intro _)); omega)) only [go_sem, simprocAttr, ↓reduceIte, xx, S23, ac_length, h5, e, e2, ac_app, htk, hlim]
  · simp (disch := ((fail_if_success (intro _)); omega)) only [go_sem, simprocAttr, ↓reduceIte, xx, S23, ac_length, opn, ac_nil, List.length_nil, Nat.not_lt_zero]
  · exact hs
  · simp (disch := ((fail_if_success (intro _)); omega)) only [go_sem, simprocAttr, ↓reduceIte, xx, S23, ac_length]
end Go.Proofs.S16
