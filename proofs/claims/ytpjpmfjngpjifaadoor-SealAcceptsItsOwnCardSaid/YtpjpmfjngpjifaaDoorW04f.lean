/-
  Chapter 4: the current key, in both. No condition.
-/
import Derived.Test.YtpjpmfjngpjifaaDoorW04G4x8
set_option linter.unusedVariables false
set_option linter.unusedSimpArgs false
set_option linter.unusedSectionVars false
namespace Go.Proofs.S04
open Go Go.Ev Go.Proofs
variable {gl : Gl} {n : Nat}
abbrev K0 : Ky := ⟨0, 0, [], 0, 0⟩
def has (l : List Ky) (p : Int) : Nat → Bool
  | 0 => false
  | i + 1 => has l p i || ((yat l i).p == p)
def hasB (l : List Ky) (p : Int) (N : Nat) : Nat → Bool
  | 0 => false
  | j + 1 => ((yat l (N - 1 - j)).p == p) || hasB l p N j
theorem has_iff (l : List Ky) (p : Int) : ∀ N, has l p N = true ↔ ∃ i, i < N ∧ (yat l i).p = p
  | 0 => by simp [has]
  | N + 1 => by
    rw [has, Bool.or_eq_true, has_iff l p N, beq_iff_eq]
    constructor
    · rintro (⟨i, h1, h2⟩ | h)
      · exact ⟨i, by omega, h2⟩
      · exact ⟨N, by omega, h⟩
    · rintro ⟨i, h1, h2⟩
      by_cases h : i = N
      · subst h; exact .inr h2
      · exact .inl ⟨i, by omega, h2⟩
theorem hasB_iff (l : List Ky) (p : Int) (N : Nat) : ∀ j, j ≤ N → (hasB l p N j = true ↔ ∃ i, N - j ≤ i ∧ i < N ∧ (yat l i).p = p)
  | 0, _ => by simp [hasB]; intro x h1 h2; omega
  | j + 1, hj => by
    rw [hasB, Bool.or_eq_true, hasB_iff l p N j (by omega), beq_iff_eq]
    constructor
    · rintro (h | ⟨i, h1, h2, h3⟩)
      · exact ⟨N - 1 - j, by omega, by omega, h⟩
      · exact ⟨i, by omega, h2, h3⟩
    · rintro ⟨i, h1, h2, h3⟩
      by_cases h : i = N - 1 - j
      · subst h; exact .inl h3
      · exact .inr ⟨i, by omega, h2, h3⟩
theorem hasB_all (l : List Ky) (p : Int) (N : Nat) : hasB l p N N = has l p N := by
  rw [Bool.eq_iff_iff, hasB_iff l p N N (Nat.le_refl _), has_iff]
  constructor
  · rintro ⟨i, _, h⟩; exact ⟨i, h⟩
  · rintro ⟨i, h⟩; exact ⟨i, by omega, h⟩
def Cn (l : List Ky) (p lo hi : Int) (i : Nat) : Prop := (yat l i).p = p ∧ cnt (yat l i) lo hi = true
def er (b : Bool) : Int := if b then 9 else 5
def fC (l : List Ky) (p lo hi : Int) : Nat → Ky × Int
  | 0 => (K0, 5)
  | i + 1 => if (yat l i).p = p then (if cnt (yat l i) lo hi = true then (yat l i, 0) else if (fC l p lo hi i).2 = 5 then ((fC l p lo hi i).1, 9) else fC l p lo hi i) else fC l p lo hi i
theorem fC_none {l : List Ky} {p lo hi : Int} : ∀ N, (∀ i, i < N → ¬ Cn l p lo hi i) → fC l p lo hi N = (K0, er (has l p N))
  | 0, _ => rfl
  | N + 1, h => by
    have ih := fC_none (l := l) (p := p) (lo := lo) (hi := hi) N fun i hi' => h i (by omega)
    rw [fC, ih, has]
    by_cases h1 : (yat l N).p = p
    · have h2 : ¬ cnt (yat l N) lo hi = true := fun h2 => h N (by omega) ⟨h1, h2⟩
      rw [if_pos h1, if_neg h2, show ((yat l N).p == p) = true by rw [beq_iff_eq]; exact h1, Bool.or_true]
      cases has l p N <;> rfl
    · rw [if_neg h1, show ((yat l N).p == p) = false by rw [beq_eq_false_iff_ne]; exact h1, Bool.or_false]
theorem fC_last {l : List Ky} {p lo hi : Int} {k : Nat} (hk : Cn l p lo hi k) : ∀ N, k < N → (∀ i, k < i → i < N → ¬ Cn l p lo hi i) → fC l p lo hi N = (yat l k, 0)
  | N + 1, hN, h => by
    rw [fC]
    by_cases e : k = N
    · subst e; rw [if_pos hk.1, if_pos hk.2]
    · have ih := fC_last hk N (by omega) fun i h1 h2 => h i h1 (by omega)
      rw [ih]
      by_cases h1 : (yat l N).p = p
      · have h2 : ¬ cnt (yat l N) lo hi = true := fun h2 => h N (by omega) (by omega) ⟨h1, h2⟩
        rw [if_pos h1, if_neg h2, if_neg (by simp)]
      · rw [if_neg h1]
def L19 : MC := match m19 with | .seq _ (.seq _ (.seq (.seq _ (.block _ (.loop _ b))) _)) => b | _ => .skip
abbrev fnd (x : Ky × Int) : AV := .agg [ky x.1, i64 x.2]
def S19 (f : Bool) (m : Sh) (l : List Ky) (p lo hi : Int) (i : Nat) : St :=
  ⟨[.set 8 (i64 i), .set 7 (.ptr 7 []), .set 6 (.ptr 6 []), .set 5 (.ptr 5 []), .set 1 (i64 p), .set 0 (.lst f m (ks l))],
    [(7, .fix (.st [sY, .sc]) (fnd (fC l p lo hi i))), (6, .fix (.st [sY, .sc]) (fnd (K0, 0))), (5, .fix (.st [.sc, .sc]) (.agg [i64 lo, i64 hi]))]⟩
set_option maxHeartbeats 1000000 in
theorem rcur_at (h : 2 ≤ n) {f : Bool} {m : Sh} {l : List Ky} (hm : Mk l m) (hl : l.length < 2 ^ 60) (p lo hi : Int) :
    call gl tab n 19 [.lst f m (ks l), i64 p, .agg [i64 lo, i64 hi]] [] = some (fnd (fC l p lo hi l.length), [], []) := by
  obtain ⟨d, rfl⟩ := Nat.exists_eq_add_of_le' h
  have hs : ∀ i, i < l.length → contK [.slot 0, .slot 1, .slot 5, .slot 6, .slot 7, .slot 8, .key 5, .key 6, .key 7] (evC gl (call gl tab (d + 1)) L19 (S19 f m l p lo hi i)) = some (S19 f m l p lo hi (i + 1)) := fun i hi' => by
    have hx := ks_at hi'
    obtain rfl := hm.eq hi'
    have c55 := @rcounts_at gl (d + 1) (by omega) (yat l i) lo hi
    by_cases h1 : (yat l i).p = p
    · have h2 : ((yat l i).p != p) = false := by rw [h1]; exact bne_self_eq_false p
      cases h3 : cnt (yat l i) lo hi with
      | true =>
        rw [h3] at c55
        have e : fC l p lo hi (i + 1) = (yat l i, 0) := by rw [fC, if_pos h1, if_pos h3]
        rw [S19, S19, e]
        generalize fC l p lo hi i = q at *
        simp (disch := ((fail_if_success (intro _)); omega)) only [go_sem, simprocAttr, ↓reduceIte, ↓Nat.reduceEqDiff, xx, L19, m19, hx, ks_length, h2, c55]
      | false =>
        rw [h3] at c55
        by_cases h4 : (fC l p lo hi i).2 = 5
        · have e : fC l p lo hi (i + 1) = ((fC l p lo hi i).1, 9) := by rw [fC, if_pos h1, if_neg (by rw [h3]; decide), if_pos h4]
          rw [S19, S19, e]
          generalize fC l p lo hi i = q at *
          obtain ⟨q1, q2⟩ := q
          simp only at h4
          subst h4
          simp (disch := ((fail_if_success (intro _)); omega)) only [go_sem, simprocAttr, ↓reduceIte, ↓Nat.reduceEqDiff, xx, L19, m19, hx, ks_length, h2, c55, beq_self_eq_true]
        · have e : fC l p lo hi (i + 1) = fC l p lo hi i := by rw [fC, if_pos h1, if_neg (by rw [h3]; decide), if_neg h4]
          rw [S19, S19, e]
          generalize fC l p lo hi i = q at *
          have h5 : (q.2 == 5) = false := by rw [beq_eq_false_iff_ne]; exact h4
          simp (disch := ((fail_if_success (intro _)); omega)) only [go_sem, simprocAttr, ↓reduceIte, ↓Nat.reduceEqDiff, xx, L19, m19, hx, ks_length, h2, c55, h5]
    · have h2 : ((yat l i).p != p) = true := by simpa using h1
      have e : fC l p lo hi (i + 1) = fC l p lo hi i := by rw [fC, if_neg h1]
      rw [S19, S19, e]
      generalize fC l p lo hi i = q at *
      simp (disch := ((fail_if_success (intro _)); omega)) only [go_sem, simprocAttr, ↓reduceIte, ↓Nat.reduceEqDiff, xx, L19, m19, hx, ks_length, h2]
  simp only [L19, m19] at hs
  rw [call_go (fd := fd19) rfl]
  simp (disch := ((fail_if_success (intro _)); omega)) only [go_sem, simprocAttr, ↓reduceIte, ↓Nat.reduceEqDiff, xx, fd19, m19, ks_length]
  rw [iter_to (S19 f m l p lo hi) l.length (by unfold LF; omega)]
  · rw [S19]
    generalize fC l p lo hi l.length = q at *
    simp (disch := ((fail_if_success (intro _)); omega)) only [go_sem, simprocAttr, ↓reduceIte, ↓Nat.reduceEqDiff, xx, ks_length]
  · simp (disch := ((fail_if_success (intro _)); omega)) only [go_sem, simprocAttr, ↓reduceIte, ↓Nat.reduceEqDiff, xx, S19, fC, ks_length]
  · exact hs
  · rw [S19]
    generalize fC l p lo hi l.length = q at *
    simp (disch := ((fail_if_success (intro _)); omega)) only [go_sem, simprocAttr, ↓reduceIte, ↓Nat.reduceEqDiff, xx, ks_length]
abbrev sP : Sh := .st [.sc, .sc]
def cel (p lo hi : Int) (o : Ky) (e b : Int) : Hp := [(100005, .fix .sc (i64 b)), (100004, .fix .sc (i64 e)), (100003, .fix sY (ky o)), (100002, .fix sP (.agg [i64 lo, i64 hi])), (100001, .fix .sc (i64 p))]
abbrev vls : List AV := [.ptr 100001 [], .ptr 100002 [], .ptr 100003 [], .ptr 100004 [], .ptr 100005 []]
theorem rnd_no (h : 2 ≤ n) (x : Ky) (t p lo hi : Int) (o : Ky) (e b : Int) (hp : x.p ≠ p) : call gl tab n 1000180 [i64 t, ky x] [(100000, .lp 180 vls .ready), (100001, .fix .sc (i64 p)), (100002, .fix sP (.agg [i64 lo, i64 hi])), (100003, .fix sY (ky o)), (100004, .fix .sc (i64 e)), (100005, .fix .sc (i64 b))] =
    some (.bool true, [(100000, .lp 180 vls .ready), (100001, .fix .sc (i64 p)), (100002, .fix sP (.agg [i64 lo, i64 hi])), (100003, .fix sY (ky o)), (100004, .fix .sc (i64 e)), (100005, .fix .sc (i64 b))], []) := by
  obtain ⟨d, rfl⟩ := Nat.exists_eq_add_of_le' h
  have h2 : (x.p != p) = true := by simpa using hp
  rw [call_giv (fd := fdR180) rfl rfl]
  simp (disch := ((fail_if_success (intro _)); omega)) only [go_sem, simprocAttr, ↓reduceIte, ↓Nat.reduceEqDiff, xx, fdR180, ma180, mb180, h2]
theorem rnd_off (h : 2 ≤ n) (x : Ky) (t lo hi : Int) (o : Ky) (e b : Int) (hc : cnt x lo hi = false) : call gl tab n 1000180 [i64 t, ky x] [(100000, .lp 180 vls .ready), (100001, .fix .sc (i64 x.p)), (100002, .fix sP (.agg [i64 lo, i64 hi])), (100003, .fix sY (ky o)), (100004, .fix .sc (i64 e)), (100005, .fix .sc (i64 b))] =
    some (.bool true, [(100000, .lp 180 vls .ready), (100001, .fix .sc (i64 x.p)), (100002, .fix sP (.agg [i64 lo, i64 hi])), (100003, .fix sY (ky o)), (100004, .fix .sc (i64 e)), (100005, .fix .sc (i64 9))], []) := by
  obtain ⟨d, rfl⟩ := Nat.exists_eq_add_of_le' h
  have c62 := @counts_at gl (d + 1) (by omega) x lo hi
  rw [hc] at c62
  rw [call_giv (fd := fdR180) rfl rfl]
  simp (disch := ((fail_if_success (intro _)); omega)) only [go_sem, simprocAttr, ↓reduceIte, ↓Nat.reduceEqDiff, xx, fdR180, ma180, mb180, bne_self_eq_false, c62]
theorem rnd_on (h : 2 ≤ n) (x : Ky) (t lo hi : Int) (o : Ky) (e b : Int) (hc : cnt x lo hi = true) : call gl tab n 1000180 [i64 t, ky x] [(100000, .lp 180 vls .ready), (100001, .fix .sc (i64 x.p)), (100002, .fix sP (.agg [i64 lo, i64 hi])), (100003, .fix sY (ky o)), (100004, .fix .sc (i64 e)), (100005, .fix .sc (i64 b))] =
    some (.bool false, [(100000, .lp 180 vls (.done .ret)), (100001, .fix .sc (i64 x.p)), (100002, .fix sP (.agg [i64 lo, i64 hi])), (100003, .fix sY (ky x)), (100004, .fix .sc (i64 0)), (100005, .fix .sc (i64 b))], []) := by
  obtain ⟨d, rfl⟩ := Nat.exists_eq_add_of_le' h
  have c62 := @counts_at gl (d + 1) (by omega) x lo hi
  rw [hc] at c62
  rw [call_giv (fd := fdR180) rfl rfl]
  simp (disch := ((fail_if_success (intro _)); omega)) only [go_sem, simprocAttr, ↓reduceIte, ↓Nat.reduceEqDiff, xx, fdR180, ma180, mb180, bne_self_eq_false, c62]
theorem back_at (h : 1 ≤ n) {f : Bool} {m : Sh} {l : List Ky} : call gl tab n 61 [.lst f m (ks l)] [] = some (.fn 84 [.ptr 20000 []], [], [.fix .sc (.lst f m (ks l))]) := by
  obtain ⟨d, rfl⟩ := Nat.exists_eq_add_of_le' h
  rw [call_gen (fd := fd61) rfl]
  simp (disch := ((fail_if_success (intro _)); omega)) only [go_sem, simprocAttr, ↓reduceIte, ↓Nat.reduceEqDiff, xx, fd61, m61]
def L84 : MC := match m84 with | .seq _ (.block _ (.loop _ b)) => b | _ => .skip
def bk (b : Bool) : Int := if b then 9 else 0
def S84 (f : Bool) (m : Sh) (l : List Ky) (p lo hi : Int) (e0 : Int) (j : Nat) : St :=
  ⟨[.set 3 (i64 ((l.length : Int) - 1 - j)), .set 1 (.ptr 100006 []), .set 0 (.yld 100000)],
    (100006, .fix .sc (.lst f m (ks l))) :: (cel p lo hi K0 e0 (if hasB l p l.length j then 9 else 5) ++ [(100000, .lp 180 vls .ready)])⟩
theorem st84 {d : Nat} {f : Bool} {m : Sh} {l : List Ky} (hm : Mk l m) (hl : l.length < 2 ^ 60) {p lo hi e0 : Int} {j : Nat} (hj : j < l.length) (hn : ¬ Cn l p lo hi (l.length - 1 - j)) :
    contK [.slot 0, .slot 1, .slot 3] (evC gl (call gl tab (d + 2)) L84 (S84 f m l p lo hi e0 j)) = some (S84 f m l p lo hi e0 (j + 1)) := by
  have hi' : l.length - 1 - j < l.length := by omega
  have hx := ks_at hi'
  obtain rfl := hm.eq hi'
  have ei : (l.length : Int) - 1 - j = ((l.length - 1 - j : Nat) : Int) := by omega
  have ej : (l.length : Int) - 1 - ((j + 1 : Nat) : Int) = ((l.length - 1 - j : Nat) : Int) - 1 := by omega
  rw [S84, S84, hasB, ei, ej]
  by_cases h1 : (yat l (l.length - 1 - j)).p = p
  · have h3 : cnt (yat l (l.length - 1 - j)) lo hi = false := by
      cases e : cnt (yat l (l.length - 1 - j)) lo hi with
      | false => rfl
      | true => exact absurd ⟨h1, e⟩ hn
    subst h1
    have c := fun t e b => @rnd_off gl (d + 2) (by omega) (yat l (l.length - 1 - j)) t lo hi K0 e b h3
    rw [beq_self_eq_true, Bool.true_or, if_pos rfl]
    generalize (if hasB l _ l.length j = true then (9 : Int) else 5) = b0 at *
    generalize hq : l.length - 1 - j = q at *
    simp (disch := ((fail_if_success (intro _)); omega)) only [go_sem, simprocAttr, ↓reduceIte, ↓Nat.reduceEqDiff, xx, L84, m84, cel, hx, ks_length, c, List.cons_append, List.nil_append]
  · have h2 : ((yat l (l.length - 1 - j)).p == p) = false := by rw [beq_eq_false_iff_ne]; exact h1
    have c := fun t e b => @rnd_no gl (d + 2) (by omega) (yat l (l.length - 1 - j)) t p lo hi K0 e b h1
    rw [h2, Bool.false_or]
    generalize (if hasB l _ l.length j = true then (9 : Int) else 5) = b0 at *
    generalize hq : l.length - 1 - j = q at *
    simp (disch := ((fail_if_success (intro _)); omega)) only [go_sem, simprocAttr, ↓reduceIte, ↓Nat.reduceEqDiff, xx, L84, m84, cel, hx, ks_length, c, List.cons_append, List.nil_append]
theorem all_at (h : 3 ≤ n) {f : Bool} {m : Sh} {l : List Ky} (hm : Mk l m) (hl : l.length < 2 ^ 60) {p lo hi e0 : Int} (hn : ∀ i, i < l.length → ¬ Cn l p lo hi i) :
    call gl tab n 84 [.yld 100000, .ptr 100006 []] [(100000, .lp 180 vls .ready), (100001, .fix .sc (i64 p)), (100002, .fix sP (.agg [i64 lo, i64 hi])), (100003, .fix sY (ky K0)), (100004, .fix .sc (i64 e0)), (100005, .fix .sc (i64 5)), (100006, .fix .sc (.lst f m (ks l)))] =
    some (.tup [], [(100000, .lp 180 vls .ready), (100001, .fix .sc (i64 p)), (100002, .fix sP (.agg [i64 lo, i64 hi])), (100003, .fix sY (ky K0)), (100004, .fix .sc (i64 e0)), (100005, .fix .sc (i64 (er (has l p l.length)))), (100006, .fix .sc (.lst f m (ks l)))], []) := by
  obtain ⟨d, rfl⟩ := Nat.exists_eq_add_of_le' h
  have hs := fun j hj => @st84 gl d f m l hm hl p lo hi e0 j hj (hn _ (by omega))
  simp only [L84, m84] at hs
  have eb : (if hasB l p l.length l.length = true then (9 : Int) else 5) = er (has l p l.length) := by rw [hasB_all]; rfl
  have ez : (l.length : Int) - 1 - ((l.length : Nat) : Int) = -1 := by omega
  rw [call_gen (fd := fd84) rfl]
  simp (disch := ((fail_if_success (intro _)); omega)) only [go_sem, simprocAttr, ↓reduceIte, ↓Nat.reduceEqDiff, xx, fd84, m84, ks_length]
  rw [iter_to (S84 f m l p lo hi e0) l.length (by unfold LF; omega)]
  · rw [S84, eb, ez]
    generalize er (has l p l.length) = b0 at *
    simp (disch := ((fail_if_success (intro _)); omega)) only [go_sem, simprocAttr, ↓reduceIte, ↓Nat.reduceEqDiff, xx, cel, ks_length, List.cons_append, List.nil_append]
  · simp (disch := ((fail_if_success (intro _)); omega)) only [go_sem, simprocAttr, ↓reduceIte, ↓Nat.reduceEqDiff, xx, S84, cel, hasB, ks_length, List.cons_append, List.nil_append, Int.sub_zero]
  · exact hs
  · rw [S84, eb, ez]
    simp (disch := ((fail_if_success (intro _)); omega)) only [go_sem, simprocAttr, ↓reduceIte, ↓Nat.reduceEqDiff, xx, cel, ks_length, List.cons_append, List.nil_append]
theorem one_at (h : 3 ≤ n) {f : Bool} {m : Sh} {l : List Ky} (hm : Mk l m) (hl : l.length < 2 ^ 60) {p lo hi e0 : Int} {k : Nat} (hk : k < l.length) (hc : Cn l p lo hi k) (hn : ∀ i, k < i → i < l.length → ¬ Cn l p lo hi i) :
    ∃ b : Int, call gl tab n 84 [.yld 100000, .ptr 100006 []] [(100000, .lp 180 vls .ready), (100001, .fix .sc (i64 p)), (100002, .fix sP (.agg [i64 lo, i64 hi])), (100003, .fix sY (ky K0)), (100004, .fix .sc (i64 e0)), (100005, .fix .sc (i64 5)), (100006, .fix .sc (.lst f m (ks l)))] =
    some (.tup [], [(100000, .lp 180 vls (.done .ret)), (100001, .fix .sc (i64 p)), (100002, .fix sP (.agg [i64 lo, i64 hi])), (100003, .fix sY (ky (yat l k))), (100004, .fix .sc (i64 0)), (100005, .fix .sc (i64 b)), (100006, .fix .sc (.lst f m (ks l)))], []) := by
  obtain ⟨d, rfl⟩ := Nat.exists_eq_add_of_le' h
  refine ⟨if hasB l p l.length (l.length - 1 - k) then 9 else 5, ?_⟩
  have hs := fun j (hj : j < l.length - 1 - k) => @st84 gl d f m l hm hl p lo hi e0 j (by omega) (hn _ (by omega) (by omega))
  simp only [L84, m84] at hs
  have ei : (l.length : Int) - 1 - ((l.length - 1 - k : Nat) : Int) = (k : Int) := by omega
  have hx := ks_at hk
  obtain rfl := hm.eq hk
  obtain ⟨h1, h3⟩ := hc
  subst h1
  have c := fun t e b => @rnd_on gl (d + 2) (by omega) (yat l k) t lo hi K0 e b h3
  rw [call_gen (fd := fd84) rfl]
  simp (disch := ((fail_if_success (intro _)); omega)) only [go_sem, simprocAttr, ↓reduceIte, ↓Nat.reduceEqDiff, xx, fd84, m84, ks_length]
  rw [iter_to (S84 f sY l (yat l k).p lo hi e0) (l.length - 1 - k) (by unfold LF; omega)]
  · rw [S84, ei]
    generalize (if hasB l _ l.length _ = true then (9 : Int) else 5) = b0 at *
    simp (disch := ((fail_if_success (intro _)); omega)) only [go_sem, simprocAttr, ↓reduceIte, ↓Nat.reduceEqDiff, xx, cel, hx, ks_length, c, List.cons_append, List.nil_append]
  · simp (disch := ((fail_if_success (intro _)); omega)) only [go_sem, simprocAttr, ↓reduceIte, ↓Nat.reduceEqDiff, xx, S84, cel, hasB, ks_length, List.cons_append, List.nil_append, Int.sub_zero]
  · exact hs
  · rw [S84, ei]
    generalize (if hasB l _ l.length _ = true then (9 : Int) else 5) = b0 at *
    simp (disch := ((fail_if_success (intro _)); omega)) only [go_sem, simprocAttr, ↓reduceIte, ↓Nat.reduceEqDiff, xx, cel, hx, ks_length, c, List.cons_append, List.nil_append]
theorem last_ex (l : List Ky) (p lo hi : Int) : ∀ N, (∀ i, i < N → ¬ Cn l p lo hi i) ∨ ∃ k, k < N ∧ Cn l p lo hi k ∧ ∀ i, k < i → i < N → ¬ Cn l p lo hi i
  | 0 => .inl fun i h => absurd h (Nat.not_lt_zero _)
  | N + 1 => by
    classical
    by_cases h : Cn l p lo hi N
    · exact .inr ⟨N, by omega, h, fun i h1 h2 => by omega⟩
    · rcases last_ex l p lo hi N with h1 | ⟨k, h1, h2, h3⟩
      · refine .inl fun i hi' => ?_
        by_cases e : i = N
        · subst e; exact h
        · exact h1 i (by omega)
      · refine .inr ⟨k, by omega, h2, fun i h4 h5 => ?_⟩
        by_cases e : i = N
        · subst e; exact h
        · exact h3 i h4 (by omega)
set_option maxHeartbeats 1000000 in
theorem cur_at (h : 4 ≤ n) {f : Bool} {m : Sh} {l : List Ky} (hm : Mk l m) (hl : l.length < 2 ^ 60) (p lo hi : Int) :
    call gl tab n 18 [.lst f m (ks l), i64 p, .agg [i64 lo, i64 hi]] [] = some (.tup [ky (fC l p lo hi l.length).1, i64 (fC l p lo hi l.length).2], [], []) := by
  obtain ⟨d, rfl⟩ := Nat.exists_eq_add_of_le' h
  have c61 := @back_at gl (d + 3) (by omega) f m l
  rcases last_ex l p lo hi l.length with hn | ⟨k, hk, hc, hn⟩
  · have c84 := @all_at gl (d + 3) (by omega) f m l hm hl p lo hi 0 hn
    rw [fC_none l.length hn]
    generalize er (has l p l.length) = b0 at *
    rw [call_go (fd := fd18) rfl]
    simp (disch := ((fail_if_success (intro _)); omega)) only [go_sem, simprocAttr, ↓reduceIte, ↓Nat.reduceEqDiff, xx, fd18, m18, c61, c84]
  · obtain ⟨b, c84⟩ := @one_at gl (d + 3) (by omega) f m l hm hl p lo hi 0 k hk hc hn
    rw [fC_last hc l.length hk hn]
    rw [call_go (fd := fd18) rfl]
    simp (disch := ((fail_if_success (intro _)); omega)) only [go_sem, simprocAttr, ↓reduceIte, ↓Nat.reduceEqDiff, xx, fd18, m18, c61, c84]
end Go.Proofs.S04
