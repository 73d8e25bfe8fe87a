/-
  Chapter 16: shares and accounts; the functions that look at each of them once. No condition.
-/
import Derived.Test.YtjkgmpckddolfaaW16
import Derived.Test.YtjkgmpckddolfaaEvY
set_option linter.unusedVariables false
set_option linter.unusedSimpArgs false
set_option linter.unusedSectionVars false
namespace Go.Proofs.S16
open Go Go.Ev Go.Proofs
set_option linter.unusedSimpArgs false
set_option linter.unusedVariables false
variable {gl : Gl} {n : Nat}
abbrev i64 (n : Int) : AV := .int .i64 n
/-! ### Lists -/
structure S2 where
  w : Int
  x : Int
structure A3 where
  t : Int
  w : Int
  u : Int
def sh (l : List S2) : List AV := l.map fun s => .agg [i64 s.w, i64 s.x]
def ac (l : List A3) : List AV := l.map fun s => .agg [i64 s.t, i64 s.w, i64 s.u]
def ns (l : List Int) : List AV := l.map i64
abbrev sS : Sh := .st [.sc, .sc]
abbrev sA : Sh := .st [.sc, .sc, .sc]
def sat (l : List S2) (i : Nat) : S2 := l.getD i ⟨0, 0⟩
def aat (l : List A3) (i : Nat) : A3 := l.getD i ⟨0, 0, 0⟩
def nat (l : List Int) (i : Nat) : Int := l.getD i 0
theorem sh_length (l : List S2) : (sh l).length = l.length := by simp [sh]
theorem ac_length (l : List A3) : (ac l).length = l.length := by simp [ac]
theorem ns_length (l : List Int) : (ns l).length = l.length := by simp [ns]
theorem sh_at {l : List S2} {i : Nat} (h : i < l.length) : (sh l)[i]? = some (.agg [i64 (sat l i).w, i64 (sat l i).x]) := by simp [sh, sat, h]
theorem ac_at {l : List A3} {i : Nat} (h : i < l.length) : (ac l)[i]? = some (.agg [i64 (aat l i).t, i64 (aat l i).w, i64 (aat l i).u]) := by simp [ac, aat, h]
theorem ns_at {l : List Int} {i : Nat} (h : i < l.length) : (ns l)[i]? = some (i64 (nat l i)) := by simp [ns, nat, h]
theorem sh_nil : sh [] = [] := rfl
theorem ac_nil : ac [] = [] := rfl
theorem ns_nil : ns [] = [] := rfl
theorem sh_app (l : List S2) (s : S2) : sh (l ++ [s]) = sh l ++ [.agg [i64 s.w, i64 s.x]] := by simp [sh]
theorem ac_app (l : List A3) (s : A3) : ac (l ++ [s]) = ac l ++ [.agg [i64 s.t, i64 s.w, i64 s.u]] := by simp [ac]
theorem ns_app (l : List Int) (s : Int) : ns (l ++ [s]) = ns l ++ [i64 s] := by simp [ns]
theorem sh_take (l : List S2) (v : AV) : (sh l ++ [v]).take (l.length + 1) = sh l ++ [v] := by rw [← sh_length]; exact List.take_of_length_le (by simp)
theorem ac_take (l : List A3) (v : AV) : (ac l ++ [v]).take (l.length + 1) = ac l ++ [v] := by rw [← ac_length]; exact List.take_of_length_le (by simp)
theorem ns_take (l : List Int) (v : AV) : (ns l ++ [v]).take (l.length + 1) = ns l ++ [v] := by rw [← ns_length]; exact List.take_of_length_le (by simp)
theorem sh_take' (l : List S2) : (sh l).take l.length = sh l := by rw [← sh_length]; exact List.take_length
theorem ac_take' (l : List A3) : (ac l).take l.length = ac l := by rw [← ac_length]; exact List.take_length
theorem ns_take' (l : List Int) : (ns l).take l.length = ns l := by rw [← ns_length]; exact List.take_length
/-- What a list's make may be said to be, if it is empty. -/
def Mk {α : Type} (l : List α) (s m : Sh) : Prop := l = [] ∨ s = m
theorem Mk.eq {α : Type} {l : List α} {s m : Sh} (h : Mk l s m) {i : Nat} (hi : i < l.length) : s = m := h.resolve_left (by rintro rfl; simp at hi)
theorem first_fail (p : Nat → Prop) (N : Nat) : (∀ i, i < N → p i) ∨ ∃ k, k < N ∧ (∀ j, j < k → p j) ∧ ¬ p k := by
  classical
  by_cases h : ∀ i, i < N → p i
  · exact .inl h
  · obtain ⟨h1, h2, h3⟩ := fst_spec p N
    refine .inr ⟨fstN p N, ?_⟩
    rcases Nat.lt_or_ge (fstN p N) N with h4 | h4
    · exact ⟨h4, h2, h3 h4⟩
    · exact absurd (fun i hi => h2 i (by omega)) h
/-! ### Valid shares -/
structure SOk (s : S2) : Prop where
  w : 1 ≤ s.w ∧ s.w ≤ 1048576
  x : 0 ≤ s.x ∧ s.x ≤ 1099511627776
def badS (s : S2) : Bool := decide (s.w < 1) || decide (1048576 < s.w) || decide (s.x < 0) || decide (1099511627776 < s.x)
theorem badS_f {s : S2} : badS s = false ↔ SOk s := by
  simp only [badS, Bool.or_eq_false_iff, decide_eq_false_iff_not]
  exact ⟨fun ⟨⟨⟨a, b⟩, c⟩, d⟩ => ⟨by omega, by omega⟩, fun ⟨a, b⟩ => by omega⟩
theorem badS_t {s : S2} : badS s = true ↔ ¬ SOk s := by rw [← badS_f]; simp
structure VS (l : List S2) : Prop where
  n : l.length ≤ 1000
  ok : ∀ i, i < l.length → SOk (sat l i)
theorem valid1_at (h : 1 ≤ n) (s : S2) : call gl tab n 33 [.agg [i64 s.w, i64 s.x]] [] = some (.bool (badS s), [], []) := by
  obtain ⟨d, rfl⟩ := Nat.exists_eq_add_of_le' h
  rw [call_go (fd := fd33) rfl]
  simp (disch := ((fail_if_success (intro _)); omega)) only [go_sem, simprocAttr, ↓reduceIte, xx, fd33, m33, badS]
def L45 : MC := match m45 with | .seq _ (.seq (.seq _ (.block _ (.loop _ b))) _) => b | _ => .skip
def S45 (f : Bool) (m : Sh) (l : List S2) (i : Nat) : St := ⟨[.set 8 (i64 i), .set 7 (i64 l.length), .set 1 (.fn 33 []), .set 0 (.lst f m (sh l))], []⟩
theorem index_at (h : 2 ≤ n) {f : Bool} {m : Sh} {l : List S2} (hm : Mk l m sS) (hl : l.length < 2 ^ 60) {k : Nat} (hk : k ≤ l.length) (hb : ∀ j, j < k → SOk (sat l j)) (he : k < l.length → ¬ SOk (sat l k)) :
    call gl tab n 45 [.lst f m (sh l), .fn 33 []] [] = some (i64 (if k < l.length then k else -1), [], []) := by
  obtain ⟨d, rfl⟩ := Nat.exists_eq_add_of_le' h
  have c33 := @valid1_at gl (d + 1) (by omega)
  rw [call_go (fd := fd45) rfl]
  simp (disch := ((fail_if_success (intro _)); omega)) only [go_sem, simprocAttr, ↓reduceIte, xx, fd45, m45, sh_length]
  have hs : ∀ i, i < k → contK [.slot 0, .slot 1, .slot 7, .slot 8] (evC gl (call gl tab (d + 1)) L45 (S45 f m l i)) = some (S45 f m l (i + 1)) := fun i hi => by
    have hx := sh_at (show i < l.length by omega)
    obtain rfl := hm.eq (show i < l.length by omega)
    have hq := c33 (sat l i)
    rw [badS_f.2 (hb i hi)] at hq
    simp (disch := ((fail_if_success (intro _)); omega)) only [go_sem, simprocAttr, ↓reduceIte, xx, L45, m45, S45, sh_length, hx, hq]
  simp only [L45, m45] at hs
  by_cases hkl : k < l.length
  · have hx := sh_at hkl
    have hm2 := hm.eq hkl
    have hq := c33 (sat l k)
    rw [badS_t.2 (he hkl)] at hq
    rw [iter_to (S45 f m l) k (by unfold LF; omega)]
    · simp (disch := ((fail_if_success (intro _)); omega)) only [go_sem, simprocAttr, ↓reduceIte, xx, S45, sh_length, hx, hm2, hq]
    · simp (disch := ((fail_if_success (intro _)); omega)) only [go_sem, simprocAttr, ↓reduceIte, xx, S45, sh_length]
    · exact hs
    · simp (disch := ((fail_if_success (intro _)); omega)) only [go_sem, simprocAttr, ↓reduceIte, xx, S45, sh_length, hx, hm2, hq]
  · obtain rfl : k = l.length := by omega
    rw [iter_to (S45 f m l) l.length (by unfold LF; omega)]
    · simp (disch := ((fail_if_success (intro _)); omega)) only [go_sem, simprocAttr, ↓reduceIte, xx, S45, sh_length]
    · simp (disch := ((fail_if_success (intro _)); omega)) only [go_sem, simprocAttr, ↓reduceIte, xx, S45, sh_length]
    · exact hs
    · simp (disch := ((fail_if_success (intro _)); omega)) only [go_sem, simprocAttr, ↓reduceIte, xx, S45, sh_length]
theorem vs_cases (l : List S2) : (VS l ∨ ¬ VS l) := Classical.em _
theorem valid_at (h : 4 ≤ n) {f : Bool} {m : Sh} {l : List S2} (hm : Mk l m sS) (hl : l.length < 2 ^ 60) : ∃ b : Bool, (b = true ↔ VS l) ∧ call gl tab n 10 [.lst f m (sh l)] [] = some (.bool b, [], []) := by
  obtain ⟨d, rfl⟩ := Nat.exists_eq_add_of_le' h
  rw [call_go (fd := fd10) rfl]
  by_cases h1 : l.length ≤ 1000
  · rcases first_fail (fun i => SOk (sat l i)) l.length with ha | ⟨k, hk, hb, he⟩
    · have c45 := @index_at gl (d + 2) (by omega) f m l hm hl l.length (Nat.le_refl _) ha (fun h => absurd h (Nat.lt_irrefl _))
      rw [if_neg (Nat.lt_irrefl _)] at c45
      have c32 : call gl tab (d + 3) 32 [.lst f m (sh l), .fn 33 []] [] = some (.bool false, [], []) := by
        rw [call_go (fd := fd32) rfl]
        simp (disch := ((fail_if_success (intro _)); omega)) only [go_sem, simprocAttr, ↓reduceIte, xx, fd32, m32, c45]
      refine ⟨true, ⟨fun _ => ⟨h1, ha⟩, fun _ => rfl⟩, ?_⟩
      simp (disch := ((fail_if_success (intro _)); omega)) only [go_sem, simprocAttr, ↓reduceIte, xx, fd10, m10, sh_length, c32]
    · have c45 := @index_at gl (d + 2) (by omega) f m l hm hl k (by omega) hb (fun _ => he)
      rw [if_pos hk] at c45
      have c32 : call gl tab (d + 3) 32 [.lst f m (sh l), .fn 33 []] [] = some (.bool true, [], []) := by
        rw [call_go (fd := fd32) rfl]
        simp (disch := ((fail_if_success (intro _)); omega)) only [go_sem, simprocAttr, ↓reduceIte, xx, fd32, m32, c45]
      refine ⟨false, ⟨(fun h => by cases h), fun h => absurd (h.ok k hk) he⟩, ?_⟩
      simp (disch := ((fail_if_success (intro _)); omega)) only [go_sem, simprocAttr, ↓reduceIte, xx, fd10, m10, sh_length, c32]
  · refine ⟨false, ⟨(fun h => by cases h), fun h => absurd h.n h1⟩, ?_⟩
    simp (disch := ((fail_if_success (intro _)); omega)) only [go_sem, simprocAttr, ↓reduceIte, xx, fd10, m10, sh_length]
def L11 : MC := match m11 with | .seq _ (.seq (.seq _ (.block _ (.loop _ b))) _) => b | _ => .skip
def S11 (f : Bool) (m : Sh) (l : List S2) (i : Nat) : St := ⟨[.set 3 (i64 i), .set 0 (.lst f m (sh l))], []⟩
theorem rvalid_at (h : 1 ≤ n) {f : Bool} {m : Sh} {l : List S2} (hm : Mk l m sS) (hl : l.length < 2 ^ 60) : ∃ b : Bool, (b = true ↔ VS l) ∧ call gl tab n 11 [.lst f m (sh l)] [] = some (.bool b, [], []) := by
  obtain ⟨d, rfl⟩ := Nat.exists_eq_add_of_le' h
  rw [call_go (fd := fd11) rfl]
  have hs : ∀ i, i < l.length → SOk (sat l i) → contK [.slot 0, .slot 3] (evC gl (call gl tab d) L11 (S11 f m l i)) = some (S11 f m l (i + 1)) := fun i hi hp => by
    have hx := sh_at hi
    obtain rfl := hm.eq hi
    have hq := badS_f.2 hp
    unfold badS at hq
    simp (disch := ((fail_if_success (intro _)); omega)) only [go_sem, simprocAttr, ↓reduceIte, xx, L11, m11, S11, sh_length, hx, hq]
  have hf : ∀ i, i < l.length → ¬ SOk (sat l i) → out1 2 (evC gl (call gl tab d) L11 (S11 f m l i)) = some (.ret, .bool false) := fun i hi hp => by
    have hx := sh_at hi
    obtain rfl := hm.eq hi
    have hq := badS_t.2 hp
    unfold badS at hq
    simp (disch := ((fail_if_success (intro _)); omega)) only [go_sem, simprocAttr, ↓reduceIte, xx, L11, m11, S11, sh_length, hx, hq]
  rcases first_fail (fun i => SOk (sat l i)) l.length with ha | ⟨k, hk, hb, he⟩
  · refine ⟨decide (l.length ≤ 1000), ⟨fun h => ⟨of_decide_eq_true h, ha⟩, fun h => decide_eq_true h.n⟩, ?_⟩
    have hs2 := fun i hi => hs i hi (ha i hi)
    simp only [L11, m11] at hs2
    simp (disch := ((fail_if_success (intro _)); omega)) only [go_sem, simprocAttr, ↓reduceIte, xx, fd11, m11, sh_length]
    rw [iter_to (S11 f m l) l.length (by unfold LF; omega)]
    · simp (disch := ((fail_if_success (intro _)); omega)) only [go_sem, simprocAttr, ↓reduceIte, xx, S11, sh_length]
    · simp (disch := ((fail_if_success (intro _)); omega)) only [go_sem, simprocAttr, ↓reduceIte, xx, S11, sh_length]
    · exact hs2
    · simp (disch := ((fail_if_success (intro _)); omega)) only [go_sem, simprocAttr, ↓reduceIte, xx, S11, sh_length]
  · obtain ⟨st, hst, hg⟩ := out1_get (hf k hk he)
    have hs2 := fun i hi => hs i (by omega) (hb i hi)
    simp only [L11, m11] at hs2 hst
    refine ⟨false, ⟨(fun h => by cases h), fun h => absurd (h.ok k hk) he⟩, ?_⟩
    simp (disch := ((fail_if_success (intro _)); omega)) only [go_sem, simprocAttr, ↓reduceIte, xx, fd11, m11, sh_length]
    rw [iter_to (S11 f m l) k (by unfold LF; omega), hst]
    · simp (disch := ((fail_if_success (intro _)); omega)) only [go_sem, simprocAttr, ↓reduceIte, xx, hg]
    · simp (disch := ((fail_if_success (intro _)); omega)) only [go_sem, simprocAttr, ↓reduceIte, xx, S11, sh_length]
    · exact hs2
    · rw [hst]; rfl
end Go.Proofs.S16
