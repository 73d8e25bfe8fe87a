/-
  Chapter 16: what all have at a level, and the greatest level. No condition.
-/
import Derived.Test.YtjkgmpckddolfaaW16a
set_option linter.unusedVariables false
set_option linter.unusedSimpArgs false
set_option linter.unusedSectionVars false
namespace Go.Proofs.S16
open Go Go.Ev Go.Proofs
set_option linter.unusedSimpArgs false
set_option linter.unusedVariables false
variable {gl : Gl} {n : Nat}
def mn (a b : Int) : Int := if b < a then b else a
theorem mn_le (a b : Int) : mn a b ≤ a ∧ mn a b ≤ b ∧ (mn a b = a ∨ mn a b = b) := by unfold mn; split <;> omega
def at1 (s : S2) (m : Int) : Int := mn (s.w * m) s.x
def allF (l : List S2) (m : Int) : Nat → Int
  | 0 => 0
  | i + 1 => allF l m i + at1 (sat l i) m
abbrev MB : Int := 1099511627776
theorem mul_bd {s : S2} (h : SOk s) {m : Int} (hm : 0 ≤ m ∧ m ≤ 1099511627777) : 0 ≤ s.w * m ∧ s.w * m ≤ 1152921504607895552 := by
  obtain ⟨⟨h1, h2⟩, _⟩ := h
  refine ⟨Int.mul_nonneg (by omega) hm.1, ?_⟩
  have := Int.mul_le_mul h2 hm.2 hm.1 (by omega)
  omega
theorem at1_bd {s : S2} (h : SOk s) {m : Int} (hm : 0 ≤ m ∧ m ≤ 1099511627777) : 0 ≤ at1 s m ∧ at1 s m ≤ s.x := by
  have := mul_bd h hm
  have := h.x
  unfold at1 mn; split <;> omega
theorem all_bd {l : List S2} (hv : VS l) {m : Int} (hm : 0 ≤ m ∧ m ≤ 1099511627777) : ∀ {i : Nat}, i ≤ l.length → 0 ≤ allF l m i ∧ allF l m i ≤ (i : Int) * 1099511627776
  | 0, _ => ⟨Int.le_refl _, by simp [allF]⟩
  | i + 1, h => by
    have h1 := all_bd hv hm (show i ≤ l.length by omega)
    have h2 := at1_bd (hv.ok i (by omega)) hm
    have h3 := (hv.ok i (by omega)).x
    rw [allF]; omega
theorem all_bd2 {l : List S2} (hv : VS l) {m : Int} (hm : 0 ≤ m ∧ m ≤ 1099511627777) {i : Nat} (hi : i ≤ l.length) : 0 ≤ allF l m i ∧ allF l m i ≤ 1099511627776000 := by
  have := all_bd hv hm hi
  have := hv.n
  omega
theorem at1_mono {s : S2} (h : SOk s) {m m' : Int} (hm : m ≤ m') : at1 s m ≤ at1 s m' := by
  have := Int.mul_le_mul_of_nonneg_left hm (show 0 ≤ s.w by have := h.w; omega)
  unfold at1 mn; split <;> split <;> omega
theorem all_mono {l : List S2} (hv : VS l) {m m' : Int} (hm : m ≤ m') : ∀ {i : Nat}, i ≤ l.length → allF l m i ≤ allF l m' i
  | 0, _ => Int.le_refl _
  | i + 1, h => by
    have h1 := all_mono hv hm (show i ≤ l.length by omega)
    have h2 := at1_mono (hv.ok i (by omega)) hm
    rw [allF, allF]; omega
theorem all_zero {l : List S2} (hv : VS l) : ∀ {i : Nat}, i ≤ l.length → allF l 0 i = 0
  | 0, _ => rfl
  | i + 1, h => by
    have h1 := all_zero hv (show i ≤ l.length by omega)
    have h3 := (hv.ok i (by omega)).x
    rw [allF, h1, at1, Int.mul_zero, mn]; split <;> omega
def L36 : MC := match m36 with | .seq _ (.seq _ (.seq (.seq _ (.block _ (.loop _ b))) _)) => b | _ => .skip
def S36 (f : Bool) (m : Sh) (l : List S2) (q : Int) (i : Nat) : St := ⟨[.set 10 (i64 i), .set 9 (i64 l.length), .set 8 (.lst f m (sh l)), .set 5 (i64 (allF l q i)), .set 1 (i64 q)], []⟩
theorem all_at (h : 1 ≤ n) {f : Bool} {m : Sh} {l : List S2} (hm : Mk l m sS) (hv : VS l) {q : Int} (hq : 0 ≤ q ∧ q ≤ 1099511627777) : call gl tab n 36 [.lst f m (sh l), i64 q] [] = some (i64 (allF l q l.length), [], []) := by
  obtain ⟨d, rfl⟩ := Nat.exists_eq_add_of_le' h
  have hn := hv.n
  have hs : ∀ i, i < l.length → contK [.slot 1, .slot 5, .slot 8, .slot 9, .slot 10] (evC gl (call gl tab d) L36 (S36 f m l q i)) = some (S36 f m l q (i + 1)) := fun i hi => by
    have hx := sh_at hi
    obtain rfl := hm.eq hi
    have h1 := mul_bd (hv.ok i hi) hq
    have h2 := at1_bd (hv.ok i hi) hq
    have h3 := all_bd2 hv hq (show i ≤ l.length by omega)
    have h4 := (hv.ok i hi).x
    unfold at1 mn at h2
    simp (disch := ((fail_if_success (intro _)); omega)) only [go_sem, simprocAttr, ↓reduceIte, xx, L36, m36, S36, sh_length, hx, foldO, minAV, allF, at1, mn]
  simp only [L36, m36] at hs
  rw [call_go (fd := fd36) rfl]
  simp (disch := ((fail_if_success (intro _)); omega)) only [go_sem, simprocAttr, ↓reduceIte, xx, fd36, m36, sh_length]
  rw [iter_to (S36 f m l q) l.length (by unfold LF; omega)]
  · simp (disch := ((fail_if_success (intro _)); omega)) only [go_sem, simprocAttr, ↓reduceIte, xx, S36, sh_length]
  · simp (disch := ((fail_if_success (intro _)); omega)) only [go_sem, simprocAttr, ↓reduceIte, xx, S36, sh_length, allF]
  · exact hs
  · simp (disch := ((fail_if_success (intro _)); omega)) only [go_sem, simprocAttr, ↓reduceIte, xx, S36, sh_length]
theorem rat_at (h : 1 ≤ n) {s : S2} (hs : SOk s) {q : Int} (hq : 0 ≤ q ∧ q ≤ 1099511627777) : call gl tab n 38 [.agg [i64 s.w, i64 s.x], i64 q] [] = some (i64 (at1 s q), [], []) := by
  obtain ⟨d, rfl⟩ := Nat.exists_eq_add_of_le' h
  have h1 := mul_bd hs hq
  rw [call_go (fd := fd38) rfl]
  simp (disch := ((fail_if_success (intro _)); omega)) only [go_sem, simprocAttr, ↓reduceIte, xx, fd38, m38, foldO, minAV, at1, mn]
def L37 : MC := match m37 with | .seq _ (.seq _ (.seq (.seq _ (.block _ (.loop _ b))) _)) => b | _ => .skip
def S37 (f : Bool) (m : Sh) (l : List S2) (q : Int) (i : Nat) : St := ⟨[.set 6 (i64 i), .set 5 (i64 (allF l q i)), .set 1 (i64 q), .set 0 (.lst f m (sh l))], []⟩
theorem rall_at (h : 2 ≤ n) {f : Bool} {m : Sh} {l : List S2} (hm : Mk l m sS) (hv : VS l) {q : Int} (hq : 0 ≤ q ∧ q ≤ 1099511627777) : call gl tab n 37 [.lst f m (sh l), i64 q] [] = some (i64 (allF l q l.length), [], []) := by
  obtain ⟨d, rfl⟩ := Nat.exists_eq_add_of_le' h
  have hn := hv.n
  have hs : ∀ i, i < l.length → contK [.slot 0, .slot 1, .slot 5, .slot 6] (evC gl (call gl tab (d + 1)) L37 (S37 f m l q i)) = some (S37 f m l q (i + 1)) := fun i hi => by
    have hx := sh_at hi
    obtain rfl := hm.eq hi
    have c38 := @rat_at gl (d + 1) (by omega) _ (hv.ok i hi) q hq
    have h2 := at1_bd (hv.ok i hi) hq
    have h3 := all_bd2 hv hq (show i ≤ l.length by omega)
    have h4 := (hv.ok i hi).x
    simp (disch := ((fail_if_success (intro _)); omega)) only [go_sem, simprocAttr, ↓reduceIte, xx, L37, m37, S37, sh_length, hx, c38, allF]
  simp only [L37, m37] at hs
  rw [call_go (fd := fd37) rfl]
  simp (disch := ((fail_if_success (intro _)); omega)) only [go_sem, simprocAttr, ↓reduceIte, xx, fd37, m37, sh_length]
  rw [iter_to (S37 f m l q) l.length (by unfold LF; omega)]
  · simp (disch := ((fail_if_success (intro _)); omega)) only [go_sem, simprocAttr, ↓reduceIte, xx, S37, sh_length]
  · simp (disch := ((fail_if_success (intro _)); omega)) only [go_sem, simprocAttr, ↓reduceIte, xx, S37, sh_length, allF]
  · exact hs
  · simp (disch := ((fail_if_success (intro _)); omega)) only [go_sem, simprocAttr, ↓reduceIte, xx, S37, sh_length]
/-! ### The level -/
structure Lv (l : List S2) (c m : Int) : Prop where
  lo : 0 ≤ m
  hi : m ≤ 1099511627776
  le : allF l m l.length ≤ c
  gt : m = 1099511627776 ∨ c < allF l (m + 1) l.length
theorem lv_uniq {l : List S2} (hv : VS l) {c m m' : Int} (h : Lv l c m) (h' : Lv l c m') : m = m' := by
  have key : ∀ {m m' : Int}, Lv l c m → Lv l c m' → ¬ m < m' := fun {m m'} h h' hlt => by
    have h1 := all_mono hv (show m + 1 ≤ m' by omega) (Nat.le_refl _)
    have := h'.le; have := h'.hi
    rcases h.gt with h2 | h2 <;> omega
  have := key h h'
  have := key h' h
  omega
structure Bs (l : List S2) (c : Int) (a : Int × Int) : Prop where
  lo : 0 ≤ a.1
  lt : a.1 < a.2
  hi : a.2 ≤ 1099511627777
  le : allF l a.1 l.length ≤ c
  gt : a.2 = 1099511627777 ∨ c < allF l a.2 l.length
theorem bs_end {l : List S2} {c : Int} {a : Int × Int} (h : Bs l c a) (he : ¬ 1 < a.2 - a.1) : Lv l c a.1 := by
  have h1 := h.lt
  have e : a.2 = a.1 + 1 := by omega
  refine ⟨h.lo, by have := h.hi; omega, h.le, ?_⟩
  rcases h.gt with h2 | h2
  · exact .inl (by omega)
  · exact .inr (e ▸ h2)
def mid (a : Int × Int) : Int := a.1 + (a.2 - a.1) / 2
def bsN (l : List S2) (c : Int) (a : Int × Int) : Int × Int := if allF l (mid a) l.length ≤ c then (mid a, a.2) else (a.1, mid a)
theorem bs_next {l : List S2} {c : Int} {a : Int × Int} (h : Bs l c a) (he : 1 < a.2 - a.1) : Bs l c (bsN l c a) ∧ ((bsN l c a).2 - (bsN l c a).1).toNat < (a.2 - a.1).toNat := by
  have h1 := h.lo; have h2 := h.hi
  have hm : mid a = a.1 + (a.2 - a.1) / 2 := rfl
  unfold bsN
  split
  · rename_i hc
    exact ⟨⟨by show 0 ≤ mid a; omega, by show mid a < a.2; omega, h2, hc, h.gt⟩, by show (a.2 - mid a).toNat < _; omega⟩
  · rename_i hc
    exact ⟨⟨h1, by show a.1 < mid a; omega, by show mid a ≤ _; omega, h.le, .inr (Int.not_le.1 hc)⟩, by show (mid a - a.1).toNat < _; omega⟩
theorem bs_0 {l : List S2} (hv : VS l) {c : Int} (hc : 0 ≤ c) : Bs l c (0, 1099511627777) := ⟨Int.le_refl _, by decide, Int.le_refl _, by rw [all_zero hv (Nat.le_refl _)]; exact hc, .inl rfl⟩
abbrev box (f : Bool) (m : Sh) (l : List S2) (c : Int) : Hp := [(100000, .fix .sc (.lst f m (sh l))), (100001, .fix .sc (i64 c))]
theorem holds_at (h : 2 ≤ n) {f : Bool} {m : Sh} {l : List S2} (hm : Mk l m sS) (hv : VS l) {q c : Int} (hq : 0 ≤ q ∧ q ≤ 1099511627777) :
    call gl tab n 35 [i64 q, .ptr 100000 [], .ptr 100001 []] (box f m l c) = some (.bool (decide (allF l q l.length ≤ c)), box f m l c, []) := by
  obtain ⟨d, rfl⟩ := Nat.exists_eq_add_of_le' h
  have c36 := @all_at gl (d + 1) (by omega) f m l hm hv q hq
  rw [call_gen (fd := fd35) rfl]
  simp (disch := ((fail_if_success (intro _)); omega)) only [go_sem, simprocAttr, ↓reduceIte, xx, fd35, m35, c36]
def L34 : MC := match m34 with | .seq _ (.seq (.block _ (.loop _ b)) _) => b | _ => .skip
def S34 (f : Bool) (m : Sh) (l : List S2) (c : Int) (a : Int × Int) : St := ⟨[.set 2 (.fn 35 [.ptr 100000 [], .ptr 100001 []]), .set 1 (i64 a.2), .set 0 (i64 a.1)], [(100001, .fix .sc (i64 c)), (100000, .fix .sc (.lst f m (sh l)))]⟩
theorem quo2 {x : Int} (h : 0 ≤ x) : Int.tdiv x 2 = x / 2 := Int.tdiv_eq_ediv_of_nonneg h
theorem last_at (h : 4 ≤ n) {f : Bool} {m : Sh} {l : List S2} (hm : Mk l m sS) (hv : VS l) {c : Int} (hc : 0 ≤ c ∧ c ≤ 1099511627776) : ∃ q, Lv l c q ∧
    call gl tab n 34 [i64 0, i64 1099511627777, .fn 35 [.ptr 100000 [], .ptr 100001 []]] (box f m l c) = some (i64 q, box f m l c, []) := by
  obtain ⟨d, rfl⟩ := Nat.exists_eq_add_of_le' h
  obtain ⟨a, hI, hg, hit⟩ := iter_meas (f := evC gl (call gl tab (d + 3)) L34) (ks := [.slot 0, .slot 1, .slot 2]) (S34 f m l c) (Bs l c) (fun a => (a.2 - a.1).toNat) (bsN l c) (fun a => decide (1 < a.2 - a.1)) (a0 := (0, 1099511627777)) (by unfold LF; simp) (bs_0 hv hc.1)
    (fun a hI hg => by
      simp only [decide_eq_true_eq] at hg
      obtain ⟨h1, h2⟩ := bs_next hI hg
      refine ⟨?_, h1, h2⟩
      obtain ⟨k1, k2, k3, _, _⟩ := hI
      have hq2 := quo2 (show 0 ≤ a.2 - a.1 by omega)
      have hmid : a.1 + (a.2 - a.1) / 2 = mid a := rfl
      have c35 := @holds_at gl (d + 3) (by omega) f m l hm hv (mid a) c (by rw [← hmid]; omega)
      have hm1 : 0 ≤ mid a ∧ mid a ≤ 1099511627777 := by rw [← hmid]; omega
      by_cases hd : allF l (mid a) l.length ≤ c
      · rw [decide_eq_true hd] at c35
        have e : bsN l c a = (mid a, a.2) := if_pos hd
        rw [e]
        simp (disch := ((fail_if_success (intro _)); omega)) only [go_sem, simprocAttr, ↓reduceIte, xx, L34, m34, S34, binInt, hq2, hmid, c35]
      · rw [decide_eq_false hd] at c35
        have e : bsN l c a = (a.1, mid a) := if_neg hd
        rw [e]
        simp (disch := ((fail_if_success (intro _)); omega)) only [go_sem, simprocAttr, ↓reduceIte, xx, L34, m34, S34, binInt, hq2, hmid, c35])
    (fun a hI hg => by
      simp only [decide_eq_false_iff_not] at hg
      obtain ⟨k1, k2, k3, _, _⟩ := hI
      simp (disch := ((fail_if_success (intro _)); omega)) only [go_sem, simprocAttr, ↓reduceIte, xx, L34, m34, S34])
  simp only [decide_eq_false_iff_not] at hg
  refine ⟨a.1, bs_end hI hg, ?_⟩
  obtain ⟨k1, k2, k3, _, _⟩ := hI
  simp only [L34, m34] at hit
  rw [call_gen (fd := fd34) rfl]
  simp (disch := ((fail_if_success (intro _)); omega)) only [go_sem, simprocAttr, ↓reduceIte, xx, fd34, m34]
  rw [hit _ (by simp (disch := ((fail_if_success (intro _)); omega)) only [go_sem, simprocAttr, ↓reduceIte, xx, S34])]
  simp (disch := ((fail_if_success (intro _)); omega)) only [go_sem, simprocAttr, ↓reduceIte, xx, S34]
end Go.Proofs.S16
