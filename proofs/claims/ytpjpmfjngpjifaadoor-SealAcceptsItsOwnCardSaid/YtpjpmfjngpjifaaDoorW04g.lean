/-
  Chapter 4: rotating, in both. No condition.
-/
import Derived.Test.YtpjpmfjngpjifaaDoorW04f
set_option linter.unusedVariables false
set_option linter.unusedSimpArgs false
set_option linter.unusedSectionVars false
namespace Go.Proofs.S04
open Go Go.Ev Go.Proofs
variable {gl : Gl} {n : Nat}
def lst (l : List Ky) (p : Int) : Nat → Int
  | 0 => -1
  | i + 1 => if (yat l i).p = p then i else lst l p i
theorem lst_no {l : List Ky} {p : Int} : ∀ N, (∀ i, i < N → (yat l i).p ≠ p) → lst l p N = -1
  | 0, _ => rfl
  | N + 1, h => by rw [lst, if_neg (h N (by omega)), lst_no N fun i hi => h i (by omega)]
theorem lst_is {l : List Ky} {p : Int} {k : Nat} (hk : (yat l k).p = p) : ∀ N, k < N → (∀ i, k < i → i < N → (yat l i).p ≠ p) → lst l p N = k
  | N + 1, hN, h => by
    rw [lst]
    by_cases e : k = N
    · subst e; rw [if_pos hk]
    · rw [if_neg (h N (by omega) (by omega)), lst_is hk N (by omega) fun i h1 h2 => h i h1 (by omega)]
theorem lst_ex (l : List Ky) (p : Int) : ∀ N, (∀ i, i < N → (yat l i).p ≠ p) ∨ ∃ k, k < N ∧ (yat l k).p = p ∧ ∀ i, k < i → i < N → (yat l i).p ≠ p
  | 0 => .inl fun i h => absurd h (Nat.not_lt_zero _)
  | N + 1 => by
    by_cases h : (yat l N).p = p
    · exact .inr ⟨N, by omega, h, fun i h1 h2 => by omega⟩
    · rcases lst_ex l p N with h1 | ⟨k, h1, h2, h3⟩
      · refine .inl fun i hi' => ?_
        by_cases e : i = N
        · subst e; exact h
        · exact h1 i (by omega)
      · refine .inr ⟨k, by omega, h2, fun i h4 h5 => ?_⟩
        by_cases e : i = N
        · subst e; exact h
        · exact h3 i h4 (by omega)
def L63 : MC := match m63 with | .seq _ (.seq _ (.seq (.seq _ (.block _ (.loop _ b))) _)) => b | _ => .skip
def S63 (f : Bool) (m : Sh) (l : List Ky) (p : Int) (i : Nat) : St := ⟨[.set 6 (i64 i), .set 5 (i64 (lst l p i)), .set 1 (i64 p), .set 0 (.lst f m (ks l))], []⟩
theorem last_at (h : 1 ≤ n) {f : Bool} {m : Sh} {l : List Ky} (hm : Mk l m) (hl : l.length < 2 ^ 60) (p : Int) : call gl tab n 63 [.lst f m (ks l), i64 p] [] = some (i64 (lst l p l.length), [], []) := by
  obtain ⟨d, rfl⟩ := Nat.exists_eq_add_of_le' h
  have hs : ∀ i, i < l.length → contK [.slot 0, .slot 1, .slot 5, .slot 6] (evC gl (call gl tab d) L63 (S63 f m l p i)) = some (S63 f m l p (i + 1)) := fun i hi => by
    have hx := ks_at hi
    obtain rfl := hm.eq hi
    by_cases h1 : (yat l i).p = p
    · have h2 : ((yat l i).p == p) = true := by rw [beq_iff_eq]; exact h1
      have e : lst l p (i + 1) = i := by rw [lst, if_pos h1]
      simp (disch := ((fail_if_success (intro _)); omega)) only [go_sem, simprocAttr, ↓reduceIte, ↓Nat.reduceEqDiff, xx, L63, m63, S63, hx, ks_length, h2, e]
    · have h2 : ((yat l i).p == p) = false := by rw [beq_eq_false_iff_ne]; exact h1
      have e : lst l p (i + 1) = lst l p i := by rw [lst, if_neg h1]
      simp (disch := ((fail_if_success (intro _)); omega)) only [go_sem, simprocAttr, ↓reduceIte, ↓Nat.reduceEqDiff, xx, L63, m63, S63, hx, ks_length, h2, e]
  simp only [L63, m63] at hs
  rw [call_go (fd := fd63) rfl]
  simp (disch := ((fail_if_success (intro _)); omega)) only [go_sem, simprocAttr, ↓reduceIte, ↓Nat.reduceEqDiff, xx, fd63, m63, ks_length]
  rw [iter_to (S63 f m l p) l.length (by unfold LF; omega)]
  · simp (disch := ((fail_if_success (intro _)); omega)) only [go_sem, simprocAttr, ↓reduceIte, ↓Nat.reduceEqDiff, xx, S63, ks_length]
  · simp (disch := ((fail_if_success (intro _)); omega)) only [go_sem, simprocAttr, ↓reduceIte, ↓Nat.reduceEqDiff, xx, S63, lst, ks_length]
  · exact hs
  · simp (disch := ((fail_if_success (intro _)); omega)) only [go_sem, simprocAttr, ↓reduceIte, ↓Nat.reduceEqDiff, xx, S63, ks_length]
def stT (l : List Ky) (i : Nat) (t : Int) : List Ky := l.set i ⟨(yat l i).p, (yat l i).s, (yat l i).k, (yat l i).f, t⟩
theorem stT_length (l : List Ky) (i : Nat) (t : Int) : (stT l i t).length = l.length := List.length_set
theorem stT_ne {l : List Ky} {i j : Nat} {t : Int} (h : j ≠ i) : yat (stT l i t) j = yat l j := by
  unfold yat stT
  rw [List.getD_eq_getElem?_getD, List.getD_eq_getElem?_getD, List.getElem?_set_ne (fun e => h e.symm)]
theorem stT_eq {l : List Ky} {i : Nat} {t : Int} (h : i < l.length) : yat (stT l i t) i = ⟨(yat l i).p, (yat l i).s, (yat l i).k, (yat l i).f, t⟩ := by
  unfold stT
  rw [yat, List.getD_eq_getElem?_getD, List.getElem?_set_self h]; rfl
theorem stT_ps {l : List Ky} {i : Nat} {t : Int} (h : i < l.length) (j : Nat) : (yat (stT l i t) j).p = (yat l j).p ∧ (yat (stT l i t) j).s = (yat l j).s := by
  by_cases e : j = i
  · subst e; rw [stT_eq h]; exact ⟨rfl, rfl⟩
  · rw [stT_ne e]; exact ⟨rfl, rfl⟩
theorem bef_ps {x y x' y' : Ky} (h1 : x.p = x'.p) (h2 : x.s = x'.s) (h3 : y.p = y'.p) (h4 : y.s = y'.s) : bef x y = bef x' y' := by unfold bef; rw [h1, h2, h3, h4]
theorem stT_vr {l : List Ky} (hv : VR l) {i : Nat} (hi : i < l.length) {t : Int} (ht : (yat l i).f < t) (ht2 : t ≤ 1099511627776) : VR (stT l i t) := by
  refine ⟨by rw [stT_length]; exact hv.n, fun j hj => ?_⟩
  rw [stT_length] at hj
  have o := hv.ok j hj
  rw [ROk_eq]
  refine ⟨?_, fun h0 => ?_⟩
  · by_cases e : j = i
    · subst e
      have v := o.v
      rw [stT_eq hi]
      exact ⟨v.p, v.s, v.k, ⟨v.f.1, ht⟩, ht2⟩
    · rw [stT_ne e]; exact o.v
  · rw [bef_ps (stT_ps hi (j - 1)).1 (stT_ps hi (j - 1)).2 (stT_ps hi j).1 (stT_ps hi j).2]
    exact o.b h0
theorem ks_set (l : List Ky) (i : Nat) (x : Ky) : (ks l).set i (.agg [i64 x.p, i64 x.s, .str x.k, i64 x.f, i64 x.t]) = ks (l.set i x) := by simp [ks, List.map_set]
theorem ks_stT (l : List Ky) (i : Nat) (t : Int) : (ks l).set i (.agg [i64 (yat l i).p, i64 (yat l i).s, .str (yat l i).k, i64 (yat l i).f, i64 t]) = ks (stT l i t) := ks_set l i ⟨(yat l i).p, (yat l i).s, (yat l i).k, (yat l i).f, t⟩
theorem stT_insY {l : List Ky} {i k : Nat} (hi : i < k) (hk : k ≤ l.length) (x : Ky) (t : Int) : stT (insY l k x) i t = insY (stT l i t) k x := by
  unfold stT
  rw [insY_lo hk x hi]
  unfold insY
  rw [List.set_append_left _ _ (by rw [List.length_take]; omega), List.take_set, List.drop_set_of_lt hi]
theorem ks_noImms : ∀ (l : List Ky), noImms (ks l) = true
  | [] => rfl
  | x :: l => by
    have := ks_noImms l
    rw [ks, List.map_cons, noImms, ← ks, this]; rfl
set_option maxHeartbeats 4000000 in
theorem rots (h : 6 ≤ n) {f : Bool} {m : Sh} {l : List Ky} (hm : Mk l m) (hv : VR l) (hl : l.length < 1000) {p a o : Int} {sec : List UInt8} (hp : R64 p) (hsec : sec.length ≤ 1000) :
    (∃ e : Int, e ≠ 0 ∧ call gl tab n 20 [.lst f m (ks l), i64 p, .str sec, i64 a, i64 o] [] = some (.tup [.lst true .sc [], i64 e], [], []) ∧ call gl tab n 21 [.lst f m (ks l), i64 p, .str sec, i64 a, i64 o] [] = some (.agg [.lst true .sc [], i64 e], [], [])) ∨
    ∃ (i : Nat) (t : Int), i < l.length ∧ (yat l i).p = p ∧ (∀ j, i < j → j < l.length → (yat l j).p ≠ p) ∧ 0 ≤ o ∧ VK ⟨p, (yat l i).s + 1, sec, a, 1099511627776⟩ ∧ (yat l i).f < t ∧ t ≤ (yat l i).t ∧ t ≤ a + o ∧ (t = (yat l i).t ∨ t = a + o) ∧
      VR (insY (stT l i t) (i + 1) ⟨p, (yat l i).s + 1, sec, a, 1099511627776⟩) ∧
      call gl tab n 20 [.lst f m (ks l), i64 p, .str sec, i64 a, i64 o] [] = some (.tup [.lst false sY (ks (insY (stT l i t) (i + 1) ⟨p, (yat l i).s + 1, sec, a, 1099511627776⟩)), i64 0], [], []) ∧
      call gl tab n 21 [.lst f m (ks l), i64 p, .str sec, i64 a, i64 o] [] = some (.agg [.lst false sY (ks (insY (stT l i t) (i + 1) ⟨p, (yat l i).s + 1, sec, a, 1099511627776⟩)), i64 0], [], []) := by
  obtain ⟨d, rfl⟩ := Nat.exists_eq_add_of_le' h
  obtain ⟨k, b, hkl, hpl, _, _, c57⟩ := @place_at gl (d + 5) (by omega) f m l hm hv p 1073741825 hp (by unfold R64; omega)
  have c63 := @last_at gl (d + 5) (by omega) f m l hm (by omega) p
  rcases lst_ex l p l.length with hno | ⟨i, hi, hip, hil⟩
  · rw [lst_no l.length hno] at c63
    refine .inl ⟨5, by decide, ?_, ?_⟩
    · rw [call_go (fd := fd20) rfl]
      cases k with
      | zero => simp (disch := ((fail_if_success (intro _)); omega)) only [go_sem, simprocAttr, ↓reduceIte, ↓Nat.reduceEqDiff, xx, fd20, m20, c57]
      | succ k =>
        have hx := ks_at (show k < l.length by omega)
        obtain rfl := hm.eq (show k < l.length by omega)
        have h1 : ((yat l k).p != p) = true := by simpa using hno k (by omega)
        have h2 : (((k : Int) + 1) == 0) = false := by rw [beq_eq_false_iff_ne]; omega
        simp (disch := ((fail_if_success (intro _)); omega)) only [go_sem, simprocAttr, ↓reduceIte, ↓Nat.reduceEqDiff, xx, fd20, m20, c57, hx, ks_length, h1, h2]
    · rw [call_go (fd := fd21) rfl]
      simp (disch := ((fail_if_success (intro _)); omega)) only [go_sem, simprocAttr, ↓reduceIte, ↓Nat.reduceEqDiff, xx, fd21, m21, c63]
  have hvi := (hv.ok i hi).v
  have hpr := hvi.p
  have hsr := hvi.s
  have hP := hpl ⟨by omega, by omega⟩
  have hki : k = i + 1 := by
    have h1 : i < k := by
      rcases Nat.lt_or_ge i k with h1 | h1
      · exact h1
      · exfalso; exact hP.hi i h1 hi (by unfold lo; omega)
    rcases Nat.lt_or_ge (i + 1) k with h2 | h2
    · exfalso
      have h3 := hP.lo (i + 1) h2
      have h4 := hv.lt (show i < i + 1 by omega) (show i + 1 < l.length by omega)
      have h5 := hil (i + 1) (by omega) (by omega)
      unfold lo at h3 h4; omega
    · omega
  subst hki
  rw [lst_is hip l.length hi hil] at c63
  obtain rfl := hm.eq hi
  have hx := ks_at hi
  subst hip
  have h1 : ((yat l i).p != (yat l i).p) = false := bne_self_eq_false _
  have h2 : (((i : Int) + 1) == 0) = false := by rw [beq_eq_false_iff_ne]; omega
  have c9 := @valid_at gl (d + 5) (by omega) ⟨(yat l i).p, (yat l i).s + 1, sec, a, 1099511627776⟩ (by simp only; omega)
  have c10 := @rvalid_at gl (d + 5) (by omega) ⟨(yat l i).p, (yat l i).s + 1, sec, a, 1099511627776⟩ (by simp only; omega)
  by_cases o1 : 0 ≤ o
  case neg =>
    refine .inl ⟨1, by decide, ?_, ?_⟩
    · rw [call_go (fd := fd20) rfl]; simp (disch := ((fail_if_success (intro _)); omega)) only [go_sem, simprocAttr, ↓reduceIte, ↓Nat.reduceEqDiff, xx, fd20, m20, c57, hx, ks_length, h1, h2]
    · rw [call_go (fd := fd21) rfl]
      by_cases a1 : 0 ≤ a
      · by_cases a2 : a ≤ 1099511627776
        · simp (disch := ((fail_if_success (intro _)); omega)) only [go_sem, simprocAttr, ↓reduceIte, ↓Nat.reduceEqDiff, xx, fd21, m21, c63]
        · simp (disch := ((fail_if_success (intro _)); omega)) only [go_sem, simprocAttr, ↓reduceIte, ↓Nat.reduceEqDiff, xx, fd21, m21, c63]
      · simp (disch := ((fail_if_success (intro _)); omega)) only [go_sem, simprocAttr, ↓reduceIte, ↓Nat.reduceEqDiff, xx, fd21, m21, c63]
  by_cases o2 : o ≤ 1099511627776
  case neg =>
    refine .inl ⟨1, by decide, ?_, ?_⟩
    · rw [call_go (fd := fd20) rfl]; simp (disch := ((fail_if_success (intro _)); omega)) only [go_sem, simprocAttr, ↓reduceIte, ↓Nat.reduceEqDiff, xx, fd20, m20, c57, hx, ks_length, h1, h2]
    · rw [call_go (fd := fd21) rfl]
      by_cases a1 : 0 ≤ a
      · by_cases a2 : a ≤ 1099511627776
        · simp (disch := ((fail_if_success (intro _)); omega)) only [go_sem, simprocAttr, ↓reduceIte, ↓Nat.reduceEqDiff, xx, fd21, m21, c63]
        · simp (disch := ((fail_if_success (intro _)); omega)) only [go_sem, simprocAttr, ↓reduceIte, ↓Nat.reduceEqDiff, xx, fd21, m21, c63]
      · simp (disch := ((fail_if_success (intro _)); omega)) only [go_sem, simprocAttr, ↓reduceIte, ↓Nat.reduceEqDiff, xx, fd21, m21, c63]
  by_cases hvk : VK ⟨(yat l i).p, (yat l i).s + 1, sec, a, 1099511627776⟩
  case neg =>
    rw [decide_eq_false hvk] at c9 c10
    refine .inl ⟨1, by decide, ?_, ?_⟩
    · rw [call_go (fd := fd20) rfl]; simp (disch := ((fail_if_success (intro _)); omega)) only [go_sem, simprocAttr, ↓reduceIte, ↓Nat.reduceEqDiff, xx, fd20, m20, c57, hx, ks_length, h1, h2, c9]
    · rw [call_go (fd := fd21) rfl]
      by_cases a1 : 0 ≤ a
      · by_cases a2 : a ≤ 1099511627776
        · simp (disch := ((fail_if_success (intro _)); omega)) only [go_sem, simprocAttr, ↓reduceIte, ↓Nat.reduceEqDiff, xx, fd21, m21, c63, hx, ks_length, c10]
        · simp (disch := ((fail_if_success (intro _)); omega)) only [go_sem, simprocAttr, ↓reduceIte, ↓Nat.reduceEqDiff, xx, fd21, m21, c63]
      · simp (disch := ((fail_if_success (intro _)); omega)) only [go_sem, simprocAttr, ↓reduceIte, ↓Nat.reduceEqDiff, xx, fd21, m21, c63]
  rw [decide_eq_true hvk] at c9 c10
  have ha := hvk.f
  simp only at ha
  have hfi := hvi.f
  have hti := hvi.t
  by_cases g1 : (yat l i).f < a + o
  case neg =>
    refine .inl ⟨9, by decide, ?_, ?_⟩
    · rw [call_go (fd := fd20) rfl]; simp (disch := ((fail_if_success (intro _)); omega)) only [go_sem, simprocAttr, ↓reduceIte, ↓Nat.reduceEqDiff, xx, fd20, m20, c57, hx, ks_length, h1, h2, c9]
    · rw [call_go (fd := fd21) rfl]; simp (disch := ((fail_if_success (intro _)); omega)) only [go_sem, simprocAttr, ↓reduceIte, ↓Nat.reduceEqDiff, xx, fd21, m21, c63, hx, ks_length, c10]
  by_cases g2 : a ≤ (yat l i).t
  case neg =>
    refine .inl ⟨9, by decide, ?_, ?_⟩
    · rw [call_go (fd := fd20) rfl]; simp (disch := ((fail_if_success (intro _)); omega)) only [go_sem, simprocAttr, ↓reduceIte, ↓Nat.reduceEqDiff, xx, fd20, m20, c57, hx, ks_length, h1, h2, c9]
    · rw [call_go (fd := fd21) rfl]; simp (disch := ((fail_if_success (intro _)); omega)) only [go_sem, simprocAttr, ↓reduceIte, ↓Nat.reduceEqDiff, xx, fd21, m21, c63, hx, ks_length, c10]
  obtain ⟨t, hmn, t1, t2, t3⟩ := min_ex (yat l i).t (a + o)
  have hft : (yat l i).f < t := by omega
  have hvt := stT_vr hv hi hft (by omega)
  have hlt := stT_length l i t
  have c59 := @clone_at gl (d + 5) (by omega) false sY l (.inr rfl) (by omega)
  have c59t := @clone_at gl (d + 5) (by omega) true sY l (.inr rfl) (by omega)
  have c58 := @insert_at gl (d + 5) (by omega) l (by omega) (i + 1) hkl ⟨(yat l i).p, (yat l i).s + 1, sec, a, 1099511627776⟩
  rw [show ((i + 1 : Nat) : Int) = (i : Int) + 1 by omega] at c58
  have bl : ∀ j, j < i + 1 → bef ⟨(yat l i).p, (yat l i).s + 1, sec, a, 1099511627776⟩ (yat (stT l i t) j) = false := fun j hj => by
    have h3 := stT_ps (t := t) hi j
    unfold bef
    rw [h3.1, h3.2, decide_eq_false_iff_not]
    simp only
    by_cases e : j = i
    · subst e; omega
    · have := hv.lt (show j < i by omega) hi
      unfold lo at this; omega
  have bl2 : ∀ j, j < i + 1 → bef (yat (stT l i t) j) ⟨(yat l i).p, (yat l i).s + 1, sec, a, 1099511627776⟩ = true := fun j hj => by
    have h3 := stT_ps (t := t) hi j
    unfold bef
    rw [h3.1, h3.2, decide_eq_true_eq]
    simp only
    by_cases e : j = i
    · subst e; omega
    · have := hv.lt (show j < i by omega) hi
      unfold lo at this; omega
  have br : i + 1 < (stT l i t).length → bef ⟨(yat l i).p, (yat l i).s + 1, sec, a, 1099511627776⟩ (yat (stT l i t) (i + 1)) = true := fun hj => by
    have h3 := stT_ps (t := t) hi (i + 1)
    unfold bef
    rw [h3.1, h3.2, decide_eq_true_eq]
    simp only
    have h4 := hv.lt (show i < i + 1 by omega) (show i + 1 < l.length by omega)
    have h5 := hil (i + 1) (by omega) (by omega)
    unfold lo at h4; omega
  have c60 := @rins_at gl (d + 5) (by omega) false sY (stT l i t) (.inr rfl) (by omega) (i + 1) (by omega) ⟨(yat l i).p, (yat l i).s + 1, sec, a, 1099511627776⟩ bl br
  have hvr := insY_vr hvt (by omega) hvk (by omega) bl2 br
  refine .inr ⟨i, t, hi, rfl, hil, o1, hvk, hft, t1, t2, t3, hvr, ?_, ?_⟩
  · have e0 := insY_lo hkl ⟨(yat l i).p, (yat l i).s + 1, sec, a, 1099511627776⟩ (show i < i + 1 by omega)
    have e1 := insY_length hkl ⟨(yat l i).p, (yat l i).s + 1, sec, a, 1099511627776⟩
    have e3 := stT_insY (show i < i + 1 by omega) hkl ⟨(yat l i).p, (yat l i).s + 1, sec, a, 1099511627776⟩ t
    have hy := ks_at (show i < (insY l (i + 1) ⟨(yat l i).p, (yat l i).s + 1, sec, a, 1099511627776⟩).length by omega)
    have e4 := ks_stT (insY l (i + 1) ⟨(yat l i).p, (yat l i).s + 1, sec, a, 1099511627776⟩) i t
    rw [e0] at hy
    rw [e0, e3] at e4
    have e5 := @insY_length (stT l i t) (i + 1) (by omega) ⟨(yat l i).p, (yat l i).s + 1, sec, a, 1099511627776⟩
    rw [hlt] at e5
    have e2 := ks_take' (insY (stT l i t) (i + 1) ⟨(yat l i).p, (yat l i).s + 1, sec, a, 1099511627776⟩)
    rw [e5] at e2
    generalize insY (stT l i t) (i + 1) ⟨(yat l i).p, (yat l i).s + 1, sec, a, 1099511627776⟩ = w2 at *
    generalize insY l (i + 1) ⟨(yat l i).p, (yat l i).s + 1, sec, a, 1099511627776⟩ = w1 at *
    rw [call_go (fd := fd20) rfl]
    cases f with
    | false => simp (disch := ((fail_if_success (intro _)); omega)) only [go_sem, simprocAttr, ↓reduceIte, ↓Nat.reduceEqDiff, xx, fd20, m20, c57, hx, ks_length, h1, h2, c9, c59, c58, hmn, hy, e1, e2, e4, e5]
    | true => simp (disch := ((fail_if_success (intro _)); omega)) only [go_sem, simprocAttr, ↓reduceIte, ↓Nat.reduceEqDiff, xx, fd20, m20, c57, hx, ks_length, h1, h2, c9, c59t, c58, hmn, hy, e1, e2, e4, e5]
  · have e5 := @insY_length (stT l i t) (i + 1) (by omega) ⟨(yat l i).p, (yat l i).s + 1, sec, a, 1099511627776⟩
    rw [hlt] at e5 c60
    have e4 := ks_stT l i t
    have e2 := ks_take' (insY (stT l i t) (i + 1) ⟨(yat l i).p, (yat l i).s + 1, sec, a, 1099511627776⟩)
    rw [e5] at e2
    have hlim : l.length ≤ LIM := by unfold LIM; omega
    generalize insY (stT l i t) (i + 1) ⟨(yat l i).p, (yat l i).s + 1, sec, a, 1099511627776⟩ = w2 at *
    have tk := ks_take' (stT l i t)
    rw [hlt] at tk
    rw [call_go (fd := fd21) rfl]
    simp (disch := ((fail_if_success (intro _)); omega)) only [go_sem, simprocAttr, ↓reduceIte, ↓Nat.reduceEqDiff, xx, fd21, m21, c63, hx, ks_length, c10, hmn, hlim, e4, c60, e2, e5, hlt, tk, List.nil_append, ks_noImms]
end Go.Proofs.S04
