/-
  Chapter 4: keys are added. No condition.
-/
import Derived.Test.YtpjpmfjngpjifaaDoorW04c
set_option linter.unusedVariables false
set_option linter.unusedSimpArgs false
set_option linter.unusedSectionVars false
namespace Go.Proofs.S04
open Go Go.Ev Go.Proofs
variable {gl : Gl} {n : Nat}
def insY (l : List Ky) (k : Nat) (x : Ky) : List Ky := l.take k ++ x :: l.drop k
theorem insY_ks (l : List Ky) (k : Nat) (x : Ky) : insL (ks l) k (.agg [i64 x.p, i64 x.s, .str x.k, i64 x.f, i64 x.t]) = ks (insY l k x) := by simp [insL, ks, insY]
theorem insY_length {l : List Ky} {k : Nat} (hk : k ≤ l.length) (x : Ky) : (insY l k x).length = l.length + 1 := by simp [insY]; omega
theorem insY_lo {l : List Ky} {k i : Nat} (h : k ≤ l.length) (x : Ky) (hi : i < k) : yat (insY l k x) i = yat l i := by
  unfold yat insY
  rw [List.getD_eq_getElem?_getD, List.getD_eq_getElem?_getD, List.getElem?_append_left (by rw [List.length_take]; omega), List.getElem?_take, if_pos hi]
theorem insY_at {l : List Ky} {k : Nat} (h : k ≤ l.length) (x : Ky) : yat (insY l k x) k = x := by
  unfold yat insY
  rw [List.getD_eq_getElem?_getD, List.getElem?_append_right (by rw [List.length_take]; omega), List.length_take, show k - min k l.length = 0 by omega]; rfl
theorem insY_hi {l : List Ky} {k i : Nat} (h : k ≤ l.length) (x : Ky) (hi : k ≤ i) : yat (insY l k x) (i + 1) = yat l i := by
  unfold yat insY
  rw [List.getD_eq_getElem?_getD, List.getD_eq_getElem?_getD, List.getElem?_append_right (by rw [List.length_take]; omega), List.length_take, show i + 1 - min k l.length = (i - k) + 1 by omega, List.getElem?_cons_succ, List.getElem?_drop, show k + (i - k) = i by omega]
theorem clone_at (h : 1 ≤ n) {f : Bool} {m : Sh} {l : List Ky} (hm : Mk l m) (hl : l.length ≤ 1000) : call gl tab n 59 [.lst f m (ks l)] [] = some (.sl 20000 [] 0 l.length, [], [.grow sY (ks l)]) := by
  obtain ⟨d, rfl⟩ := Nat.exists_eq_add_of_le' h
  rw [call_giv (fd := fd59) rfl rfl]
  have h1 : l.length ≤ LIM := by unfold LIM; omega
  rcases hm with rfl | rfl
  · simp [cloneG, ks_nil]
  · simp [cloneG, ks_length, h1, Sh.beq, Sh.beqs]
theorem insert_at (h : 1 ≤ n) {l : List Ky} (hl : l.length ≤ 1000) {k : Nat} (hk : k ≤ l.length) (x : Ky) :
    call gl tab n 58 [.sl 100000 [] 0 l.length, i64 k, .sl 100001 [] 0 1] [(100000, .grow sY (ks l)), (100001, .grow sY [.agg [i64 x.p, i64 x.s, .str x.k, i64 x.f, i64 x.t]])] =
      some (.sl 20000 [] 0 (l.length + 1), [(100000, .dead), (100001, .grow sY [.agg [i64 x.p, i64 x.s, .str x.k, i64 x.f, i64 x.t]])], [.grow sY (ks (insY l k x))]) := by
  obtain ⟨d, rfl⟩ := Nat.exists_eq_add_of_le' h
  rw [call_giv (fd := fd58) rfl rfl]
  have hlim : l.length + 1 ≤ LIM := by unfold LIM; omega
  have hi := insY_ks l k x
  simp [insertG, ks_length, Sh.beq, Sh.beqs, hlim, hk, hi]
def prY (l : List Ky) (k : Nat) (x : Ky) (i : Nat) : List Ky := if i ≤ k then l.take i else l.take k ++ x :: (l.drop k).take (i - k)
theorem prY_0 (l : List Ky) (k : Nat) (x : Ky) : prY l k x 0 = [] := by rw [prY, if_pos (Nat.zero_le _), List.take_zero]
theorem yat_eq {l : List Ky} {i : Nat} (h : i < l.length) : yat l i = l[i] := by simp [yat, h]
theorem prY_lo {l : List Ky} {k i : Nat} (x : Ky) (hi : i < k) (hk : k ≤ l.length) : prY l k x (i + 1) = prY l k x i ++ [yat l i] := by
  rw [prY, prY, if_pos (by omega), if_pos (by omega), yat_eq (by omega), List.take_succ_eq_append_getElem (by omega)]
theorem take_drop {l : List Ky} {k i : Nat} (hi : k ≤ i) (hl : i < l.length) : (l.drop k).take (i + 1 - k) = (l.drop k).take (i - k) ++ [yat l i] := by
  rw [show i + 1 - k = (i - k) + 1 by omega, List.take_succ_eq_append_getElem (by rw [List.length_drop]; omega), List.getElem_drop, yat_eq hl]
  congr 3; omega
theorem prY_at {l : List Ky} {k : Nat} (x : Ky) (hl : k < l.length) : prY l k x (k + 1) = prY l k x k ++ [x] ++ [yat l k] := by
  rw [prY, prY, if_neg (by omega), if_pos (Nat.le_refl _), take_drop (Nat.le_refl _) hl, Nat.sub_self, List.take_zero]; simp
theorem prY_hi {l : List Ky} {k i : Nat} (x : Ky) (hi : k < i) (hl : i < l.length) : prY l k x (i + 1) = prY l k x i ++ [yat l i] := by
  rw [prY, prY, if_neg (by omega), if_neg (by omega), take_drop (by omega) hl]; simp
theorem prY_end {l : List Ky} {k : Nat} (x : Ky) (hl : k < l.length) : prY l k x l.length = insY l k x := by
  rw [prY, if_neg (by omega), insY, show (l.drop k).take (l.length - k) = l.drop k from List.take_of_length_le (by rw [List.length_drop]; omega)]
theorem prY_all {l : List Ky} (x : Ky) : prY l l.length x l.length ++ [x] = insY l l.length x := by
  rw [prY, if_pos (Nat.le_refl _), insY, List.drop_length]
def L60 : MC := match m60 with | .seq _ (.seq _ (.seq _ (.seq (.seq _ (.block _ (.loop _ b))) _))) => b | _ => .skip
def S60 (f : Bool) (m : Sh) (l : List Ky) (k : Nat) (x : Ky) (i : Nat) : St :=
  ⟨[.set 7 (i64 i), .set 6 (.bool (decide (k < i))), .set 5 (.sl 5005 [] 0 (prY l k x i).length), .set 3 (.ptr 3 []), .set 0 (.lst f m (ks l))], [(3, .fix sY (ky x)), (5005, .grow sY (ks (prY l k x i)))]⟩
theorem prY_len {l : List Ky} {k i : Nat} (x : Ky) (hi : i ≤ l.length) : (prY l k x i).length ≤ i + 1 := by
  rw [prY]
  by_cases h : i ≤ k
  · rw [if_pos h, List.length_take]; omega
  · rw [if_neg h, List.length_append, List.length_cons, List.length_take, List.length_take]; omega
set_option maxHeartbeats 1000000 in
theorem rins_at (h : 2 ≤ n) {f : Bool} {m : Sh} {l : List Ky} (hm : Mk l m) (hl : l.length ≤ 1000) {k : Nat} (hk : k ≤ l.length) {x : Ky} (ha : ∀ j, j < k → bef x (yat l j) = false) (hb : k < l.length → bef x (yat l k) = true) :
    call gl tab n 60 [.lst f m (ks l), ky x] [] = some (.sl 20000 [] 0 (l.length + 1), [], [.grow sY (ks (insY l k x))]) := by
  obtain ⟨d, rfl⟩ := Nat.exists_eq_add_of_le' h
  have c56 := fun i => @before_at gl (d + 1) (by omega) x (yat l i)
  have hs : ∀ i, i < l.length → contK [.slot 0, .slot 3, .own 5 5005 sY, .slot 6, .slot 7, .key 3] (evC gl (call gl tab (d + 1)) L60 (S60 f m l k x i)) = some (S60 f m l k x (i + 1)) := fun i hi => by
    have hx := ks_at hi
    obtain rfl := hm.eq hi
    have c := c56 i
    have hlen := @prY_len l k i x (by omega)
    have hlim : (prY l k x i).length + 1 ≤ LIM := by unfold LIM; omega
    have hlim2 : (prY l k x i).length + 1 + 1 ≤ LIM := by unfold LIM; omega
    have t1 := fun v => ks_take (prY l k x i) v
    rcases Nat.lt_trichotomy i k with h1 | h1 | h1
    · rw [ha i h1] at c
      have e := prY_lo x h1 hk
      have d1 : decide (k < i) = false := decide_eq_false (by omega)
      have d2 : decide (k < i + 1) = false := decide_eq_false (by omega)
      rw [S60, S60, e, ks_app, d1, d2]
      generalize prY l k x i = w at *
      simp (disch := ((fail_if_success (intro _)); omega)) only [go_sem, simprocAttr, ↓reduceIte, ↓Nat.reduceEqDiff, xx, L60, m60, hx, ks_length, c, hlim, t1, List.length_append, List.length_cons, List.length_nil]
    · subst h1
      rw [hb hi] at c
      have e := prY_at x hi
      have d1 : decide (i < i) = false := decide_eq_false (by omega)
      have d2 : decide (i < i + 1) = true := decide_eq_true (by omega)
      have t2 := fun v => ks_take (prY l i x i ++ [x]) v
      rw [ks_app, List.length_append, List.length_cons, List.length_nil] at t2
      rw [S60, S60, e, ks_app, ks_app, d1, d2]
      generalize prY l i x i = w at *
      simp (disch := ((fail_if_success (intro _)); omega)) only [go_sem, simprocAttr, ↓reduceIte, ↓Nat.reduceEqDiff, xx, L60, m60, hx, ks_length, c, hlim, hlim2, t1, t2, List.length_append, List.length_cons, List.length_nil]
    · have e := prY_hi x h1 hi
      have d1 : decide (k < i) = true := decide_eq_true (by omega)
      have d2 : decide (k < i + 1) = true := decide_eq_true (by omega)
      rw [S60, S60, e, ks_app, d1, d2]
      generalize prY l k x i = w at *
      simp (disch := ((fail_if_success (intro _)); omega)) only [go_sem, simprocAttr, ↓reduceIte, ↓Nat.reduceEqDiff, xx, L60, m60, hx, ks_length, c, hlim, t1, List.length_append, List.length_cons, List.length_nil]
  simp only [L60, m60] at hs
  rw [call_go (fd := fd60) rfl]
  simp (disch := ((fail_if_success (intro _)); omega)) only [go_sem, simprocAttr, ↓reduceIte, ↓Nat.reduceEqDiff, xx, fd60, m60, ks_length]
  rw [iter_to (S60 f m l k x) l.length (by unfold LF; omega)]
  · by_cases h1 : k < l.length
    · have e := prY_end x h1
      have d1 : decide (k < l.length) = true := decide_eq_true h1
      have e2 := insY_length hk x
      have t := ks_take' (insY l k x)
      rw [e2] at t
      rw [S60, e, d1, e2]
      generalize insY l k x = w at *
      simp (disch := ((fail_if_success (intro _)); omega)) only [go_sem, simprocAttr, ↓reduceIte, ↓Nat.reduceEqDiff, xx, ks_length, e2, t]
    · obtain rfl : k = l.length := by omega
      have e := @prY_all l x
      have d1 : decide (l.length < l.length) = false := decide_eq_false (by omega)
      have e2 := insY_length hk x
      have t := ks_take (prY l l.length x l.length)
      have e3 : (prY l l.length x l.length).length = l.length := by
        have := congrArg List.length e
        rw [List.length_append, e2] at this; simp at this; omega
      rw [e3] at t
      have hlim : l.length + 1 ≤ LIM := by unfold LIM; omega
      rw [S60, d1, ← e, e3, ks_app]
      generalize prY l l.length x l.length = w at *
      simp (disch := ((fail_if_success (intro _)); omega)) only [go_sem, simprocAttr, ↓reduceIte, ↓Nat.reduceEqDiff, xx, ks_length, e3, t, hlim, List.length_append, List.length_cons, List.length_nil]
  · simp (disch := ((fail_if_success (intro _)); omega)) only [go_sem, simprocAttr, ↓reduceIte, ↓Nat.reduceEqDiff, xx, S60, prY_0, ks_length, ks_nil]
  · exact hs
  · simp (disch := ((fail_if_success (intro _)); omega)) only [go_sem, simprocAttr, ↓reduceIte, ↓Nat.reduceEqDiff, xx, S60, ks_length]
end Go.Proofs.S04
namespace Go.Proofs.S04
open Go Go.Ev Go.Proofs
variable {gl : Gl} {n : Nat}
def L15 : MC := match m15 with | .seq _ (.seq _ (.seq (.seq _ (.block _ (.loop _ b))) _)) => b | _ => .skip
def S15 (f : Bool) (m : Sh) (g : Bool) (m' : Sh) (l : List Ky) (i : Nat) : St := ⟨[.set 5 (i64 i), .set 1 (.lst g m' (ks l)), .set 0 (.lst f m (ks l))], []⟩
theorem same_at (h : 1 ≤ n) {f : Bool} {m : Sh} {g : Bool} {m' : Sh} {l : List Ky} (hm : Mk l m) (hm' : Mk l m') (hl : l.length < 2 ^ 60) :
    call gl tab n 15 [.lst f m (ks l), .lst g m' (ks l)] [] = some (.bool true, [], []) := by
  obtain ⟨d, rfl⟩ := Nat.exists_eq_add_of_le' h
  have hs : ∀ i, i < l.length → contK [.slot 0, .slot 1, .slot 5] (evC gl (call gl tab d) L15 (S15 f m g m' l i)) = some (S15 f m g m' l (i + 1)) := fun i hi => by
    have hx := ks_at hi
    obtain rfl := hm.eq hi
    obtain rfl := hm'.eq hi
    simp (disch := ((fail_if_success (intro _)); omega)) only [go_sem, simprocAttr, ↓reduceIte, ↓Nat.reduceEqDiff, xx, L15, m15, S15, ks_length, hx, eqAV, eqAVs, beq_self_eq_true]
  simp only [L15, m15] at hs
  rw [call_go (fd := fd15) rfl]
  simp (disch := ((fail_if_success (intro _)); omega)) only [go_sem, simprocAttr, ↓reduceIte, ↓Nat.reduceEqDiff, xx, fd15, m15, ks_length, bne_self_eq_false]
  rw [iter_to (S15 f m g m' l) l.length (by unfold LF; omega)]
  · simp (disch := ((fail_if_success (intro _)); omega)) only [go_sem, simprocAttr, ↓reduceIte, ↓Nat.reduceEqDiff, xx, S15, ks_length]
  · simp (disch := ((fail_if_success (intro _)); omega)) only [go_sem, simprocAttr, ↓reduceIte, ↓Nat.reduceEqDiff, xx, S15, ks_length]
  · exact hs
  · simp (disch := ((fail_if_success (intro _)); omega)) only [go_sem, simprocAttr, ↓reduceIte, ↓Nat.reduceEqDiff, xx, S15, ks_length]
theorem same_nil (h : 1 ≤ n) : call gl tab n 15 [.lst true .sc [], .lst true .sc []] [] = some (.bool true, [], []) := same_at (l := []) h (.inl rfl) (.inl rfl) (by simp)
theorem R64.of {a : Int} (h : 1 ≤ a ∧ a ≤ 1073741824) : R64 a := by unfold R64; omega
theorem pl_bef {l : List Ky} {x : Ky} {k : Nat} (h : Pl l x.p x.s k) : ∀ j, j < k → bef x (yat l j) = false := fun j hj => by
  have := h.lo j hj
  unfold lo at this; unfold bef; rw [decide_eq_false_iff_not]; omega
theorem pl_aft {l : List Ky} {x : Ky} {k : Nat} (h : Pl l x.p x.s k) (hn : ∀ i, ¬ Is l x.p x.s i) {j : Nat} (hj : k ≤ j) (hk : j < l.length) : bef x (yat l j) = true := by
  have h1 := h.hi j hj hk
  have h2 := hn j
  unfold lo at h1; unfold Is at h2; unfold bef; rw [decide_eq_true_eq]
  omega
theorem insY_vr {l : List Ky} (hv : VR l) (hl : l.length < 1000) {x : Ky} (hx : VK x) {k : Nat} (hk : k ≤ l.length) (h1 : ∀ j, j < k → bef (yat l j) x = true) (h2 : k < l.length → bef x (yat l k) = true) : VR (insY l k x) := by
  have hlen := insY_length hk x
  refine ⟨by omega, fun i hi => ?_⟩
  rw [hlen] at hi
  rcases Nat.lt_trichotomy i k with h | h | h
  · rw [ROk_eq]
    rw [insY_lo hk x h]
    refine ⟨(hv.ok i (by omega)).v, fun h0 => ?_⟩
    rw [insY_lo hk x (by omega)]
    exact (hv.ok i (by omega)).b h0
  · subst h
    rw [ROk_eq, insY_at hk x]
    refine ⟨hx, fun h0 => ?_⟩
    rw [insY_lo hk x (by omega)]
    exact h1 _ (by omega)
  · obtain ⟨i, rfl⟩ : ∃ j, i = j + 1 := ⟨i - 1, by omega⟩
    rw [ROk_eq, insY_hi hk x (by omega)]
    refine ⟨(hv.ok i (by omega)).v, fun _ => ?_⟩
    rw [Nat.add_sub_cancel]
    by_cases h3 : i = k
    · subst h3; rw [insY_at hk x]; exact h2 (by omega)
    · obtain ⟨i, rfl⟩ : ∃ j, i = j + 1 := ⟨i - 1, by omega⟩
      rw [insY_hi hk x (by omega)]
      exact (hv.ok (i + 1) (by omega)).b (by omega)
set_option maxHeartbeats 1000000 in
theorem adds (h : 5 ≤ n) {f : Bool} {m : Sh} {l : List Ky} (hm : Mk l m) (hv : VR l) (hl : l.length < 1000) {x : Ky} (hk : x.k.length ≤ 9223372036854775807) :
    (∃ e : Int, e ≠ 0 ∧ call gl tab n 13 [.lst f m (ks l), ky x] [] = some (.tup [.lst true .sc [], i64 e], [], []) ∧ call gl tab n 14 [.lst f m (ks l), ky x] [] = some (.agg [.lst true .sc [], i64 e], [], [])) ∨
    ∃ k, VR (insY l k x) ∧ call gl tab n 13 [.lst f m (ks l), ky x] [] = some (.tup [.lst false sY (ks (insY l k x)), i64 0], [], []) ∧ call gl tab n 14 [.lst f m (ks l), ky x] [] = some (.agg [.lst false sY (ks (insY l k x)), i64 0], [], []) := by
  obtain ⟨d, rfl⟩ := Nat.exists_eq_add_of_le' h
  have c9 := @valid_at gl (d + 4) (by omega) x hk
  have c10 := @rvalid_at gl (d + 4) (by omega) x hk
  by_cases hx : VK x
  case neg =>
    rw [decide_eq_false hx] at c9 c10
    refine .inl ⟨1, by decide, ?_, ?_⟩
    · rw [call_go (fd := fd13) rfl]; simp (disch := ((fail_if_success (intro _)); omega)) only [go_sem, simprocAttr, ↓reduceIte, ↓Nat.reduceEqDiff, xx, fd13, m13, c9]
    · rw [call_go (fd := fd14) rfl]; simp (disch := ((fail_if_success (intro _)); omega)) only [go_sem, simprocAttr, ↓reduceIte, ↓Nat.reduceEqDiff, xx, fd14, m14, c10]
  rw [decide_eq_true hx] at c9 c10
  obtain ⟨k, b, hkl, hpl, hb, hnb, c57⟩ := @place_at gl (d + 4) (by omega) f m l hm hv x.p x.s (.of hx.p) (.of hx.s)
  have hP := hpl ⟨by have := hx.p; omega, by have := hx.s; omega⟩
  rcases @finds gl (d + 4) (by omega) f m l hm hv x.p x.s (.of hx.p) (.of hx.s) with ⟨j, hj, _, c17⟩ | ⟨hno, _, c17⟩
  · have hbt : b = true := by
      cases b with
      | true => rfl
      | false => exact absurd hj (hnb rfl j)
    subst hbt
    refine .inl ⟨6, by decide, ?_, ?_⟩
    · rw [call_go (fd := fd13) rfl]; simp (disch := ((fail_if_success (intro _)); omega)) only [go_sem, simprocAttr, ↓reduceIte, ↓Nat.reduceEqDiff, xx, fd13, m13, c9, c57]
    · rw [call_go (fd := fd14) rfl]; simp (disch := ((fail_if_success (intro _)); omega)) only [go_sem, simprocAttr, ↓reduceIte, ↓Nat.reduceEqDiff, xx, fd14, m14, c10, c17]
  have hbf : b = false := by
    cases b with
    | false => rfl
    | true => exact absurd (hb.1 rfl) (hno k)
  subst hbf
  have ha := pl_bef hP
  have hb2 := fun h => pl_aft hP hno (Nat.le_refl k) h
  have c59 := @clone_at gl (d + 4) (by omega) f m l hm (by omega)
  have c58 := @insert_at gl (d + 4) (by omega) l (by omega) k hkl x
  have c60 := @rins_at gl (d + 4) (by omega) f m l hm (by omega) k hkl x ha hb2
  have e1 := insY_length hkl x
  have e2 := ks_take' (insY l k x)
  rw [e1] at e2
  refine .inr ⟨k, insY_vr hv hl hx hkl (fun j hj => ?_) hb2, ?_, ?_⟩
  · have := hP.lo j hj
    unfold lo at this; unfold bef; rw [decide_eq_true_eq]; exact this
  · generalize insY l k x = w at *
    rw [call_go (fd := fd13) rfl]; simp (disch := ((fail_if_success (intro _)); omega)) only [go_sem, simprocAttr, ↓reduceIte, ↓Nat.reduceEqDiff, xx, fd13, m13, c9, c57, ks_length, c59, c58, e1, e2]
  · generalize insY l k x = w at *
    rw [call_go (fd := fd14) rfl]; simp (disch := ((fail_if_success (intro _)); omega)) only [go_sem, simprocAttr, ↓reduceIte, ↓Nat.reduceEqDiff, xx, fd14, m14, c10, c17, ks_length, c60, e1, e2]
end Go.Proofs.S04
