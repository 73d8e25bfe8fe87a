/-
  Chapter 16: is a division fair? No condition.
-/
import Derived.Test.YtjkgmpckddolfaaW16c
set_option linter.unusedVariables false
set_option linter.unusedSimpArgs false
set_option linter.unusedSectionVars false
namespace Go.Proofs.S16
open Go Go.Ev Go.Proofs
set_option linter.unusedSimpArgs false
set_option linter.unusedVariables false
set_option linter.unusedSectionVars false
variable {gl : Gl} {n : Nat}
def mxm (a b : Int) : Int := if a < b then b else a
def ceil1 (g w : Int) : Int := (g + w - 1) / w - 1
structure GOk (s : S2) (g : Int) : Prop where
  lo : 0 ≤ g
  hi : g ≤ s.x
def sumG (g : List Int) : Nat → Int
  | 0 => 0
  | i + 1 => sumG g i + nat g i
def sumX (l : List S2) : Nat → Int
  | 0 => 0
  | i + 1 => sumX l i + (sat l i).x
def lowF (l : List S2) (g : List Int) : Nat → Int
  | 0 => 0
  | i + 1 => mxm (lowF l g i) (ceil1 (nat g i) (sat l i).w)
def highF (l : List S2) (g : List Int) : Nat → Int
  | 0 => 1099511627776
  | i + 1 => if nat g i < (sat l i).x then mn (highF l g i) (nat g i / (sat l i).w) else highF l g i
theorem ceil1_bd {g w : Int} (hg : 0 ≤ g ∧ g ≤ 1099511627776) (hw : 1 ≤ w ∧ w ≤ 1048576) : -1 ≤ ceil1 g w ∧ ceil1 g w ≤ 1099511627776 ∧ 0 ≤ (g + w - 1) / w ∧ (g + w - 1) / w ≤ 1099511627777 := by
  have h1 : 0 ≤ (g + w - 1) / w := Int.ediv_nonneg (by omega) (by omega)
  have h2 : (g + w - 1) / w ≤ g + w - 1 := Int.ediv_le_self _ (by omega)
  have h3 : (g + w - 1) / w < g + 2 := by
    refine Int.ediv_lt_of_lt_mul (by omega) ?_
    have h4 : g * 1 ≤ g * w := Int.mul_le_mul_of_nonneg_left hw.1 hg.1
    rw [Int.add_mul]; omega
  unfold ceil1; omega
theorem floor_bd {g w : Int} (hg : 0 ≤ g ∧ g ≤ 1099511627776) (hw : 1 ≤ w ∧ w ≤ 1048576) : 0 ≤ g / w ∧ g / w ≤ 1099511627776 := by
  have h1 : 0 ≤ g / w := Int.ediv_nonneg (by omega) (by omega)
  have h2 : g / w ≤ g := Int.ediv_le_self _ (by omega)
  omega
section
variable {l : List S2} {g : List Int}
theorem lowF_bd (hv : VS l) : ∀ {i : Nat}, i ≤ l.length → (∀ j, j < i → GOk (sat l j) (nat g j)) → 0 ≤ lowF l g i ∧ lowF l g i ≤ 1099511627776
  | 0, _, _ => by simp [lowF]
  | i + 1, hi, hg => by
    have h1 := lowF_bd hv (show i ≤ l.length by omega) fun j hj => hg j (by omega)
    have h2 := hg i (by omega); have h3 := hv.ok i (by omega)
    have := ceil1_bd (show 0 ≤ nat g i ∧ nat g i ≤ 1099511627776 by have := h2.lo; have := h2.hi; have := h3.x; omega) h3.w
    rw [lowF, mxm]; split <;> omega
theorem highF_bd (hv : VS l) : ∀ {i : Nat}, i ≤ l.length → (∀ j, j < i → GOk (sat l j) (nat g j)) → 0 ≤ highF l g i ∧ highF l g i ≤ 1099511627776
  | 0, _, _ => by simp [highF]
  | i + 1, hi, hg => by
    have h1 := highF_bd hv (show i ≤ l.length by omega) fun j hj => hg j (by omega)
    have h2 := hg i (by omega); have h3 := hv.ok i (by omega)
    have := floor_bd (show 0 ≤ nat g i ∧ nat g i ≤ 1099511627776 by have := h2.lo; have := h2.hi; have := h3.x; omega) h3.w
    rw [highF, mn]; split
    · split <;> omega
    · omega
theorem sumG_bd (hv : VS l) : ∀ {i : Nat}, i ≤ l.length → (∀ j, j < i → GOk (sat l j) (nat g j)) → 0 ≤ sumG g i ∧ sumG g i ≤ (i : Int) * 1099511627776
  | 0, _, _ => by simp [sumG]
  | i + 1, hi, hg => by
    have h1 := sumG_bd hv (show i ≤ l.length by omega) fun j hj => hg j (by omega)
    have h2 := hg i (by omega); have h3 := (hv.ok i (by omega)).x
    have := h2.lo; have := h2.hi
    rw [sumG]; omega
theorem sumX_bd (hv : VS l) : ∀ {i : Nat}, i ≤ l.length → 0 ≤ sumX l i ∧ sumX l i ≤ (i : Int) * 1099511627776
  | 0, _ => by simp [sumX]
  | i + 1, hi => by
    have h1 := sumX_bd hv (show i ≤ l.length by omega)
    have h3 := (hv.ok i (by omega)).x
    rw [sumX]; omega
end
def L18 : MC := match m18 with | .seq _ (.seq _ (.seq _ (.seq (.seq _ (.block _ (.loop _ b))) _))) => b | _ => .skip
def S18 (f f' : Bool) (k k' : Sh) (l : List S2) (g : List Int) (c : Int) (i : Nat) : St :=
  ⟨[.set 20 (i64 i), .set 19 (i64 l.length), .set 18 (.lst f k (sh l)), .set 10 (i64 (highF l g i)), .set 9 (i64 (lowF l g i)), .set 8 (i64 (sumX l i)), .set 7 (i64 (sumG g i)), .set 2 (.lst f' k' (ns g)), .set 0 (i64 c)], []⟩
def K18 : List Kp := [.slot 0, .slot 2, .slot 7, .slot 8, .slot 9, .slot 10, .slot 18, .slot 19, .slot 20]
section
variable {l : List S2} {g : List Int} {f f' : Bool} {k k' : Sh} {c : Int} (hm : Mk l k sS) (hm' : Mk g k' .sc) (hv : VS l) (hlen : g.length = l.length)
include hm hm' hv hlen
set_option maxHeartbeats 1000000 in
theorem loop18_t {i : Nat} (hi : i < l.length) (hj : ∀ j, j < i → GOk (sat l j) (nat g j)) (hp : GOk (sat l i) (nat g i)) :
    contK K18 (evC gl (call gl tab n) L18 (S18 f f' k k' l g c i)) = some (S18 f f' k k' l g c (i + 1)) := by
  have hx := sh_at hi
  have hy := ns_at (show i < g.length by omega)
  obtain rfl := hm.eq hi
  obtain rfl := hm'.eq (show i < g.length by omega)
  obtain ⟨g1, g2⟩ := hp
  obtain ⟨⟨s1, s2⟩, ⟨s3, s4⟩⟩ := hv.ok i hi
  have hn := hv.n
  have b1 := lowF_bd hv (show i ≤ l.length by omega) hj
  have b2 := highF_bd hv (show i ≤ l.length by omega) hj
  have b3 := sumG_bd hv (show i ≤ l.length by omega) hj
  have b4 := sumX_bd hv (show i ≤ l.length by omega)
  obtain ⟨q1, q2, q3, q4⟩ := ceil1_bd (show 0 ≤ nat g i ∧ nat g i ≤ 1099511627776 by omega) (show 1 ≤ (sat l i).w ∧ (sat l i).w ≤ 1048576 by omega)
  have q5 := floor_bd (show 0 ≤ nat g i ∧ nat g i ≤ 1099511627776 by omega) (show 1 ≤ (sat l i).w ∧ (sat l i).w ≤ 1048576 by omega)
  have d1 : Int.tdiv (nat g i + (sat l i).w - 1) (sat l i).w = (nat g i + (sat l i).w - 1) / (sat l i).w := Int.tdiv_eq_ediv_of_nonneg (by omega)
  have d2 : Int.tdiv (nat g i) (sat l i).w = nat g i / (sat l i).w := Int.tdiv_eq_ediv_of_nonneg g1
  have w0 : ¬ (sat l i).w = 0 := by omega
  have e1 : (if lowF l g i < (nat g i + (sat l i).w - 1) / (sat l i).w - 1 then (nat g i + (sat l i).w - 1) / (sat l i).w - 1 else lowF l g i) = lowF l g (i + 1) := rfl
  by_cases hlt : nat g i < (sat l i).x
  · have e2 : (if nat g i / (sat l i).w < highF l g i then nat g i / (sat l i).w else highF l g i) = highF l g (i + 1) := by rw [highF, if_pos hlt]; rfl
    simp (disch := ((fail_if_success (intro _)); omega)) only [go_sem, simprocAttr, ↓reduceIte, xx, K18, L18, m18, S18, sh_length, ns_length, hx, hy, foldO, minAV, maxAV, gt_iff_lt, binInt, w0, d1, d2, e1, e2, sumG, sumX]
  · have e2 : highF l g (i + 1) = highF l g i := by rw [highF, if_neg hlt]
    simp (disch := ((fail_if_success (intro _)); omega)) only [go_sem, simprocAttr, ↓reduceIte, xx, K18, L18, m18, S18, sh_length, ns_length, hx, hy, foldO, minAV, maxAV, gt_iff_lt, binInt, w0, d1, d2, e1, e2, sumG, sumX]
theorem loop18_f {i : Nat} (hi : i < l.length) (hp : ¬ GOk (sat l i) (nat g i)) : out1 6 (evC gl (call gl tab n) L18 (S18 f f' k k' l g c i)) = some (.ret, .bool false) := by
  have hx := sh_at hi
  have hy := ns_at (show i < g.length by omega)
  obtain rfl := hm.eq hi
  obtain rfl := hm'.eq (show i < g.length by omega)
  by_cases h1 : nat g i < 0
  · simp (disch := ((fail_if_success (intro _)); omega)) only [go_sem, simprocAttr, ↓reduceIte, xx, L18, m18, S18, sh_length, ns_length, hx, hy]
  · have h2 : (sat l i).x < nat g i := Int.not_le.1 fun h => hp ⟨by omega, h⟩
    simp (disch := ((fail_if_success (intro _)); omega)) only [go_sem, simprocAttr, ↓reduceIte, xx, L18, m18, S18, sh_length, ns_length, hx, hy]
end
def exp1 (l : List S2) (g : List Int) (c : Int) : Prop := g.length = l.length ∧ (∀ i, i < l.length → GOk (sat l i) (nat g i)) ∧ sumG g l.length = mn c (sumX l l.length) ∧ lowF l g l.length ≤ highF l g l.length
theorem explains_at (h : 1 ≤ n) {l : List S2} {g : List Int} {f f' : Bool} {k k' : Sh} {c : Int} (hm : Mk l k sS) (hm' : Mk g k' .sc) (hv : VS l) :
    ∃ b : Bool, (b = true ↔ exp1 l g c) ∧ call gl tab n 18 [i64 c, .lst f k (sh l), .lst f' k' (ns g)] [] = some (.bool b, [], []) := by
  obtain ⟨d, rfl⟩ := Nat.exists_eq_add_of_le' h
  have hn := hv.n
  by_cases hlen : g.length = l.length
  case neg =>
    refine ⟨false, ⟨(fun h => by cases h), fun h => absurd h.1 hlen⟩, ?_⟩
    rw [call_go (fd := fd18) rfl]
    simp (disch := ((fail_if_success (intro _)); omega)) only [go_sem, simprocAttr, ↓reduceIte, xx, fd18, m18, sh_length, ns_length, bne]
  have lt := fun i (hi : i < l.length) => @loop18_t gl d l g f f' k k' c hm hm' hv hlen i hi
  have lf := fun i (hi : i < l.length) => @loop18_f gl d l g f f' k k' c hm hm' hv hlen i hi
  rcases first_fail (fun i => GOk (sat l i) (nat g i)) l.length with ha | ⟨q, hq, hb, he⟩
  · refine ⟨(sumG g l.length == mn c (sumX l l.length)) && decide (lowF l g l.length ≤ highF l g l.length), ?_, ?_⟩
    · rw [Bool.and_eq_true, beq_iff_eq, decide_eq_true_eq]
      exact ⟨fun ⟨h1, h2⟩ => ⟨hlen, ha, h1, h2⟩, fun ⟨_, _, h1, h2⟩ => ⟨h1, h2⟩⟩
    have lt2 := fun i hi => lt i hi (fun j hj => ha j (by omega)) (ha i hi)
    simp only [L18, m18, K18] at lt2
    have hmn : (if sumX l l.length < c then sumX l l.length else c) = mn c (sumX l l.length) := rfl
    rw [call_go (fd := fd18) rfl]
    simp (disch := ((fail_if_success (intro _)); omega)) only [go_sem, simprocAttr, ↓reduceIte, xx, fd18, m18, sh_length, ns_length]
    rw [iter_to (S18 f f' k k' l g c) l.length (by unfold LF; omega)]
    · simp (disch := ((fail_if_success (intro _)); omega)) only [go_sem, simprocAttr, ↓reduceIte, xx, S18, sh_length, foldO, minAV, hmn]
    · simp (disch := ((fail_if_success (intro _)); omega)) only [go_sem, simprocAttr, ↓reduceIte, xx, S18, sh_length, sumG, sumX, lowF, highF]
    · exact lt2
    · simp (disch := ((fail_if_success (intro _)); omega)) only [go_sem, simprocAttr, ↓reduceIte, xx, S18, sh_length]
  · obtain ⟨st, hst, hg2⟩ := out1_get (lf q hq he)
    have lt2 := fun i (hi : i < q) => lt i (by omega) (fun j hj => hb j (by omega)) (hb i hi)
    simp only [L18, m18, K18] at lt2 hst
    refine ⟨false, ⟨(fun h => by cases h), fun h => absurd (h.2.1 q hq) he⟩, ?_⟩
    rw [call_go (fd := fd18) rfl]
    simp (disch := ((fail_if_success (intro _)); omega)) only [go_sem, simprocAttr, ↓reduceIte, xx, fd18, m18, sh_length, ns_length]
    rw [iter_to (S18 f f' k k' l g c) q (by unfold LF; omega), hst]
    · simp (disch := ((fail_if_success (intro _)); omega)) only [go_sem, simprocAttr, ↓reduceIte, xx, hg2]
    · simp (disch := ((fail_if_success (intro _)); omega)) only [go_sem, simprocAttr, ↓reduceIte, xx, S18, sh_length, sumG, sumX, lowF, highF]
    · exact lt2
    · rw [hst]; rfl
/-! ### The specification's word -/
def L19 : MC := match m19 with | .seq _ (.seq _ (.seq _ (.seq _ (.seq _ (.seq (.seq _ (.block _ (.loop _ b))) _))))) => b | _ => .skip
def S19 (f f' : Bool) (k k' : Sh) (l : List S2) (g : List Int) (c : Int) (i : Nat) : St :=
  ⟨[.set 10 (i64 i), .set 9 (i64 (lowF l g i)), .set 8 (i64 (sumX l i)), .set 7 (i64 (sumG g i)), .set 2 (.lst f' k' (ns g)), .set 1 (.lst f k (sh l)), .set 0 (i64 c)], []⟩
def K19 : List Kp := [.slot 0, .slot 1, .slot 2, .slot 7, .slot 8, .slot 9, .slot 10]
section
variable {l : List S2} {g : List Int} {f f' : Bool} {k k' : Sh} {c : Int} (hm : Mk l k sS) (hm' : Mk g k' .sc) (hv : VS l) (hlen : g.length = l.length)
include hm hm' hv hlen
set_option maxHeartbeats 1000000 in
theorem loop19_t {i : Nat} (hi : i < l.length) (hj : ∀ j, j < i → GOk (sat l j) (nat g j)) (hp : GOk (sat l i) (nat g i)) :
    contK K19 (evC gl (call gl tab n) L19 (S19 f f' k k' l g c i)) = some (S19 f f' k k' l g c (i + 1)) := by
  have hx := sh_at hi
  have hy := ns_at (show i < g.length by omega)
  obtain rfl := hm.eq hi
  obtain rfl := hm'.eq (show i < g.length by omega)
  obtain ⟨g1, g2⟩ := hp
  obtain ⟨⟨s1, s2⟩, ⟨s3, s4⟩⟩ := hv.ok i hi
  have hn := hv.n
  have b1 := lowF_bd hv (show i ≤ l.length by omega) hj
  have b3 := sumG_bd hv (show i ≤ l.length by omega) hj
  have b4 := sumX_bd hv (show i ≤ l.length by omega)
  obtain ⟨q1, q2, q3, q4⟩ := ceil1_bd (show 0 ≤ nat g i ∧ nat g i ≤ 1099511627776 by omega) (show 1 ≤ (sat l i).w ∧ (sat l i).w ≤ 1048576 by omega)
  have d1 : Int.tdiv (nat g i + (sat l i).w - 1) (sat l i).w = (nat g i + (sat l i).w - 1) / (sat l i).w := Int.tdiv_eq_ediv_of_nonneg (by omega)
  have w0 : ¬ (sat l i).w = 0 := by omega
  have e1 : (if lowF l g i < (nat g i + (sat l i).w - 1) / (sat l i).w - 1 then (nat g i + (sat l i).w - 1) / (sat l i).w - 1 else lowF l g i) = lowF l g (i + 1) := rfl
  simp (disch := ((fail_if_success (intro _)); omega)) only [go_sem, simprocAttr, ↓reduceIte, xx, K19, L19, m19, S19, sh_length, ns_length, hx, hy, foldO, minAV, maxAV, gt_iff_lt, binInt, w0, d1, e1, sumG, sumX]
theorem loop19_f {i : Nat} (hi : i < l.length) (hp : ¬ GOk (sat l i) (nat g i)) : out1 6 (evC gl (call gl tab n) L19 (S19 f f' k k' l g c i)) = some (.ret, .bool false) := by
  have hx := sh_at hi
  have hy := ns_at (show i < g.length by omega)
  obtain rfl := hm.eq hi
  obtain rfl := hm'.eq (show i < g.length by omega)
  by_cases h1 : nat g i < 0
  · simp (disch := ((fail_if_success (intro _)); omega)) only [go_sem, simprocAttr, ↓reduceIte, xx, L19, m19, S19, sh_length, ns_length, hx, hy]
  · have h2 : (sat l i).x < nat g i := Int.not_le.1 fun h => hp ⟨by omega, h⟩
    simp (disch := ((fail_if_success (intro _)); omega)) only [go_sem, simprocAttr, ↓reduceIte, xx, L19, m19, S19, sh_length, ns_length, hx, hy]
end
/-- What the specification asks of each, at a level. -/
def WOk (s : S2) (g m : Int) : Prop := ¬ (g < s.x ∧ g < s.w * m) ∧ ¬ (s.w * (m + 1) < g)
def L39 : MC := match m39 with | .seq _ (.seq (.seq _ (.block _ (.loop _ b))) _) => b | _ => .skip
def S39 (f f' : Bool) (k k' : Sh) (l : List S2) (g : List Int) (m : Int) (i : Nat) : St := ⟨[.set 7 (i64 i), .set 2 (i64 m), .set 1 (.lst f' k' (ns g)), .set 0 (.lst f k (sh l))], []⟩
theorem within_at (h : 1 ≤ n) {l : List S2} {g : List Int} {f f' : Bool} {k k' : Sh} {m : Int} (hm : Mk l k sS) (hm' : Mk g k' .sc) (hv : VS l) (hlen : g.length = l.length) (hmb : 0 ≤ m ∧ m ≤ 1099511627776) :
    ∃ b : Bool, (b = true ↔ ∀ i, i < l.length → WOk (sat l i) (nat g i) m) ∧ call gl tab n 39 [.lst f k (sh l), .lst f' k' (ns g), i64 m] [] = some (.bool b, [], []) := by
  obtain ⟨d, rfl⟩ := Nat.exists_eq_add_of_le' h
  have hn := hv.n
  have hs : ∀ i, i < l.length → WOk (sat l i) (nat g i) m → contK [.slot 0, .slot 1, .slot 2, .slot 7] (evC gl (call gl tab d) L39 (S39 f f' k k' l g m i)) = some (S39 f f' k k' l g m (i + 1)) := fun i hi ⟨p1, p2⟩ => by
    have hx := sh_at hi
    have hy := ns_at (show i < g.length by omega)
    obtain rfl := hm.eq hi
    obtain rfl := hm'.eq (show i < g.length by omega)
    have h1 := mul_bd (hv.ok i hi) (show 0 ≤ m ∧ m ≤ 1099511627777 by omega)
    have h2 := mul_bd (hv.ok i hi) (show 0 ≤ m + 1 ∧ m + 1 ≤ 1099511627777 by omega)
    by_cases h3 : nat g i < (sat l i).x
    · have h4 : ¬ nat g i < (sat l i).w * m := fun h => p1 ⟨h3, h⟩
      simp (disch := ((fail_if_success (intro _)); omega)) only [go_sem, simprocAttr, ↓reduceIte, xx, L39, m39, S39, sh_length, ns_length, hx, hy]
    · simp (disch := ((fail_if_success (intro _)); omega)) only [go_sem, simprocAttr, ↓reduceIte, xx, L39, m39, S39, sh_length, ns_length, hx, hy]
  have hf : ∀ i, i < l.length → ¬ WOk (sat l i) (nat g i) m → out1 6 (evC gl (call gl tab d) L39 (S39 f f' k k' l g m i)) = some (.ret, .bool false) := fun i hi hp => by
    have hx := sh_at hi
    have hy := ns_at (show i < g.length by omega)
    obtain rfl := hm.eq hi
    obtain rfl := hm'.eq (show i < g.length by omega)
    have h1 := mul_bd (hv.ok i hi) (show 0 ≤ m ∧ m ≤ 1099511627777 by omega)
    have h2 := mul_bd (hv.ok i hi) (show 0 ≤ m + 1 ∧ m + 1 ≤ 1099511627777 by omega)
    by_cases h3 : nat g i < (sat l i).x
    · by_cases h4 : nat g i < (sat l i).w * m
      · simp (disch := ((fail_if_success (intro _)); omega)) only [go_sem, simprocAttr, ↓reduceIte, xx, L39, m39, S39, sh_length, ns_length, hx, hy]
      · have h5 : (sat l i).w * (m + 1) < nat g i := Classical.not_not.1 fun h => hp ⟨fun h' => h4 h'.2, h⟩
        simp (disch := ((fail_if_success (intro _)); omega)) only [go_sem, simprocAttr, ↓reduceIte, xx, L39, m39, S39, sh_length, ns_length, hx, hy]
    · have h5 : (sat l i).w * (m + 1) < nat g i := Classical.not_not.1 fun h => hp ⟨fun h' => h3 h'.1, h⟩
      simp (disch := ((fail_if_success (intro _)); omega)) only [go_sem, simprocAttr, ↓reduceIte, xx, L39, m39, S39, sh_length, ns_length, hx, hy]
  rcases first_fail (fun i => WOk (sat l i) (nat g i) m) l.length with ha | ⟨q, hq, hb, he⟩
  · refine ⟨true, ⟨fun _ => ha, fun _ => rfl⟩, ?_⟩
    have lt2 := fun i hi => hs i hi (ha i hi)
    simp only [L39, m39] at lt2
    rw [call_go (fd := fd39) rfl]
    simp (disch := ((fail_if_success (intro _)); omega)) only [go_sem, simprocAttr, ↓reduceIte, xx, fd39, m39, sh_length, ns_length]
    rw [iter_to (S39 f f' k k' l g m) l.length (by unfold LF; omega)]
    · simp (disch := ((fail_if_success (intro _)); omega)) only [go_sem, simprocAttr, ↓reduceIte, xx, S39, sh_length]
    · simp (disch := ((fail_if_success (intro _)); omega)) only [go_sem, simprocAttr, ↓reduceIte, xx, S39, sh_length]
    · exact lt2
    · simp (disch := ((fail_if_success (intro _)); omega)) only [go_sem, simprocAttr, ↓reduceIte, xx, S39, sh_length]
  · obtain ⟨st, hst, hg2⟩ := out1_get (hf q hq he)
    have lt2 := fun i (hi : i < q) => hs i (by omega) (hb i hi)
    simp only [L39, m39] at lt2 hst
    refine ⟨false, ⟨(fun h => by cases h), fun h => absurd (h q hq) he⟩, ?_⟩
    rw [call_go (fd := fd39) rfl]
    simp (disch := ((fail_if_success (intro _)); omega)) only [go_sem, simprocAttr, ↓reduceIte, xx, fd39, m39, sh_length, ns_length]
    rw [iter_to (S39 f f' k k' l g m) q (by unfold LF; omega), hst]
    · simp (disch := ((fail_if_success (intro _)); omega)) only [go_sem, simprocAttr, ↓reduceIte, xx, hg2]
    · simp (disch := ((fail_if_success (intro _)); omega)) only [go_sem, simprocAttr, ↓reduceIte, xx, S39, sh_length]
    · exact lt2
    · rw [hst]; rfl
theorem lowF_ge {l : List S2} {g : List Int} : ∀ {i j : Nat}, j < i → ceil1 (nat g j) (sat l j).w ≤ lowF l g i
  | i + 1, j, h => by
    rw [lowF]
    by_cases hj : j < i
    · have := lowF_ge (l := l) (g := g) hj
      unfold mxm; split <;> omega
    · obtain rfl : j = i := by omega
      unfold mxm; split <;> omega
theorem highF_le {l : List S2} {g : List Int} {m : Int} : ∀ {i : Nat}, m ≤ highF l g i ↔ m ≤ 1099511627776 ∧ ∀ j, j < i → nat g j < (sat l j).x → m ≤ nat g j / (sat l j).w
  | 0 => by simp [highF]
  | i + 1 => by
    rw [highF]
    have ih := highF_le (l := l) (g := g) (m := m) (i := i)
    split
    · rename_i hlt
      have e : m ≤ mn (highF l g i) (nat g i / (sat l i).w) ↔ m ≤ highF l g i ∧ m ≤ nat g i / (sat l i).w := by unfold mn; split <;> omega
      rw [e, ih]
      refine ⟨fun ⟨⟨h1, h2⟩, h3⟩ => ⟨h1, fun j hj hl => ?_⟩, fun ⟨h1, h2⟩ => ⟨⟨h1, fun j hj => h2 j (by omega)⟩, h2 i (by omega) hlt⟩⟩
      by_cases h4 : j = i
      · subst h4; exact h3
      · exact h2 j (by omega) hl
    · rename_i hlt
      rw [ih]
      refine ⟨fun ⟨h1, h2⟩ => ⟨h1, fun j hj hl => ?_⟩, fun ⟨h1, h2⟩ => ⟨h1, fun j hj => h2 j (by omega)⟩⟩
      by_cases h4 : j = i
      · subst h4; exact absurd hl hlt
      · exact h2 j (by omega) hl
/-- Both words say the same. -/
theorem low_high {l : List S2} {g : List Int} (hv : VS l) (hg : ∀ i, i < l.length → GOk (sat l i) (nat g i)) : lowF l g l.length ≤ highF l g l.length ↔ ∀ i, i < l.length → WOk (sat l i) (nat g i) (lowF l g l.length) := by
  have hb := lowF_bd hv (Nat.le_refl _) hg
  rw [highF_le]
  constructor
  · rintro ⟨_, h⟩ i hi
    have hw := (hv.ok i hi).w
    refine ⟨fun ⟨h1, h2⟩ => ?_, fun h2 => ?_⟩
    · have h3 := (Int.le_ediv_iff_mul_le (show 0 < (sat l i).w by omega)).1 (h i hi h1)
      rw [Int.mul_comm] at h3; omega
    · have h3 := lowF_ge (l := l) (g := g) hi
      unfold ceil1 at h3
      have h4 : (nat g i + (sat l i).w - 1) / (sat l i).w ≤ lowF l g l.length + 1 := by omega
      have h5 := Int.mul_le_mul_of_nonneg_left h4 (show 0 ≤ (sat l i).w by omega)
      have h6 := Int.mul_ediv_add_emod (nat g i + (sat l i).w - 1) (sat l i).w
      have h7 := Int.emod_lt_of_pos (nat g i + (sat l i).w - 1) (show 0 < (sat l i).w by omega)
      omega
  · intro h
    refine ⟨hb.2, fun j hj hl => ?_⟩
    have hw := (hv.ok j hj).w
    refine (Int.le_ediv_iff_mul_le (show 0 < (sat l j).w by omega)).2 ?_
    rw [Int.mul_comm]
    exact Int.not_lt.1 fun h2 => (h j hj).1 ⟨hl, h2⟩
theorem rexplains_at (h : 2 ≤ n) {l : List S2} {g : List Int} {f f' : Bool} {k k' : Sh} {c : Int} (hm : Mk l k sS) (hm' : Mk g k' .sc) (hv : VS l) :
    ∃ b : Bool, (b = true ↔ exp1 l g c) ∧ call gl tab n 19 [i64 c, .lst f k (sh l), .lst f' k' (ns g)] [] = some (.bool b, [], []) := by
  obtain ⟨d, rfl⟩ := Nat.exists_eq_add_of_le' h
  have hn := hv.n
  by_cases hlen : g.length = l.length
  case neg =>
    refine ⟨false, ⟨(fun h => by cases h), fun h => absurd h.1 hlen⟩, ?_⟩
    rw [call_go (fd := fd19) rfl]
    simp (disch := ((fail_if_success (intro _)); omega)) only [go_sem, simprocAttr, ↓reduceIte, xx, fd19, m19, sh_length, ns_length, bne]
  have lt := fun i (hi : i < l.length) => @loop19_t gl (d + 1) l g f f' k k' c hm hm' hv hlen i hi
  have lf := fun i (hi : i < l.length) => @loop19_f gl (d + 1) l g f f' k k' c hm hm' hv hlen i hi
  rcases first_fail (fun i => GOk (sat l i) (nat g i)) l.length with ha | ⟨q, hq, hb, he⟩
  · obtain ⟨b, hb, c39⟩ := @within_at gl (d + 1) (by omega) l g f f' k k' (lowF l g l.length) hm hm' hv hlen (lowF_bd hv (Nat.le_refl _) ha)
    refine ⟨(sumG g l.length == mn c (sumX l l.length)) && b, ?_, ?_⟩
    · rw [Bool.and_eq_true, beq_iff_eq, hb, ← low_high hv ha]
      exact ⟨fun ⟨h1, h2⟩ => ⟨hlen, ha, h1, h2⟩, fun ⟨_, _, h1, h2⟩ => ⟨h1, h2⟩⟩
    have lt2 := fun i hi => lt i hi (fun j hj => ha j (by omega)) (ha i hi)
    simp only [L19, m19, K19] at lt2
    have hmn : (if sumX l l.length < c then sumX l l.length else c) = mn c (sumX l l.length) := rfl
    rw [call_go (fd := fd19) rfl]
    simp (disch := ((fail_if_success (intro _)); omega)) only [go_sem, simprocAttr, ↓reduceIte, xx, fd19, m19, sh_length, ns_length]
    rw [iter_to (S19 f f' k k' l g c) l.length (by unfold LF; omega)]
    · simp (disch := ((fail_if_success (intro _)); omega)) only [go_sem, simprocAttr, ↓reduceIte, xx, S19, sh_length, foldO, minAV, hmn, c39]
    · simp (disch := ((fail_if_success (intro _)); omega)) only [go_sem, simprocAttr, ↓reduceIte, xx, S19, sh_length, sumG, sumX, lowF]
    · exact lt2
    · simp (disch := ((fail_if_success (intro _)); omega)) only [go_sem, simprocAttr, ↓reduceIte, xx, S19, sh_length]
  · obtain ⟨st, hst, hg2⟩ := out1_get (lf q hq he)
    have lt2 := fun i (hi : i < q) => lt i (by omega) (fun j hj => hb j (by omega)) (hb i hi)
    simp only [L19, m19, K19] at lt2 hst
    refine ⟨false, ⟨(fun h => by cases h), fun h => absurd (h.2.1 q hq) he⟩, ?_⟩
    rw [call_go (fd := fd19) rfl]
    simp (disch := ((fail_if_success (intro _)); omega)) only [go_sem, simprocAttr, ↓reduceIte, xx, fd19, m19, sh_length, ns_length]
    rw [iter_to (S19 f f' k k' l g c) q (by unfold LF; omega), hst]
    · simp (disch := ((fail_if_success (intro _)); omega)) only [go_sem, simprocAttr, ↓reduceIte, xx, hg2]
    · simp (disch := ((fail_if_success (intro _)); omega)) only [go_sem, simprocAttr, ↓reduceIte, xx, S19, sh_length, sumG, sumX, lowF]
    · exact lt2
    · rw [hst]; rfl
end Go.Proofs.S16
