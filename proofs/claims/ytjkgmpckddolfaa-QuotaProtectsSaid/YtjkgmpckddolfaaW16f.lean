/-
  Chapter 16: accounts. No condition.
-/
import Derived.Test.YtjkgmpckddolfaaW16a
set_option linter.unusedVariables false
set_option linter.unusedSimpArgs false
set_option linter.unusedSectionVars false
namespace Go.Proofs.S16
open Go Go.Ev Go.Proofs
set_option linter.unusedSimpArgs false
set_option linter.unusedVariables false
variable {gl : Gl} {n : Nat}
def prevT (l : List A3) : Nat → Int
  | 0 => 0
  | i + 1 => (aat l i).t
theorem prevT_0 (l : List A3) : prevT l 0 = 0 := rfl
theorem prevT_s (l : List A3) (i : Nat) : prevT l (i + 1) = (aat l i).t := rfl
structure AOk (l : List A3) (i : Nat) : Prop where
  t : prevT l i < (aat l i).t
  w : 1 ≤ (aat l i).w ∧ (aat l i).w ≤ 1048576
  u : 0 ≤ (aat l i).u ∧ (aat l i).u ≤ 1099511627776
structure VA (l : List A3) : Prop where
  n : l.length ≤ 1000
  ok : ∀ i, i < l.length → AOk l i
def badA (l : List A3) (i : Nat) : Bool := decide ((aat l i).t ≤ prevT l i) || decide ((aat l i).w < 1) || decide (1048576 < (aat l i).w) || decide ((aat l i).u < 0) || decide (1099511627776 < (aat l i).u)
theorem badA_f {l : List A3} {i : Nat} : badA l i = false ↔ AOk l i := by
  simp only [badA, Bool.or_eq_false_iff, decide_eq_false_iff_not]
  exact ⟨fun ⟨⟨⟨⟨a, b⟩, c⟩, d⟩, e⟩ => ⟨by omega, by omega, by omega⟩, fun ⟨a, b, c⟩ => by omega⟩
theorem badA_t {l : List A3} {i : Nat} : badA l i = true ↔ ¬ AOk l i := by rw [← badA_f]; simp
def L20 : MC := match m20 with | .seq _ (.seq _ (.seq (.seq _ (.block _ (.loop _ b))) _)) => b | _ => .skip
def S20 (f : Bool) (m : Sh) (l : List A3) (i : Nat) : St := ⟨[.set 8 (i64 i), .set 7 (i64 l.length), .set 6 (.lst f m (ac l)), .set 3 (i64 (prevT l i)), .set 0 (.lst f m (ac l))], []⟩
theorem accounts_at (h : 1 ≤ n) {f : Bool} {m : Sh} {l : List A3} (hm : Mk l m sA) (hl : l.length < 2 ^ 60) : ∃ b : Bool, (b = true ↔ VA l) ∧ call gl tab n 20 [.lst f m (ac l)] [] = some (.bool b, [], []) := by
  obtain ⟨d, rfl⟩ := Nat.exists_eq_add_of_le' h
  have hs : ∀ i, i < l.length → AOk l i → contK [.slot 0, .slot 3, .slot 6, .slot 7, .slot 8] (evC gl (call gl tab d) L20 (S20 f m l i)) = some (S20 f m l (i + 1)) := fun i hi hp => by
    have hx := ac_at hi
    obtain rfl := hm.eq hi
    have hq := badA_f.2 hp
    unfold badA at hq
    simp (disch := ((fail_if_success (intro _)); omega)) only [go_sem, simprocAttr, ↓reduceIte, xx, L20, m20, S20, ac_length, hx, hq, prevT_s]
  have hf : ∀ i, i < l.length → ¬ AOk l i → out1 2 (evC gl (call gl tab d) L20 (S20 f m l i)) = some (.ret, .bool false) := fun i hi hp => by
    have hx := ac_at hi
    obtain rfl := hm.eq hi
    have hq := badA_t.2 hp
    unfold badA at hq
    simp (disch := ((fail_if_success (intro _)); omega)) only [go_sem, simprocAttr, ↓reduceIte, xx, L20, m20, S20, ac_length, hx, hq]
  rw [call_go (fd := fd20) rfl]
  rcases first_fail (AOk l) l.length with ha | ⟨k, hk, hb, he⟩
  · refine ⟨decide (l.length ≤ 1000), ⟨fun h => ⟨of_decide_eq_true h, ha⟩, fun h => decide_eq_true h.n⟩, ?_⟩
    have hs2 := fun i hi => hs i hi (ha i hi)
    simp only [L20, m20] at hs2
    simp (disch := ((fail_if_success (intro _)); omega)) only [go_sem, simprocAttr, ↓reduceIte, xx, fd20, m20, ac_length]
    rw [iter_to (S20 f m l) l.length (by unfold LF; omega)]
    · simp (disch := ((fail_if_success (intro _)); omega)) only [go_sem, simprocAttr, ↓reduceIte, xx, S20, ac_length]
    · simp (disch := ((fail_if_success (intro _)); omega)) only [go_sem, simprocAttr, ↓reduceIte, xx, S20, ac_length, prevT_0]
    · exact hs2
    · simp (disch := ((fail_if_success (intro _)); omega)) only [go_sem, simprocAttr, ↓reduceIte, xx, S20, ac_length]
  · obtain ⟨st, hst, hg⟩ := out1_get (hf k hk he)
    have hs2 := fun i hi => hs i (by omega) (hb i hi)
    simp only [L20, m20] at hs2 hst
    refine ⟨false, ⟨(fun h => by cases h), fun h => absurd (h.ok k hk) he⟩, ?_⟩
    simp (disch := ((fail_if_success (intro _)); omega)) only [go_sem, simprocAttr, ↓reduceIte, xx, fd20, m20, ac_length]
    rw [iter_to (S20 f m l) k (by unfold LF; omega), hst]
    · simp (disch := ((fail_if_success (intro _)); omega)) only [go_sem, simprocAttr, ↓reduceIte, xx, hg]
    · simp (disch := ((fail_if_success (intro _)); omega)) only [go_sem, simprocAttr, ↓reduceIte, xx, S20, ac_length, prevT_0]
    · exact hs2
    · rw [hst]; rfl
def L21 : MC := match m21 with | .seq _ (.seq _ (.seq (.seq _ (.block _ (.loop _ b))) _)) => b | _ => .skip
def S21 (f : Bool) (m : Sh) (l : List A3) (i : Nat) : St := ⟨[.set 4 (i64 i), .set 3 (i64 (prevT l i)), .set 0 (.lst f m (ac l))], []⟩
theorem raccounts_at (h : 1 ≤ n) {f : Bool} {m : Sh} {l : List A3} (hm : Mk l m sA) (hl : l.length < 2 ^ 60) : ∃ b : Bool, (b = true ↔ VA l) ∧ call gl tab n 21 [.lst f m (ac l)] [] = some (.bool b, [], []) := by
  obtain ⟨d, rfl⟩ := Nat.exists_eq_add_of_le' h
  have hs : ∀ i, i < l.length → AOk l i → contK [.slot 0, .slot 3, .slot 4] (evC gl (call gl tab d) L21 (S21 f m l i)) = some (S21 f m l (i + 1)) := fun i hi hp => by
    have hx := ac_at hi
    obtain rfl := hm.eq hi
    have hq := badA_f.2 hp
    unfold badA at hq
    simp (disch := ((fail_if_success (intro _)); omega)) only [go_sem, simprocAttr, ↓reduceIte, xx, L21, m21, S21, ac_length, hx, hq, prevT_s]
  have hf : ∀ i, i < l.length → ¬ AOk l i → out1 2 (evC gl (call gl tab d) L21 (S21 f m l i)) = some (.ret, .bool false) := fun i hi hp => by
    have hx := ac_at hi
    obtain rfl := hm.eq hi
    have hq := badA_t.2 hp
    unfold badA at hq
    simp (disch := ((fail_if_success (intro _)); omega)) only [go_sem, simprocAttr, ↓reduceIte, xx, L21, m21, S21, ac_length, hx, hq]
  rw [call_go (fd := fd21) rfl]
  rcases first_fail (AOk l) l.length with ha | ⟨k, hk, hb, he⟩
  · refine ⟨decide (l.length ≤ 1000), ⟨fun h => ⟨of_decide_eq_true h, ha⟩, fun h => decide_eq_true h.n⟩, ?_⟩
    have hs2 := fun i hi => hs i hi (ha i hi)
    simp only [L21, m21] at hs2
    simp (disch := ((fail_if_success (intro _)); omega)) only [go_sem, simprocAttr, ↓reduceIte, xx, fd21, m21, ac_length]
    rw [iter_to (S21 f m l) l.length (by unfold LF; omega)]
    · simp (disch := ((fail_if_success (intro _)); omega)) only [go_sem, simprocAttr, ↓reduceIte, xx, S21, ac_length]
    · simp (disch := ((fail_if_success (intro _)); omega)) only [go_sem, simprocAttr, ↓reduceIte, xx, S21, ac_length, prevT_0]
    · exact hs2
    · simp (disch := ((fail_if_success (intro _)); omega)) only [go_sem, simprocAttr, ↓reduceIte, xx, S21, ac_length]
  · obtain ⟨st, hst, hg⟩ := out1_get (hf k hk he)
    have hs2 := fun i hi => hs i (by omega) (hb i hi)
    simp only [L21, m21] at hs2 hst
    refine ⟨false, ⟨(fun h => by cases h), fun h => absurd (h.ok k hk) he⟩, ?_⟩
    simp (disch := ((fail_if_success (intro _)); omega)) only [go_sem, simprocAttr, ↓reduceIte, xx, fd21, m21, ac_length]
    rw [iter_to (S21 f m l) k (by unfold LF; omega), hst]
    · simp (disch := ((fail_if_success (intro _)); omega)) only [go_sem, simprocAttr, ↓reduceIte, xx, hg]
    · simp (disch := ((fail_if_success (intro _)); omega)) only [go_sem, simprocAttr, ↓reduceIte, xx, S21, ac_length, prevT_0]
    · exact hs2
    · rw [hst]; rfl
/-! ### What all use -/
def sumU (l : List A3) : Nat → Int
  | 0 => 0
  | i + 1 => sumU l i + (aat l i).u
theorem sumU_bd {l : List A3} (hv : VA l) : ∀ {i : Nat}, i ≤ l.length → 0 ≤ sumU l i ∧ sumU l i ≤ (i : Int) * 1099511627776
  | 0, _ => by simp [sumU]
  | i + 1, hi => by
    have h1 := sumU_bd hv (show i ≤ l.length by omega)
    have h3 := (hv.ok i (by omega)).u
    rw [sumU]; omega
def L27 : MC := match m27 with | .seq _ (.seq _ (.seq (.seq _ (.block _ (.loop _ b))) _)) => b | _ => .skip
def S27 (f : Bool) (m : Sh) (l : List A3) (i : Nat) : St := ⟨[.set 8 (i64 i), .set 7 (i64 l.length), .set 6 (.lst f m (ac l)), .set 3 (i64 (sumU l i))], []⟩
theorem total_at (h : 1 ≤ n) {f : Bool} {m : Sh} {l : List A3} (hm : Mk l m sA) (hv : VA l) : call gl tab n 27 [.lst f m (ac l)] [] = some (i64 (sumU l l.length), [], []) := by
  obtain ⟨d, rfl⟩ := Nat.exists_eq_add_of_le' h
  have hn := hv.n
  have hs : ∀ i, i < l.length → contK [.slot 3, .slot 6, .slot 7, .slot 8] (evC gl (call gl tab d) L27 (S27 f m l i)) = some (S27 f m l (i + 1)) := fun i hi => by
    have hx := ac_at hi
    obtain rfl := hm.eq hi
    have h1 := sumU_bd hv (show i ≤ l.length by omega)
    have h2 := (hv.ok i hi).u
    simp (disch := ((fail_if_success (intro _)); omega)) only [go_sem, simprocAttr, ↓reduceIte, xx, L27, m27, S27, ac_length, hx, sumU]
  simp only [L27, m27] at hs
  rw [call_go (fd := fd27) rfl]
  simp (disch := ((fail_if_success (intro _)); omega)) only [go_sem, simprocAttr, ↓reduceIte, xx, fd27, m27, ac_length]
  rw [iter_to (S27 f m l) l.length (by unfold LF; omega)]
  · simp (disch := ((fail_if_success (intro _)); omega)) only [go_sem, simprocAttr, ↓reduceIte, xx, S27, ac_length]
  · simp (disch := ((fail_if_success (intro _)); omega)) only [go_sem, simprocAttr, ↓reduceIte, xx, S27, ac_length, sumU]
  · exact hs
  · simp (disch := ((fail_if_success (intro _)); omega)) only [go_sem, simprocAttr, ↓reduceIte, xx, S27, ac_length]
def L28 : MC := match m28 with | .seq _ (.seq _ (.seq (.seq _ (.block _ (.loop _ b))) _)) => b | _ => .skip
def S28 (f : Bool) (m : Sh) (l : List A3) (i : Nat) : St := ⟨[.set 4 (i64 i), .set 3 (i64 (sumU l i)), .set 0 (.lst f m (ac l))], []⟩
theorem rtotal_at (h : 1 ≤ n) {f : Bool} {m : Sh} {l : List A3} (hm : Mk l m sA) (hv : VA l) : call gl tab n 28 [.lst f m (ac l)] [] = some (i64 (sumU l l.length), [], []) := by
  obtain ⟨d, rfl⟩ := Nat.exists_eq_add_of_le' h
  have hn := hv.n
  have hs : ∀ i, i < l.length → contK [.slot 0, .slot 3, .slot 4] (evC gl (call gl tab d) L28 (S28 f m l i)) = some (S28 f m l (i + 1)) := fun i hi => by
    have hx := ac_at hi
    obtain rfl := hm.eq hi
    have h1 := sumU_bd hv (show i ≤ l.length by omega)
    have h2 := (hv.ok i hi).u
    simp (disch := ((fail_if_success (intro _)); omega)) only [go_sem, simprocAttr, ↓reduceIte, xx, L28, m28, S28, ac_length, hx, sumU]
  simp only [L28, m28] at hs
  rw [call_go (fd := fd28) rfl]
  simp (disch := ((fail_if_success (intro _)); omega)) only [go_sem, simprocAttr, ↓reduceIte, xx, fd28, m28, ac_length]
  rw [iter_to (S28 f m l) l.length (by unfold LF; omega)]
  · simp (disch := ((fail_if_success (intro _)); omega)) only [go_sem, simprocAttr, ↓reduceIte, xx, S28, ac_length]
  · simp (disch := ((fail_if_success (intro _)); omega)) only [go_sem, simprocAttr, ↓reduceIte, xx, S28, ac_length, sumU]
  · exact hs
  · simp (disch := ((fail_if_success (intro _)); omega)) only [go_sem, simprocAttr, ↓reduceIte, xx, S28, ac_length]
/-! ### A tenant's place -/
theorem ten_pos {l : List A3} (hv : VA l) : ∀ {i : Nat}, i < l.length → 0 < (aat l i).t
  | 0, h => (hv.ok 0 h).t
  | i + 1, h => by
    have h1 := (hv.ok (i + 1) h).t
    have h2 := ten_pos hv (show i < l.length by omega)
    rw [prevT] at h1; omega
theorem ten_lt {l : List A3} (hv : VA l) {i : Nat} : ∀ {j : Nat}, i < j → j < l.length → (aat l i).t < (aat l j).t
  | j + 1, hij, hj => by
    have h1 := (hv.ok (j + 1) hj).t
    rw [prevT] at h1
    by_cases h : i = j
    · subst h; exact h1
    · have := ten_lt hv (show i < j by omega) (by omega); omega
structure Pl (l : List A3) (q : Int) (k : Nat) : Prop where
  le : k ≤ l.length
  lo : ∀ j, j < k → (aat l j).t < q
  hi : ∀ j, k ≤ j → j < l.length → q ≤ (aat l j).t
theorem pl_uniq {l : List A3} {q : Int} {k k' : Nat} (h : Pl l q k) (h' : Pl l q k') : k = k' := by
  have h1 := h.le; have h2 := h'.le
  rcases Nat.lt_trichotomy k k' with h3 | h3 | h3
  · have a1 := h'.lo k h3
    have a2 := h.hi k (Nat.le_refl _) (by omega)
    omega
  · exact h3
  · have a1 := h.lo k' h3
    have a2 := h'.hi k' (Nat.le_refl _) (by omega)
    omega
def cmpA (t q : Int) : Int := if t < q then -1 else if 1 < IntKind.wrap .i64 (t - q) then 1 else IntKind.wrap .i64 (t - q)
theorem cmpA_at (h : 1 ≤ n) (t w u q : Int) : call gl tab n 47 [.agg [i64 t, i64 w, i64 u], i64 q] [] = some (i64 (cmpA t q), [], []) := by
  obtain ⟨d, rfl⟩ := Nat.exists_eq_add_of_le' h
  rw [call_go (fd := fd47) rfl]
  by_cases h1 : t < q
  · simp (disch := ((fail_if_success (intro _)); omega)) only [go_sem, simprocAttr, ↓reduceIte, xx, fd47, m47, cmpA, h1]
  · have h2 : ¬ t < q := h1
    simp (disch := ((fail_if_success (intro _)); omega)) only [go_sem, simprocAttr, ↓reduceIte, fd47, m47, cmpA, h2, foldO, minAV, ltI_f, decide_false]
theorem cmpA_neg {t q : Int} (ht : 0 < t ∧ t ≤ 9223372036854775807) (hq : 0 < q ∧ q ≤ 9223372036854775807) : (cmpA t q < 0 ↔ t < q) ∧ (cmpA t q = 0 ↔ t = q) := by
  unfold cmpA
  rw [w64 (by omega)]
  split
  · omega
  · split <;> omega
theorem mid_ok (i j : Nat) (h : i + j < 2 ^ 62) : ((BitVec.ofInt 64 ((i : Int) + (j : Int))) >>> (1 : Nat)).toInt = (((i + j) / 2 : Nat) : Int) := by
  have e : BitVec.ofInt 64 ((i : Int) + (j : Int)) = BitVec.ofNat 64 (i + j) := by
    rw [show ((i : Int) + (j : Int)) = ((i + j : Nat) : Int) by omega, BitVec.ofInt_natCast]
  rw [e, BitVec.toInt_eq_toNat_of_lt]
  · rw [BitVec.toNat_ushiftRight, BitVec.toNat_ofNat, Nat.mod_eq_of_lt (by omega), Nat.shiftRight_eq_div_pow]
  · rw [BitVec.toNat_ushiftRight, BitVec.toNat_ofNat, Nat.mod_eq_of_lt (by omega), Nat.shiftRight_eq_div_pow]; omega
def L46 : MC := match m46 with | .seq _ (.seq _ (.seq _ (.seq (.block _ (.loop _ b)) _))) => b | _ => .skip
def S46 (f : Bool) (m : Sh) (l : List A3) (q : Int) (a : Nat × Nat) : St :=
  ⟨[.set 10 (i64 a.2), .set 9 (i64 a.1), .set 8 (i64 l.length), .set 2 (.fn 47 []), .set 1 (i64 q), .set 0 (.lst f m (ac l))], []⟩
def nxtA (l : List A3) (q : Int) (a : Nat × Nat) : Nat × Nat := if cmpA (aat l ((a.1 + a.2) / 2)).t q < 0 then ((a.1 + a.2) / 2 + 1, a.2) else (a.1, (a.1 + a.2) / 2)
def has (l : List A3) (q : Int) : Prop := ∃ j, j < l.length ∧ (aat l j).t = q
set_option maxHeartbeats 800000 in
theorem search_at (h : 2 ≤ n) {f : Bool} {m : Sh} {l : List A3} (hm : Mk l m sA) (hv : VA l) (ht : ∀ i, i < l.length → (aat l i).t ≤ 9223372036854775807) {q : Int} (hq : -9223372036854775808 ≤ q ∧ q ≤ 9223372036854775807) :
    ∃ k : Nat, k ≤ l.length ∧ (0 < q → Pl l q k) ∧ ∃ b : Bool, (b = true ↔ has l q) ∧ call gl tab n 46 [.lst f m (ac l), i64 q, .fn 47 []] [] = some (.tup [i64 k, .bool b], [], []) := by
  obtain ⟨d, rfl⟩ := Nat.exists_eq_add_of_le' h
  have hn := hv.n
  have c47 := @cmpA_at gl (d + 1) (by omega)
  obtain ⟨⟨k, k'⟩, ⟨i1, i2, i3⟩, hgo, hit⟩ := iter_meas (f := evC gl (call gl tab (d + 1)) L46) (ks := [.slot 0, .slot 1, .slot 2, .slot 8, .slot 9, .slot 10]) (S46 f m l q)
    (fun a => a.1 ≤ a.2 ∧ a.2 ≤ l.length ∧ (0 < q → (∀ t, t < a.1 → (aat l t).t < q) ∧ ∀ t, a.2 ≤ t → t < l.length → q ≤ (aat l t).t)) (fun a => a.2 - a.1)
    (nxtA l q) (fun a => decide (a.1 < a.2)) (a0 := (0, l.length)) (by unfold LF; simp; omega)
    ⟨Nat.zero_le _, Nat.le_refl _, fun _ => ⟨fun t ht => absurd ht (Nat.not_lt_zero _), fun t h1 h2 => absurd h2 (by simp at h1; omega)⟩⟩
    (fun a ⟨h1, h2, h3⟩ hg => by
      obtain ⟨i, j⟩ := a
      simp only [decide_eq_true_eq] at hg h1 h2 h3 ⊢
      have hmid := mid_ok i j (by omega)
      have hml : (i + j) / 2 < l.length := by omega
      have hx := ac_at hml
      have hm2 := hm.eq hml
      have hpos := ten_pos hv hml
      have hmx := ht _ hml
      by_cases hc : cmpA (aat l ((i + j) / 2)).t q < 0
      · have e : nxtA l q (i, j) = ((i + j) / 2 + 1, j) := if_pos hc
        rw [e]
        refine ⟨?_, ⟨by simp only; omega, h2, fun h0 => ⟨fun t ht' => ?_, (h3 h0).2⟩⟩, by simp only; omega⟩
        · have c := c47 (aat l ((i + j) / 2)).t (aat l ((i + j) / 2)).w (aat l ((i + j) / 2)).u q
          generalize (i + j) / 2 = m' at *
          simp (disch := ((fail_if_success (intro _)); omega)) only [go_sem, simprocAttr, ↓reduceIte, xx, L46, m46, S46, hmid, hx, hm2, ac_length, c]
        · have hlt := (cmpA_neg (show 0 < (aat l ((i + j) / 2)).t ∧ _ from ⟨hpos, hmx⟩) ⟨h0, hq.2⟩).1.1 hc
          simp only at ht'
          by_cases h5 : t = (i + j) / 2
          · rw [h5]; exact hlt
          · have := ten_lt hv (show t < (i + j) / 2 by omega) hml; omega
      · have e : nxtA l q (i, j) = (i, (i + j) / 2) := if_neg hc
        rw [e]
        refine ⟨?_, ⟨by simp only; omega, by simp only; omega, fun h0 => ⟨(h3 h0).1, fun t ht' h6 => ?_⟩⟩, by simp only; omega⟩
        · have c := c47 (aat l ((i + j) / 2)).t (aat l ((i + j) / 2)).w (aat l ((i + j) / 2)).u q
          generalize (i + j) / 2 = m' at *
          simp (disch := ((fail_if_success (intro _)); omega)) only [go_sem, simprocAttr, ↓reduceIte, xx, L46, m46, S46, hmid, hx, hm2, ac_length, c]
        · have hge : ¬ (aat l ((i + j) / 2)).t < q := fun h => hc ((cmpA_neg (show 0 < (aat l ((i + j) / 2)).t ∧ _ from ⟨hpos, hmx⟩) ⟨h0, hq.2⟩).1.2 h)
          simp only at ht'
          by_cases h5 : t = (i + j) / 2
          · rw [h5]; omega
          · have := ten_lt hv (show (i + j) / 2 < t by omega) h6; omega)
    (fun a ⟨h1, h2, h3⟩ hg => by
      simp only [decide_eq_false_iff_not] at hg
      simp (disch := ((fail_if_success (intro _)); omega)) only [go_sem, simprocAttr, ↓reduceIte, xx, L46, m46, S46, ac_length])
  simp only [decide_eq_false_iff_not] at hgo i1 i2 i3
  obtain rfl : k = k' := by omega
  simp only [L46, m46] at hit
  refine ⟨k, i2, fun h0 => ⟨i2, (i3 h0).1, (i3 h0).2⟩, ?_⟩
  by_cases hkl : k < l.length
  · have hx := ac_at hkl
    have hm2 := hm.eq hkl
    have hpos := ten_pos hv hkl
    have hmx := ht _ hkl
    have c := c47 (aat l k).t (aat l k).w (aat l k).u q
    refine ⟨cmpA (aat l k).t q == 0, ?_, ?_⟩
    · rw [beq_iff_eq]
      by_cases h0 : 0 < q
      · rw [(cmpA_neg ⟨hpos, hmx⟩ ⟨h0, hq.2⟩).2]
        refine ⟨fun h => ⟨k, hkl, h⟩, fun ⟨j, hj, hj2⟩ => ?_⟩
        have a1 := (i3 h0).1; have a2 := (i3 h0).2
        rcases Nat.lt_trichotomy j k with h3 | h3 | h3
        · have := a1 j h3; omega
        · rw [← h3]; exact hj2
        · have := ten_lt hv h3 hj; have := a2 k (Nat.le_refl _) hkl; omega
      · refine ⟨fun h => ?_, fun ⟨j, hj, hj2⟩ => ?_⟩
        · exfalso
          unfold cmpA at h
          rw [if_neg (by omega)] at h
          split at h
          · omega
          · rename_i h7
            have h8 : IntKind.wrap .i64 ((aat l k).t - q) = Int.bmod ((aat l k).t - q) (2 ^ 64) := by rw [wrap_i64_ofInt, BitVec.toInt_ofInt]
            rw [h8] at h
            have h9 := Int.bmod_def ((aat l k).t - q) (2 ^ 64)
            rw [h9] at h
            split at h <;> omega
        · have := ten_pos hv hj; omega
    · rw [call_go (fd := fd46) rfl]
      simp (disch := ((fail_if_success (intro _)); omega)) only [go_sem, simprocAttr, ↓reduceIte, xx, fd46, m46, ac_length]
      rw [hit _ (by simp (disch := ((fail_if_success (intro _)); omega)) only [go_sem, simprocAttr, ↓reduceIte, xx, S46])]
      simp (disch := ((fail_if_success (intro _)); omega)) only [go_sem, simprocAttr, ↓reduceIte, xx, S46, ac_length, hx, hm2, c]
  · refine ⟨false, ⟨(fun h => by cases h), fun ⟨j, hj, hj2⟩ => ?_⟩, ?_⟩
    · exfalso
      have := ten_pos hv hj
      have := (i3 (by omega)).1 j (by omega)
      omega
    · rw [call_go (fd := fd46) rfl]
      simp (disch := ((fail_if_success (intro _)); omega)) only [go_sem, simprocAttr, ↓reduceIte, xx, fd46, m46, ac_length]
      rw [hit _ (by simp (disch := ((fail_if_success (intro _)); omega)) only [go_sem, simprocAttr, ↓reduceIte, xx, S46])]
      simp (disch := ((fail_if_success (intro _)); omega)) only [go_sem, simprocAttr, ↓reduceIte, xx, S46, ac_length]
end Go.Proofs.S16
