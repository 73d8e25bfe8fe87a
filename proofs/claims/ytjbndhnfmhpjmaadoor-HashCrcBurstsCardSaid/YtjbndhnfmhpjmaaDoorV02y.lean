/-
  Powers, and what Join computes. No condition.
-/
import Derived.Test.YtjbndhnfmhpjmaaDoorV02x
namespace Go.Proofs.S02
open Go Go.Ev Go.Proofs
variable {w : Bool}
set_option linter.unusedSimpArgs false
set_option linter.unusedVariables false
theorem one_shl : ∀ j : Fin 40, Xn j.val 1#64 = 1#64 <<< j.val := by decide +kernel
theorem bitM : ∀ i : Fin 64, (M40 : BitVec 64).getLsbD i.val = decide (i.val < 40) := by decide
/-- What holds of the basis and of sums, holds. -/
theorem basis {P : BitVec 64 → Prop} (h0 : P 0#64) (hj : ∀ j, j < 40 → P (Xn j 1#64)) (hx : ∀ a b, W40 a → W40 b → P a → P b → P (a ^^^ b)) (a : BitVec 64) (ha : W40 a) : P a := by
  let low (k : Nat) : BitVec 64 := BitVec.ofNat 64 (a.toNat % 2 ^ k)
  have hlt : ∀ k, k ≤ 40 → a.toNat % 2 ^ k < 2 ^ 40 := fun k hk => Nat.lt_of_lt_of_le (Nat.mod_lt _ (Nat.pow_pos (by omega))) (Nat.pow_le_pow_right (by omega) hk)
  have bits : ∀ k i, i < 64 → (low k).getLsbD i = (decide (i < k) && a.getLsbD i) := fun k i hi => by
    show (BitVec.ofNat 64 (a.toNat % 2 ^ k)).getLsbD i = _
    rw [BitVec.getLsbD_ofNat, Nat.testBit_mod_two_pow]
    simp [hi, BitVec.getLsbD]
  have w40l : ∀ k, k ≤ 40 → W40 (low k) := fun k hk => by
    unfold W40
    apply BitVec.eq_of_getLsbD_eq; intro i hi
    rw [BitVec.getLsbD_and, bitM ⟨i, hi⟩, bits k i hi]
    by_cases h : i < k
    · simp [h, show i < 40 by omega]
    · simp [h]
  have key : ∀ k, k ≤ 40 → P (low k) := by
    intro k
    induction k with
    | zero => intro _; show P (BitVec.ofNat 64 (a.toNat % 2 ^ 0)); rw [Nat.pow_zero, Nat.mod_one]; exact h0
    | succ k ih =>
      intro hk
      by_cases hb : a.getLsbD k = true
      · have e : low (k + 1) = low k ^^^ Xn k 1#64 := by
          apply BitVec.eq_of_getLsbD_eq; intro i hi
          rw [BitVec.getLsbD_xor, bits _ _ hi, bits _ _ hi, one_shl ⟨k, by omega⟩, BitVec.getLsbD_shiftLeft]
          by_cases hik : i = k
          · subst hik; simp [hb, hi]
          · by_cases hlt : i < k
            · simp [hlt, show i < k + 1 by omega]
            · have : (1#64 : BitVec 64).getLsbD (i - k) = false := bit1 (by omega)
              simp [hlt, show ¬ i < k + 1 by omega, this]
        rw [e]
        exact hx _ _ (w40l k (by omega)) (w40_Xn w40_one k) (ih (by omega)) (hj k (by omega))
      · have e : low (k + 1) = low k := by
          apply BitVec.eq_of_getLsbD_eq; intro i hi
          rw [bits _ _ hi, bits _ _ hi]
          by_cases hik : i = k
          · subst hik; simp [hb]
          · by_cases hlt : i < k
            · simp [hlt, show i < k + 1 by omega]
            · simp [hlt, show ¬ i < k + 1 by omega]
        rw [e]; exact ih (by omega)
  have e : low 40 = a := by
    apply BitVec.eq_of_getLsbD_eq; intro i hi
    rw [bits 40 i hi]
    have := congrArg (fun x => x.getLsbD i) ha
    simp only [BitVec.getLsbD_and, bitM ⟨i, hi⟩] at this
    rw [← this]
    by_cases h : i < 40 <;> simp [h]
  rw [← e]; exact key 40 (by omega)
theorem times_zero (b : BitVec 64) (k : Nat) : timesF 0#64 b k = 0#64 := by
  induction k with
  | zero => rw [timesF]; rfl
  | succ k ih => rw [timesF_succ _ b k (w40_times b w40_zero k), ih, XF_zero]; unfold selA; split <;> rfl
/-- One times a product is it. -/
theorem one_times {b : BitVec 64} (h : W40 b) : timesF 1#64 b 40 = b := by
  have key : ∀ k, k ≤ 40 → timesF 1#64 b k = b >>> (40 - k) := by
    intro k
    induction k with
    | zero =>
      intro _
      rw [timesF]
      apply BitVec.eq_of_getLsbD_eq; intro i hi
      rw [← h, BitVec.getLsbD_ushiftRight, BitVec.getLsbD_and]
      by_cases h64 : 40 + i < 64
      · rw [bitM ⟨40 + i, h64⟩]; simp
      · rw [BitVec.getLsbD_of_ge b _ (by omega)]; simp
    | succ k ih =>
      intro hk
      rw [timesF_succ _ b k (w40_times b w40_one k), ih (by omega)]
      have h39 : (b >>> (40 - k)) >>> (39 : Nat) &&& 1#64 = 0#64 := by
        apply BitVec.eq_of_getLsbD_eq; intro i hi
        rw [← h, BitVec.getLsbD_and, BitVec.getLsbD_ushiftRight, BitVec.getLsbD_ushiftRight, BitVec.getLsbD_and]
        by_cases h0 : i = 0
        · subst h0
          by_cases h64 : 40 - k + (39 + 0) < 64
          · rw [bitM ⟨_, h64⟩]; simp; omega
          · rw [BitVec.getLsbD_of_ge b _ (by omega)]; simp
        · simp [bit1 h0]
      rw [XF, stepF_sel, h39]
      have e0 : (0#64 : BitVec 64) ^^^ (0 : BitVec 64) = 0#64 := by decide
      rw [e0, show selP 0#64 = 0#64 by decide, BitVec.xor_zero]
      apply BitVec.eq_of_getLsbD_eq; intro i hi
      rw [BitVec.getLsbD_xor, BitVec.getLsbD_and, bitM ⟨i, hi⟩, BitVec.getLsbD_shiftLeft, BitVec.getLsbD_ushiftRight, BitVec.getLsbD_ushiftRight]
      have hs : (selA 1#64 b k).getLsbD i = (decide (i = 0) && b.getLsbD (39 - k)) := by
        unfold selA
        have hb : (b >>> (39 - k) &&& 1#64 == 1#64) = b.getLsbD (39 - k) := by
          rcases and1 (b >>> (39 - k)) with e | e <;> rw [e]
          · have := congrArg (fun x => x.getLsbD 0) e
            simp at this; rw [this]; rfl
          · have := congrArg (fun x => x.getLsbD 0) e
            simp at this; rw [this]; rfl
        rw [hb]
        cases b.getLsbD (39 - k)
        · simp
        · by_cases h0 : i = 0
          · subst h0; simp
          · simp [h0, bit1 h0]
      rw [hs]
      by_cases h0 : i = 0
      · subst h0; simp [show 40 - (k + 1) + 0 = 39 - k by omega]
      · by_cases h40 : i < 40
        · simp [h0, h40, hi, show ¬ i < 1 by omega, show 40 - k + (i - 1) = 40 - (k + 1) + i by omega]
        · have : b.getLsbD (40 - (k + 1) + i) = false := by
            by_cases h64 : 40 - (k + 1) + i < 64
            · rw [← h, BitVec.getLsbD_and, bitM ⟨_, h64⟩]; simp; omega
            · exact BitVec.getLsbD_of_ge _ _ (by omega)
          rw [show 40 - (k + 1) + i = 39 - k + i by omega] at this
          simp [h0, h40, this]
  have := key 40 (by omega)
  rw [this]; simp
theorem times_one {a : BitVec 64} (h : W40 a) : timesF a 1#64 40 = a := by
  refine basis (P := fun a => timesF a 1#64 40 = a) (times_zero _ _) (fun j _ => ?_) (fun a b ha hb h1 h2 => ?_) a h
  · rw [times_Xn _ w40_one, one_times w40_one]
  · show timesF (a ^^^ b) 1#64 40 = _; rw [times_xor _ ha hb, h1, h2]
theorem times_XR {a q : BitVec 64} (h : W40 a) (hq : W40 q) : timesF a (XF q) 40 = XF (timesF a q 40) := by
  refine basis (P := fun a => timesF a (XF q) 40 = XF (timesF a q 40)) ?_ (fun j _ => ?_) (fun a b ha hb h1 h2 => ?_) a h
  · show timesF 0#64 _ 40 = _; rw [times_zero, times_zero, XF_zero]
  · show timesF (Xn j 1#64) _ 40 = _
    rw [times_Xn _ w40_one, times_Xn _ w40_one, one_times (w40_XF _), one_times hq, Xn_comm]
  · show timesF (a ^^^ b) _ 40 = _
    rw [times_xor _ ha hb, times_xor _ ha hb, XF_xor, h1, h2]
/-- A product with a power is a shift. -/
theorem times_pow {a : BitVec 64} (h : W40 a) (m : Nat) : timesF a (Xn m 1#64) 40 = Xn m a := by
  induction m with
  | zero => rw [Xn_zero, Xn_zero]; exact times_one h
  | succ m ih => rw [Xn_succ, times_XR h (w40_Xn w40_one m), ih, Xn_succ]
def joinF (a b : BitVec 64) (n : Nat) : BitVec 64 := Xn (8 * n) (a &&& M40) ^^^ (b &&& M40)
theorem w40_join (a b : BitVec 64) (n : Nat) : W40 (joinF a b n) := w40_xor (w40_Xn (w40_and _) _) (w40_and _)
/-! ### What the program computes -/
theorem and1_nat (m : Nat) (h : m < 2 ^ 63) : binInt .and .i64 (m : Int) 1 = some (.int .i64 ((m % 2 : Nat) : Int)) := by
  rw [and_i64, BitVec.ofInt_natCast, show BitVec.ofInt 64 1 = 1#64 by decide]
  congr 2
  have e : (BitVec.ofNat 64 m &&& 1#64).toNat = m % 2 := by
    rw [BitVec.toNat_and, show (1#64 : BitVec 64).toNat = 1 from rfl, Nat.and_one_is_mod, BitVec.toNat_ofNat, Nat.mod_eq_of_lt (show m < 2 ^ 64 by omega)]
  rw [BitVec.toInt_eq_toNat_of_lt (by rw [e]; omega), e]
theorem shr1_nat (m : Nat) : binShift .shr .i64 (m : Int) 1 = some (.int .i64 ((m / 2 : Nat) : Int)) := by
  simp only [binShift, IntKind.bits]
  have : (m : Int).fdiv (2 ^ min (1 : Int).toNat 64) = ((m / 2 : Nat) : Int) := by
    rw [show min (1 : Int).toNat 64 = 1 by decide, Int.fdiv_eq_ediv_of_nonneg _ (by decide)]; omega
  rw [this]; rfl
def S26 (a b : BitVec 64) (N : Nat) (i : Nat) : St :=
  ⟨[.set 8 (u64 (Xn (8 * 2 ^ i) 1#64)), .set 7 (u64 (Xn (8 * (N % 2 ^ i)) (a &&& M40))), .set 2 (.int .i64 ((N / 2 ^ i : Nat) : Int)), .set 1 (i64 b.toInt)], []⟩
def rounds (N : Nat) : Nat := if N = 0 then 0 else N.log2 + 1
theorem rounds_lt {N i : Nat} (h : i < rounds N) : 0 < N / 2 ^ i := by
  unfold rounds at h
  split at h
  · omega
  · rename_i hN
    have h1 : 2 ^ i ≤ 2 ^ N.log2 := Nat.pow_le_pow_right (by omega) (by omega)
    have h2 := Nat.log2_self_le hN
    exact Nat.div_pos (by omega) (Nat.pow_pos (by omega))
theorem rounds_end (N : Nat) : N < 2 ^ rounds N := by
  unfold rounds
  split
  · rename_i h; rw [h]; decide
  · exact Nat.lt_log2_self
theorem rounds_le {N : Nat} (h : N < 2 ^ 62) : rounds N < 64 := by
  rcases Nat.lt_or_ge (rounds N) 64 with h1 | h1
  · exact h1
  · have := rounds_lt (N := N) (i := 63) (by omega)
    rw [Nat.div_eq_of_lt (by omega)] at this
    omega
theorem pow_dbl (i : Nat) : Xn (8 * 2 ^ i) (Xn (8 * 2 ^ i) 1#64) = Xn (8 * 2 ^ (i + 1)) 1#64 := by
  rw [← Xn_add]; congr 1; rw [Nat.pow_succ]; omega
theorem mod_even {N i : Nat} (h : N / 2 ^ i % 2 = 0) : N % 2 ^ (i + 1) = N % 2 ^ i := by rw [Nat.mod_pow_succ, h]; simp
theorem mod_odd {N i : Nat} (h : N / 2 ^ i % 2 = 1) (a : BitVec 64) : Xn (8 * 2 ^ i) (Xn (8 * (N % 2 ^ i)) a) = Xn (8 * (N % 2 ^ (i + 1))) a := by
  rw [← Xn_add]; congr 1; rw [Nat.mod_pow_succ, h]; omega
theorem div_succ (N i : Nat) : N / 2 ^ i / 2 = N / 2 ^ (i + 1) := by rw [Nat.div_div_eq_div_mul, Nat.pow_succ]
theorem one8 : Xn (8 * 2 ^ 0) 1#64 = 256#64 := by decide
theorem join_ok (d : Nat) (a b : BitVec 64) (N : Nat) (hN : N < 2 ^ 62) : call (gl w) tab (d+2) 26 [i64 a.toInt, i64 b.toInt, .int .i64 (N : Int)] [] = some (i64 (joinF a b N).toInt, [], []) := by
  rw [call_go (fd := fd26) rfl]
  simp only [fd26, m26, go_sem, reduceIte, Nat.reduceEqDiff, Nat.reduceAdd, Nat.reduceSub, Nat.reduceMul, Nat.reduceDiv, Nat.reduceMod, Nat.reduceLT, Nat.reduceLeDiff, Nat.reduceBEq, Nat.reduceBNe, Int.reduceLE, Int.reduceLT, Int.reduceToNat, Int.reduceEq, Int.reduceBEq, Int.reduceBNe, Int.reduceNeg, Int.reduceSub, Int.reduceMul, Int.reduceAdd, BitVec.reduceOfInt, reduceCtorEq, ↓reduceIte, Nat.not_lt_zero]
  rw [iter_to (S26 a b N) (rounds N) (by have := rounds_le hN; unfold LF; omega)]
  · have e1 : N / 2 ^ rounds N = 0 := Nat.div_eq_of_lt (rounds_end N)
    have e2 : N % 2 ^ rounds N = N := Nat.mod_eq_of_lt (rounds_end N)
    simp only [S26, go_sem, reduceIte, Nat.reduceEqDiff, Nat.reduceAdd, Nat.reduceSub, Nat.reduceMul, Nat.reduceDiv, Nat.reduceMod, Nat.reduceLT, Nat.reduceLeDiff, Nat.reduceBEq, Nat.reduceBNe, Int.reduceLE, Int.reduceLT, Int.reduceToNat, Int.reduceEq, Int.reduceBEq, Int.reduceBNe, Int.reduceNeg, Int.reduceSub, Int.reduceMul, Int.reduceAdd, BitVec.reduceOfInt, reduceCtorEq, ↓reduceIte, e1, e2, joinF]
  · simp only [S26, go_sem, reduceIte, Nat.reduceEqDiff, Nat.reduceAdd, Nat.reduceSub, Nat.reduceMul, Nat.reduceDiv, Nat.reduceMod, Nat.reduceLT, Nat.reduceLeDiff, Nat.reduceBEq, Nat.reduceBNe, Int.reduceLE, Int.reduceLT, Int.reduceToNat, Int.reduceEq, Int.reduceBEq, Int.reduceBNe, Int.reduceNeg, Int.reduceSub, Int.reduceMul, Int.reduceAdd, BitVec.reduceOfInt, reduceCtorEq, ↓reduceIte, one8, Nat.pow_zero, Nat.mod_one, Nat.mul_zero, Xn_zero, Nat.div_one]; rfl
  · intro i hi
    have hp := rounds_lt hi
    have hlt : N / 2 ^ i < 2 ^ 63 := Nat.lt_of_le_of_lt (Nat.div_le_self _ _) (by omega)
    have ho := times_pow (w40_Xn (w40_and a) (8 * (N % 2 ^ i))) (8 * 2 ^ i)
    have hq := times_pow (w40_Xn w40_one (8 * 2 ^ i)) (8 * 2 ^ i)
    rcases Nat.mod_two_eq_zero_or_one (N / 2 ^ i) with e | e
    · simp only [S26, go_sem, reduceIte, Nat.reduceEqDiff, Nat.reduceAdd, Nat.reduceSub, Nat.reduceMul, Nat.reduceDiv, Nat.reduceMod, Nat.reduceLT, Nat.reduceLeDiff, Nat.reduceBEq, Nat.reduceBNe, Int.reduceLE, Int.reduceLT, Int.reduceToNat, Int.reduceEq, Int.reduceBEq, Int.reduceBNe, Int.reduceNeg, Int.reduceSub, Int.reduceMul, Int.reduceAdd, BitVec.reduceOfInt, reduceCtorEq, ↓reduceIte, hp, and1_nat _ hlt, shr1_nat, e, times_ok, hq, pow_dbl, mod_even e, div_succ]
    · simp only [S26, go_sem, reduceIte, Nat.reduceEqDiff, Nat.reduceAdd, Nat.reduceSub, Nat.reduceMul, Nat.reduceDiv, Nat.reduceMod, Nat.reduceLT, Nat.reduceLeDiff, Nat.reduceBEq, Nat.reduceBNe, Int.reduceLE, Int.reduceLT, Int.reduceToNat, Int.reduceEq, Int.reduceBEq, Int.reduceBNe, Int.reduceNeg, Int.reduceSub, Int.reduceMul, Int.reduceAdd, BitVec.reduceOfInt, reduceCtorEq, ↓reduceIte, hp, and1_nat _ hlt, shr1_nat, e, times_ok, ho, hq, pow_dbl, mod_odd e, div_succ]
  · have e1 : N / 2 ^ rounds N = 0 := Nat.div_eq_of_lt (rounds_end N)
    simp only [S26, go_sem, reduceIte, Nat.reduceEqDiff, Nat.reduceAdd, Nat.reduceSub, Nat.reduceMul, Nat.reduceDiv, Nat.reduceMod, Nat.reduceLT, Nat.reduceLeDiff, Nat.reduceBEq, Nat.reduceBNe, Int.reduceLE, Int.reduceLT, Int.reduceToNat, Int.reduceEq, Int.reduceBEq, Int.reduceBNe, Int.reduceNeg, Int.reduceSub, Int.reduceMul, Int.reduceAdd, BitVec.reduceOfInt, reduceCtorEq, ↓reduceIte, e1]
theorem join_neg (d : Nat) (a b : BitVec 64) (n : Int) (h : n < 0) : call (gl w) tab (d+2) 26 [i64 a.toInt, i64 b.toInt, .int .i64 n] [] = some (.int .i64 0, [], []) := by
  rw [call_go (fd := fd26) rfl]
  simp only [fd26, m26, go_sem, reduceIte, Nat.reduceEqDiff, Nat.reduceAdd, Nat.reduceSub, Nat.reduceMul, Nat.reduceDiv, Nat.reduceMod, Nat.reduceLT, Nat.reduceLeDiff, Nat.reduceBEq, Nat.reduceBNe, Int.reduceLE, Int.reduceLT, Int.reduceToNat, Int.reduceEq, Int.reduceBEq, Int.reduceBNe, Int.reduceNeg, Int.reduceSub, Int.reduceMul, Int.reduceAdd, BitVec.reduceOfInt, reduceCtorEq, ↓reduceIte, h]
def S27 (a b : BitVec 64) (N : Nat) (i : Nat) : St :=
  ⟨[.set 8 (.int .i64 i), .set 7 (u64 (Xn i (a &&& M40))), .set 2 (.int .i64 (N : Int)), .set 1 (i64 b.toInt)], []⟩
theorem step0 (d : Nat) (r : BitVec 64) : call (gl w) tab (d+1) 40 [u64 r, .int .u64 0] [] = some (u64 (XF r), [], []) := step_ok d r 0#64
theorem rjoin_ok (d : Nat) (a b : BitVec 64) (N : Nat) (hN : N < 2 ^ 40) : call (gl w) tab (d+2) 27 [i64 a.toInt, i64 b.toInt, .int .i64 (N : Int)] [] = some (i64 (joinF a b N).toInt, [], []) := by
  have h8 : IntKind.wrap .i64 (8 * (N : Int)) = ((8 * N : Nat) : Int) := by rw [wrap_i64 (by omega) (by omega)]; omega
  rw [call_go (fd := fd27) rfl]
  simp only [fd27, m27, go_sem, reduceIte, Nat.reduceEqDiff, Nat.reduceAdd, Nat.reduceSub, Nat.reduceMul, Nat.reduceDiv, Nat.reduceMod, Nat.reduceLT, Nat.reduceLeDiff, Nat.reduceBEq, Nat.reduceBNe, Int.reduceLE, Int.reduceLT, Int.reduceToNat, Int.reduceEq, Int.reduceBEq, Int.reduceBNe, Int.reduceNeg, Int.reduceSub, Int.reduceMul, Int.reduceAdd, BitVec.reduceOfInt, reduceCtorEq, ↓reduceIte, Nat.not_lt_zero]
  rw [iter_to (S27 a b N) (8 * N) (by unfold LF; omega)]
  · simp only [S27, go_sem, reduceIte, Nat.reduceEqDiff, Nat.reduceAdd, Nat.reduceSub, Nat.reduceMul, Nat.reduceDiv, Nat.reduceMod, Nat.reduceLT, Nat.reduceLeDiff, Nat.reduceBEq, Nat.reduceBNe, Int.reduceLE, Int.reduceLT, Int.reduceToNat, Int.reduceEq, Int.reduceBEq, Int.reduceBNe, Int.reduceNeg, Int.reduceSub, Int.reduceMul, Int.reduceAdd, BitVec.reduceOfInt, reduceCtorEq, ↓reduceIte, h8, joinF]
  · simp only [S27, go_sem, reduceIte, Nat.reduceEqDiff, Nat.reduceAdd, Nat.reduceSub, Nat.reduceMul, Nat.reduceDiv, Nat.reduceMod, Nat.reduceLT, Nat.reduceLeDiff, Nat.reduceBEq, Nat.reduceBNe, Int.reduceLE, Int.reduceLT, Int.reduceToNat, Int.reduceEq, Int.reduceBEq, Int.reduceBNe, Int.reduceNeg, Int.reduceSub, Int.reduceMul, Int.reduceAdd, BitVec.reduceOfInt, reduceCtorEq, ↓reduceIte, Xn_zero]
  · intro i hi
    simp only [S27, go_sem, reduceIte, Nat.reduceEqDiff, Nat.reduceAdd, Nat.reduceSub, Nat.reduceMul, Nat.reduceDiv, Nat.reduceMod, Nat.reduceLT, Nat.reduceLeDiff, Nat.reduceBEq, Nat.reduceBNe, Int.reduceLE, Int.reduceLT, Int.reduceToNat, Int.reduceEq, Int.reduceBEq, Int.reduceBNe, Int.reduceNeg, Int.reduceSub, Int.reduceMul, Int.reduceAdd, BitVec.reduceOfInt, reduceCtorEq, ↓reduceIte, h8, hi, step0, wrap_succ (show i < 2 ^ 62 by omega), Xn_succ]
  · simp only [S27, go_sem, reduceIte, Nat.reduceEqDiff, Nat.reduceAdd, Nat.reduceSub, Nat.reduceMul, Nat.reduceDiv, Nat.reduceMod, Nat.reduceLT, Nat.reduceLeDiff, Nat.reduceBEq, Nat.reduceBNe, Int.reduceLE, Int.reduceLT, Int.reduceToNat, Int.reduceEq, Int.reduceBEq, Int.reduceBNe, Int.reduceNeg, Int.reduceSub, Int.reduceMul, Int.reduceAdd, BitVec.reduceOfInt, reduceCtorEq, ↓reduceIte, h8]
theorem rjoin_neg (d : Nat) (a b : BitVec 64) (n : Int) (h : n < 0) : call (gl w) tab (d+2) 27 [i64 a.toInt, i64 b.toInt, .int .i64 n] [] = some (.int .i64 0, [], []) := by
  rw [call_go (fd := fd27) rfl]
  simp only [fd27, m27, go_sem, reduceIte, Nat.reduceEqDiff, Nat.reduceAdd, Nat.reduceSub, Nat.reduceMul, Nat.reduceDiv, Nat.reduceMod, Nat.reduceLT, Nat.reduceLeDiff, Nat.reduceBEq, Nat.reduceBNe, Int.reduceLE, Int.reduceLT, Int.reduceToNat, Int.reduceEq, Int.reduceBEq, Int.reduceBNe, Int.reduceNeg, Int.reduceSub, Int.reduceMul, Int.reduceAdd, BitVec.reduceOfInt, reduceCtorEq, ↓reduceIte, h]
end Go.Proofs.S02
