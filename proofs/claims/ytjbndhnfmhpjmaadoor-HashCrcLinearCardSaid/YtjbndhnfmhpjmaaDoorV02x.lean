/-
  Products of polynomials modulo the check's, as plain mathematics. No condition.
-/
import Derived.Test.YtjbndhnfmhpjmaaDoorV02c
namespace Go.Proofs.S02
open Go Go.Ev Go.Proofs
set_option linter.unusedVariables false
set_option linter.unusedSimpArgs false
set_option linter.unusedSimpArgs false
theorem and1 (x : BitVec 64) : x &&& 1#64 = 0#64 ∨ x &&& 1#64 = 1#64 := by
  have h : (x &&& 1#64).toNat = x.toNat % 2 := by rw [BitVec.toNat_and, show (1#64 : BitVec 64).toNat = 1 from rfl, Nat.and_one_is_mod]
  rcases Nat.mod_two_eq_zero_or_one x.toNat with e | e
  · left; apply BitVec.eq_of_toNat_eq; rw [h, e]; rfl
  · right; apply BitVec.eq_of_toNat_eq; rw [h, e]; rfl
def selP (f : BitVec 64) : BitVec 64 := if f == 1#64 then 0x04820009#64 else 0#64
theorem selP_xor {f g : BitVec 64} (hf : f = 0#64 ∨ f = 1#64) (hg : g = 0#64 ∨ g = 1#64) : selP (f ^^^ g) = selP f ^^^ selP g := by
  rcases hf with rfl | rfl <;> rcases hg with rfl | rfl <;> decide
theorem stepF_sel (r b : BitVec 64) : stepF r b = (r <<< (1 : Nat) &&& M40) ^^^ selP ((r >>> (39 : Nat) &&& 1#64) ^^^ b) := by rw [stepF_eq]; rfl
theorem bit_xor {f g : BitVec 64} (hf : f = 0#64 ∨ f = 1#64) (hg : g = 0#64 ∨ g = 1#64) : f ^^^ g = 0#64 ∨ f ^^^ g = 1#64 := by
  rcases hf with rfl | rfl <;> rcases hg with rfl | rfl <;> decide
theorem x4 (a b c d : BitVec 64) : (a ^^^ b) ^^^ (c ^^^ d) = (a ^^^ c) ^^^ (b ^^^ d) := by ac_rfl
theorem step_xor {r s b c : BitVec 64} (hb : b = 0#64 ∨ b = 1#64) (hc : c = 0#64 ∨ c = 1#64) : stepF (r ^^^ s) (b ^^^ c) = stepF r b ^^^ stepF s c := by
  rw [stepF_sel, stepF_sel, stepF_sel, shl_xor, and_xor, shr_xor, and_xor, x4, selP_xor (bit_xor (and1 _) hb) (bit_xor (and1 _) hc), x4]
theorem XF_xor (r s : BitVec 64) : XF (r ^^^ s) = XF r ^^^ XF s := by
  have := step_xor (r := r) (s := s) (b := 0#64) (c := 0#64) (Or.inl rfl) (Or.inl rfl)
  rw [BitVec.xor_self] at this; exact this
theorem step_split (r s : BitVec 64) {b : BitVec 64} (hb : b = 0#64 ∨ b = 1#64) : stepF (r ^^^ s) b = stepF r b ^^^ XF s := by
  have := step_xor (r := r) (s := s) hb (c := 0#64) (Or.inl rfl)
  rw [BitVec.xor_zero] at this; exact this
theorem XF_zero : XF 0#64 = 0#64 := by decide
theorem w40_XF (r : BitVec 64) : W40 (XF r) := w40_step r 0
def Xn : Nat → BitVec 64 → BitVec 64
  | 0, r => r
  | n + 1, r => XF (Xn n r)
theorem Xn_zero (r : BitVec 64) : Xn 0 r = r := by rw [Xn]
theorem Xn_succ (n : Nat) (r : BitVec 64) : Xn (n + 1) r = XF (Xn n r) := by rw [Xn]
theorem Xn_xor (n : Nat) (r s : BitVec 64) : Xn n (r ^^^ s) = Xn n r ^^^ Xn n s := by
  induction n with
  | zero => rw [Xn_zero, Xn_zero, Xn_zero]
  | succ n ih => rw [Xn_succ, Xn_succ, Xn_succ, ih, XF_xor]
theorem Xn_add (m n : Nat) (r : BitVec 64) : Xn (m + n) r = Xn m (Xn n r) := by
  induction m with
  | zero => rw [Nat.zero_add, Xn_zero]
  | succ m ih => rw [Nat.succ_add, Xn_succ, Xn_succ, ih]
theorem Xn_zer (n : Nat) : Xn n 0#64 = 0#64 := by
  induction n with
  | zero => rw [Xn_zero]
  | succ n ih => rw [Xn_succ, ih, XF_zero]
theorem Xn_comm (n : Nat) (r : BitVec 64) : Xn n (XF r) = XF (Xn n r) := by
  have h1 : Xn 1 r = XF r := by rw [show (1 : Nat) = 0 + 1 from rfl, Xn_succ, Xn_zero]
  rw [← h1, ← Xn_add, Xn_succ]
theorem w40_Xn {r : BitVec 64} (h : W40 r) (n : Nat) : W40 (Xn n r) := by
  cases n with
  | zero => rw [Xn_zero]; exact h
  | succ n => rw [Xn_succ]; exact w40_XF _
theorem w40_zero : W40 0#64 := by unfold W40; decide
/-! ### The product, from the highest bit on -/
def selA (a b : BitVec 64) (k : Nat) : BitVec 64 := if (b >>> (39 - k) &&& 1#64) == 1#64 then a else 0#64
theorem w40_sel {a b : BitVec 64} (h : W40 a) (k : Nat) : W40 (selA a b k) := by
  unfold selA
  by_cases hc : (b >>> (39 - k) &&& 1#64 == 1#64) = true
  · rw [if_pos hc]; exact h
  · rw [if_neg hc]; exact w40_zero
theorem top_bit {t : BitVec 64} (h : W40 t) : (t <<< (1 : Nat)) >>> (40 : Nat) = t >>> (39 : Nat) := by
  rw [← h]
  apply BitVec.eq_of_getLsbD_eq; intro i hi
  simp only [BitVec.getLsbD_ushiftRight, BitVec.getLsbD_shiftLeft, BitVec.getLsbD_and]
  have e (k : Nat) (hk : 40 ≤ k) : (M40 : BitVec 64).getLsbD k = false := by
    by_cases h64 : k < 64
    · have : ∀ i : Fin 64, (M40 : BitVec 64).getLsbD i.val = decide (i.val < 40) := by decide
      rw [this ⟨k, h64⟩]; simp; omega
    · exact BitVec.getLsbD_of_ge _ _ (by omega)
  rcases Nat.eq_zero_or_pos i with rfl | h0
  · simp
  · rw [e (39 + i) (by omega), e (40 + i - 1) (by omega)]; simp
theorem hi_bit {t : BitVec 64} (h : W40 t) : t >>> (39 : Nat) &&& 1#64 = t >>> (39 : Nat) := by
  rw [← h, shr_and, BitVec.and_assoc]; congr 1
theorem timesF_succ (a b : BitVec 64) (k : Nat) (h : W40 (timesF a b k)) : timesF a b (k + 1) = XF (timesF a b k) ^^^ selA a b k := by
  rw [timesF, top_bit h, XF, stepF_sel, hi_bit h]
  have e0 : (0 : BitVec 64) = 0#64 := rfl
  rw [e0, BitVec.xor_zero]
  unfold selP selA
  by_cases h1 : (timesF a b k >>> (39 : Nat) == 1#64) = true
  · rw [if_pos h1, if_pos h1]
  · rw [if_neg h1, if_neg h1, BitVec.xor_zero]
    congr 1
    have hz : timesF a b k >>> (39 : Nat) = 0#64 := by
      have := and1 (timesF a b k >>> (39 : Nat)); rw [hi_bit h] at this
      rcases this with e | e
      · exact e
      · rw [e] at h1; exact absurd rfl h1
    have : timesF a b k <<< (1 : Nat) >>> (40 : Nat) = 0#64 := by rw [top_bit h, hz]
    apply BitVec.eq_of_getLsbD_eq; intro i hi
    rw [BitVec.getLsbD_and]
    have hM : ∀ i : Fin 64, (M40 : BitVec 64).getLsbD i.val = decide (i.val < 40) := by decide
    rw [hM ⟨i, hi⟩]
    by_cases h40 : i < 40
    · simp [h40]
    · have := congrArg (fun x => x.getLsbD (i - 40)) this
      simp only [BitVec.getLsbD_ushiftRight, show 40 + (i - 40) = i by omega] at this
      rw [this]; simp
theorem w40_times {a : BitVec 64} (b : BitVec 64) (h : W40 a) (k : Nat) : W40 (timesF a b k) := by
  induction k with
  | zero => rw [timesF]; exact w40_zero
  | succ k ih => rw [timesF_succ a b k ih]; exact w40_xor (w40_XF _) (w40_sel h k)
theorem selA_xor (a a' b : BitVec 64) (k : Nat) : selA (a ^^^ a') b k = selA a b k ^^^ selA a' b k := by unfold selA; split <;> simp
theorem times_xor {a a' : BitVec 64} (b : BitVec 64) (h : W40 a) (h' : W40 a') (k : Nat) : timesF (a ^^^ a') b k = timesF a b k ^^^ timesF a' b k := by
  induction k with
  | zero => rw [timesF, timesF, timesF]; decide
  | succ k ih => rw [timesF_succ _ b k (w40_times b (w40_xor h h') k), timesF_succ _ b k (w40_times b h k), timesF_succ _ b k (w40_times b h' k), ih, XF_xor, selA_xor, x4]
theorem times_X {a : BitVec 64} (b : BitVec 64) (h : W40 a) (k : Nat) : timesF (XF a) b k = XF (timesF a b k) := by
  induction k with
  | zero => rw [timesF, timesF]; decide
  | succ k ih =>
    rw [timesF_succ _ b k (w40_times b (w40_XF a) k), timesF_succ _ b k (w40_times b h k), ih, XF_xor]
    congr 1
    unfold selA; split
    · rfl
    · exact XF_zero.symm
theorem times_Xn {a : BitVec 64} (b : BitVec 64) (h : W40 a) (k n : Nat) : timesF (Xn n a) b k = Xn n (timesF a b k) := by
  induction n with
  | zero => rw [Xn_zero, Xn_zero]
  | succ n ih => rw [Xn_succ, Xn_succ, times_X b (w40_Xn h n), ih]
theorem w40_one : W40 1#64 := by unfold W40; decide
end Go.Proofs.S02
