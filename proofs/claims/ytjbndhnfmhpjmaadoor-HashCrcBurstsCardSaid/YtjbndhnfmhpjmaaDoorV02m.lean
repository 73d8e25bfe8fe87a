/-
  The check of 40 bits, as plain mathematics: four steps at once. No condition.
-/
import Derived.Test.YtjbndhnfmhpjmaaDoorV02a
namespace Go.Proofs.S02
open Go Go.Ev Go.Proofs
variable {w : Bool}
set_option linter.unusedSimpArgs false
set_option linter.unusedVariables false
abbrev M40 : BitVec 64 := 0xffffffffff#64
/-- A register has 40 bits. -/
def W40 (r : BitVec 64) : Prop := r &&& M40 = r
theorem w40_and (r : BitVec 64) : W40 (r &&& M40) := by unfold W40; rw [BitVec.and_assoc, BitVec.and_self]
theorem and_xor (a b c : BitVec 64) : (a ^^^ b) &&& c = (a &&& c) ^^^ (b &&& c) := by
  apply BitVec.eq_of_getLsbD_eq; intro i hi
  simp only [BitVec.getLsbD_and, BitVec.getLsbD_xor]
  cases a.getLsbD i <;> cases b.getLsbD i <;> cases c.getLsbD i <;> rfl
theorem w40_xor {a b : BitVec 64} (ha : W40 a) (hb : W40 b) : W40 (a ^^^ b) := by unfold W40 at *; rw [and_xor, ha, hb]
theorem shl_xor (a b : BitVec 64) (n : Nat) : (a ^^^ b) <<< n = a <<< n ^^^ b <<< n := by
  apply BitVec.eq_of_getLsbD_eq; intro i hi
  simp only [BitVec.getLsbD_shiftLeft, BitVec.getLsbD_xor]
  cases decide (i < n) <;> simp [hi]
theorem shr_xor (a b : BitVec 64) (n : Nat) : (a ^^^ b) >>> n = a >>> n ^^^ b >>> n := by
  apply BitVec.eq_of_getLsbD_eq; intro i hi
  simp only [BitVec.getLsbD_ushiftRight, BitVec.getLsbD_xor]
theorem shl_and (a b : BitVec 64) (n : Nat) : (a &&& b) <<< n = a <<< n &&& b <<< n := by
  apply BitVec.eq_of_getLsbD_eq; intro i hi
  simp only [BitVec.getLsbD_shiftLeft, BitVec.getLsbD_and]
  cases decide (i < n) <;> simp [hi]
theorem shr_and (a b : BitVec 64) (n : Nat) : (a &&& b) >>> n = a >>> n &&& b >>> n := by
  apply BitVec.eq_of_getLsbD_eq; intro i hi
  simp only [BitVec.getLsbD_ushiftRight, BitVec.getLsbD_and]
def stepA (r b : BitVec 64) : BitVec 64 := (r <<< (1 : Nat) &&& M40) ^^^ (if (r >>> (39 : Nat) &&& 1#64 ^^^ b) == 1#64 then 0x04820009#64 else 0)
theorem stepF_eq (r b : BitVec 64) : stepF r b = stepA r b := by
  unfold stepF stepA
  split <;> simp
theorem w40_step (r b : BitVec 64) : W40 (stepF r b) := by
  rw [stepF_eq]; unfold stepA
  refine w40_xor (w40_and _) ?_
  split <;> (unfold W40; decide)
/-- What lies below is moved up. -/
theorem step_low {a b : BitVec 64} (c : BitVec 64) (h : a &&& 0x7fffffffff#64 = a) : stepF (b ^^^ a) c = stepF b c ^^^ a <<< (1 : Nat) := by
  have e1 : a >>> (39 : Nat) &&& 1#64 = 0#64 := by
    rw [← h, shr_and, show (0x7fffffffff#64 : BitVec 64) >>> (39 : Nat) = 0 by decide]; simp
  have e2 : a <<< (1 : Nat) &&& M40 = a <<< (1 : Nat) := by
    rw [← h, shl_and, BitVec.and_assoc]; congr 1
  rw [stepF_eq, stepF_eq]; unfold stepA
  rw [shr_xor, shl_xor, and_xor, and_xor, e1, e2, BitVec.xor_zero]
  ac_rfl
def steps4 (r : BitVec 64) (n : BitVec 64) : BitVec 64 := stepF (stepF (stepF (stepF r (n >>> (3 : Nat) &&& 1#64)) (n >>> (2 : Nat) &&& 1#64)) (n >>> (1 : Nat) &&& 1#64)) (n &&& 1#64)
theorem steps4_low {a b : BitVec 64} (n : BitVec 64) (h : a &&& 0xfffffffff#64 = a) : steps4 (b ^^^ a) n = steps4 b n ^^^ a <<< (4 : Nat) := by
  unfold steps4
  have t (k : Nat) (m : BitVec 64) (hm : (0xfffffffff#64 : BitVec 64) <<< k &&& 0x7fffffffff#64 = 0xfffffffff#64 <<< k) : a <<< k &&& 0x7fffffffff#64 = a <<< k := by
    rw [← h, shl_and, BitVec.and_assoc, hm]
  rw [step_low _ (by rw [← h, BitVec.and_assoc]; congr 1), step_low _ (t 1 0 (by decide)), ← BitVec.shiftLeft_add, step_low _ (t 2 0 (by decide)), ← BitVec.shiftLeft_add, step_low _ (t 3 0 (by decide)), ← BitVec.shiftLeft_add]
theorem steps4_all : ∀ x y : Fin 16, ((BitVec.ofNat 64 x.val <<< (36 : Nat) <<< (4 : Nat)) &&& M40) ^^^ nibs.getD ((BitVec.ofNat 8 x.val ^^^ BitVec.ofNat 8 y.val) &&& 15#8).toNat 0 = steps4 (BitVec.ofNat 64 x.val <<< (36 : Nat)) (BitVec.ofNat 64 y.val) := by decide +kernel
theorem split36 (r : BitVec 64) (h : W40 r) : ∃ (x : Fin 16) (a : BitVec 64), a &&& 0xfffffffff#64 = a ∧ r = BitVec.ofNat 64 x.val <<< (36 : Nat) ^^^ a ∧ (r >>> (36 : Nat)).setWidth 8 = BitVec.ofNat 8 x.val := by
  have hx : (r >>> (36 : Nat)).toNat < 16 := by
    rw [← h, shr_and, show (M40 : BitVec 64) >>> (36 : Nat) = 15#64 by decide, BitVec.toNat_and]
    exact Nat.lt_of_le_of_lt Nat.and_le_right (by decide)
  refine ⟨⟨(r >>> (36 : Nat)).toNat, hx⟩, r &&& 0xfffffffff#64, by rw [BitVec.and_assoc, BitVec.and_self], ?_, ?_⟩
  · simp only [BitVec.ofNat_toNat, BitVec.setWidth_eq]
    apply BitVec.eq_of_getLsbD_eq; intro i hi
    simp only [BitVec.getLsbD_shiftLeft, BitVec.getLsbD_xor, BitVec.getLsbD_ushiftRight, BitVec.getLsbD_and]
    have e : (0xfffffffff#64 : BitVec 64).getLsbD i = decide (i < 36) := by
      have : ∀ i : Fin 64, (0xfffffffff#64 : BitVec 64).getLsbD i = decide (i.val < 36) := by decide
      exact this ⟨i, hi⟩
    rw [e]
    by_cases h36 : i < 36
    · simp [h36]
    · simp [h36, hi, show 36 + (i - 36) = i by omega]
  · simp only [BitVec.ofNat_toNat]
theorem and15 (x n : BitVec 8) : (x ^^^ (n &&& 15#8)) &&& 15#8 = (x ^^^ n) &&& 15#8 := by
  apply BitVec.eq_of_getLsbD_eq; intro i hi
  simp only [BitVec.getLsbD_and, BitVec.getLsbD_xor]
  cases n.getLsbD i <;> cases (15#8 : BitVec 8).getLsbD i <;> simp
theorem xrc (a b c : BitVec 64) : a ^^^ b ^^^ c = a ^^^ c ^^^ b := by ac_rfl
theorem nib_eq (r : BitVec 64) (h : W40 r) (n : BitVec 8) : nibF r n = steps4 r (n.setWidth 64 &&& 15#64) := by
  obtain ⟨x, a, ha, e, e8⟩ := split36 r h
  have hy : (n &&& 15#8).toNat < 16 := by rw [BitVec.toNat_and]; exact Nat.lt_of_le_of_lt Nat.and_le_right (by decide)
  have ht := steps4_all x ⟨(n &&& 15#8).toNat, hy⟩
  have e1 : BitVec.ofNat 64 (n &&& 15#8).toNat = n.setWidth 64 &&& 15#64 := by
    rw [BitVec.ofNat_toNat, BitVec.setWidth_and]; congr 1
  have e2 : BitVec.ofNat 8 (n &&& 15#8).toNat = n &&& 15#8 := by rw [BitVec.ofNat_toNat, BitVec.setWidth_eq]
  have e3 : a <<< (4 : Nat) &&& M40 = a <<< (4 : Nat) := by
    rw [← ha, shl_and, BitVec.and_assoc]; congr 1
  rw [e1, e2, and15] at ht
  have e4 : nibF r n = ((BitVec.ofNat 64 x.val <<< (36 : Nat) <<< (4 : Nat) &&& M40) ^^^ a <<< (4 : Nat)) ^^^ nibs.getD ((BitVec.ofNat 8 x.val ^^^ n) &&& 15#8).toNat 0 := by
    unfold nibF
    rw [e8]
    conv => lhs; rw [e, shl_xor, and_xor, e3]
  rw [e4]
  conv => rhs; rw [e, steps4_low _ ha, ← ht]
  exact xrc _ _ _
theorem bit15 {k : Nat} (hk : k < 4) : (15#64 : BitVec 64).getLsbD k = true := by
  have : ∀ k : Fin 4, (15#64 : BitVec 64).getLsbD k.val = true := by decide
  exact this ⟨k, hk⟩
theorem bit1 {i : Nat} (h : ¬ i = 0) : (1#64 : BitVec 64).getLsbD i = false := by
  rw [BitVec.getLsbD_one]; simp [show i ≠ 0 by omega]
theorem byte_steps (r : BitVec 64) (h : W40 r) (b : BitVec 8) : nibF (nibF r (b >>> (4 : Nat))) b = bitsF r b 8 := by
  have hw : W40 (nibF r (b >>> (4 : Nat))) := by rw [nib_eq r h]; unfold steps4; exact w40_step _ _
  rw [nib_eq _ hw, nib_eq r h]
  have e (k : Nat) (hk : k < 4) : (b.setWidth 64 &&& 15#64) >>> k &&& 1#64 = b.setWidth 64 >>> k &&& 1#64 := by
    apply BitVec.eq_of_getLsbD_eq; intro i hi
    simp only [BitVec.getLsbD_and, BitVec.getLsbD_ushiftRight]
    by_cases h0 : i = 0
    · subst h0; simp [bit15 hk]
    · simp [bit1 h0]
  have e' (k : Nat) (hk : k < 4) : ((b >>> (4 : Nat)).setWidth 64 &&& 15#64) >>> k &&& 1#64 = b.setWidth 64 >>> (k + 4) &&& 1#64 := by
    apply BitVec.eq_of_getLsbD_eq; intro i hi
    simp only [BitVec.getLsbD_and, BitVec.getLsbD_ushiftRight]
    by_cases h0 : i = 0
    · subst h0; simp [bit15 hk, BitVec.getLsbD_setWidth, BitVec.getLsbD_ushiftRight, show k < 64 by omega, show k + 4 < 64 by omega, Nat.add_comm]
    · simp [bit1 h0]
  have z (x : BitVec 64) : x = x >>> (0 : Nat) := by simp
  simp only [steps4, bitsF]
  rw [e 3 (by omega), e 2 (by omega), e 1 (by omega), e' 3 (by omega), e' 2 (by omega), e' 1 (by omega)]
  have e0 := e 0 (by omega)
  have e0' := e' 0 (by omega)
  simp only [BitVec.ushiftRight_zero] at e0 e0'
  rw [e0, e0']
  simp
theorem w40_ref (r : BitVec 64) (h : W40 r) (l : List UInt8) : W40 (refF r l) := by
  induction l generalizing r with
  | nil => exact h
  | cons b l ih => exact ih _ (w40_step _ _)
theorem add_ref (r : BitVec 64) (h : W40 r) (l : List UInt8) : addF r l = refF r l := by
  induction l generalizing r with
  | nil => rfl
  | cons b l ih =>
    show addF (nibF (nibF r _) _) l = refF (bitsF r _ 8) l
    rw [byte_steps r h]
    exact ih _ (w40_step _ _)
end Go.Proofs.S02
