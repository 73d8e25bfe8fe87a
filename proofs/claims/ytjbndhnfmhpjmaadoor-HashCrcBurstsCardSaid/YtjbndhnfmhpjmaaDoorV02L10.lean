/-
  Bursts of at most 40 bits are found. No condition.
-/
import Derived.Test.YtjbndhnfmhpjmaaDoorV02L9
import Derived.Test.YtjbndhnfmhpjmaaDoorV02L4
namespace Go.Proofs.S02
open Go Go.Ev Go.Proofs
variable {w : Bool}
set_option linter.unusedSimpArgs false
set_option linter.unusedVariables false
theorem flip8 : ∀ n : Fin 8, bitsF 0#64 (1#8 <<< (7 - n.val)) 8 = Xn (47 - n.val) 1#64 := by decide +kernel
theorem bits_flip (r : BitVec 64) (b : BitVec 8) (n : Nat) (h : n < 8) : bitsF r (b ^^^ 1#8 <<< (7 - n)) 8 = bitsF r b 8 ^^^ Xn (47 - n) 1#64 := by
  have := bitsF_xor r 0#64 b (1#8 <<< (7 - n)) 8
  rw [BitVec.xor_zero] at this
  rw [this, flip8 ⟨n, h⟩]
/-- One bit of a message is turned. -/
def flipL : List UInt8 → Nat → List UInt8
  | [], _ => []
  | b :: l, n => if n < 8 then ub (b.toBitVec ^^^ 1#8 <<< (7 - n)) :: l else b :: flipL l (n - 8)
theorem flipL_len : ∀ (l : List UInt8) (n : Nat), (flipL l n).length = l.length
  | [], _ => rfl
  | b :: l, n => by
    rw [flipL]; split
    · rfl
    · simp [flipL_len l]
theorem flipL_set : ∀ (l : List UInt8) (n : Nat) (h : n / 8 < l.length), flipL l n = l.set (n / 8) (ub (l[n / 8].toBitVec ^^^ 1#8 <<< (7 - n % 8)))
  | [], _, h => by simp at h
  | b :: l, n, h => by
    rw [flipL]
    by_cases h8 : n < 8
    · have e : n / 8 = 0 := by omega
      have e2 : n % 8 = n := by omega
      simp [h8, e, e2]
    · have e : n / 8 = (n - 8) / 8 + 1 := by omega
      have e2 : n % 8 = (n - 8) % 8 := by omega
      have := flipL_set l (n - 8) (by rw [e] at h; simpa using h)
      simp [h8, e, e2, this]
theorem ref_flip : ∀ (l : List UInt8) (n : Nat), n < 8 * l.length → ∀ r, refF r (flipL l n) = refF r l ^^^ Xn (8 * l.length - n + 39) 1#64
  | [], _, h, _ => by simp at h
  | b :: l, n, h, r => by
    rw [flipL]
    by_cases h8 : n < 8
    · rw [if_pos h8]
      show refF (bitsF r (b.toBitVec ^^^ 1#8 <<< (7 - n)) 8) l = refF (bitsF r b.toBitVec 8) l ^^^ _
      rw [bits_flip _ _ _ h8, ref_split, ← Xn_add, List.length_cons]
      congr 2; omega
    · rw [if_neg h8]
      show refF (bitsF r b.toBitVec 8) (flipL l (n - 8)) = refF (bitsF r b.toBitVec 8) l ^^^ _
      rw [List.length_cons] at h
      rw [ref_flip l (n - 8) (by omega), List.length_cons]
      congr 2; omega
def pb (p : BitVec 64) (k : Nat) : Bool := p >>> k &&& 1#64 == 1#64
/-- The message after so many rounds; whether a bit was turned; the pattern's polynomial. -/
def oth (b : List UInt8) (f : Nat) (p : BitVec 64) : Nat → List UInt8
  | 0 => b
  | k + 1 => if pb p k then flipL (oth b f p k) (f + k) else oth b f p k
def smb (p : BitVec 64) : Nat → Bool
  | 0 => false
  | k + 1 => if pb p k then true else smb p k
def pol (p : BitVec 64) : Nat → BitVec 64
  | 0 => 0#64
  | k + 1 => if pb p k then pol p k ^^^ Xn (39 - k) 1#64 else pol p k
theorem oth_len (b : List UInt8) (f : Nat) (p : BitVec 64) (k : Nat) : (oth b f p k).length = b.length := by
  induction k with
  | zero => rw [oth]
  | succ k ih => rw [oth]; split <;> simp only [flipL_len, ih]
theorem oth_ref (b : List UInt8) (f : Nat) (p : BitVec 64) (r : BitVec 64) (k : Nat) : k ≤ 40 → f + k ≤ 8 * b.length → refF r (oth b f p k) = refF r b ^^^ Xn (8 * b.length - f) (pol p k) := by
  induction k with
  | zero => intro _ _; rw [oth, pol, Xn_zer, BitVec.xor_zero]
  | succ k ih =>
    intro h1 h2
    rw [oth, pol]
    by_cases h : pb p k = true
    · rw [if_pos h, if_pos h, ref_flip _ _ (by rw [oth_len]; omega), ih (by omega) (by omega), oth_len, Xn_xor, BitVec.xor_assoc, ← Xn_add]
      congr 3; omega
    · rw [if_neg h, if_neg h]; exact ih (by omega) (by omega)
theorem pol_w40 (p : BitVec 64) (k : Nat) : W40 (pol p k) := by
  induction k with
  | zero => rw [pol]; exact w40_zero
  | succ k ih =>
    rw [pol]
    by_cases h : pb p k = true
    · rw [if_pos h]; exact w40_xor ih (w40_Xn w40_one _)
    · rw [if_neg h]; exact ih
theorem pol_bit (p : BitVec 64) (k : Nat) : k ≤ 40 → ∀ j, j < 40 → (pol p k).getLsbD (39 - j) = (decide (j < k) && pb p j) := by
  induction k with
  | zero => intro _ j hj; rw [pol]; simp
  | succ k ih =>
    intro h j hj
    rw [pol]
    by_cases hp : pb p k = true
    · rw [if_pos hp, BitVec.getLsbD_xor, ih (by omega) j hj, one_shl ⟨39 - k, by omega⟩, BitVec.getLsbD_shiftLeft]
      by_cases hjk : j = k
      · subst hjk; simp [hp]; omega
      · by_cases hlt : j < k
        · have : (1#64 : BitVec 64).getLsbD (39 - j - (39 - k)) = false := bit1 (by omega)
          simp [hlt, show j < k + 1 by omega, this]
        · simp [hlt, show ¬ j < k + 1 by omega, show 39 - j < 39 - k by omega]
    · rw [if_neg hp, ih (by omega) j hj]
      by_cases hjk : j = k
      · subst hjk; simp [hp]
      · by_cases hlt : j < k
        · simp [hlt, show j < k + 1 by omega]
        · simp [hlt, show ¬ j < k + 1 by omega]
theorem smb_some (p : BitVec 64) (k : Nat) : smb p k = true → ∃ j, j < k ∧ pb p j = true := by
  induction k with
  | zero => intro h; rw [smb] at h; exact absurd h (by decide)
  | succ k ih =>
    intro h
    rw [smb] at h
    by_cases hp : pb p k = true
    · exact ⟨k, by omega, hp⟩
    · rw [if_neg hp] at h
      obtain ⟨j, hj, h⟩ := ih h
      exact ⟨j, by omega, h⟩
theorem smb_none (p : BitVec 64) (k : Nat) : smb p k = false → pol p k = 0#64 := by
  induction k with
  | zero => intro _; rw [pol]
  | succ k ih =>
    intro h
    rw [smb] at h
    by_cases hp : pb p k = true
    · rw [if_pos hp] at h; exact absurd h (by decide)
    · rw [if_neg hp] at h
      rw [pol, if_neg hp]; exact ih h
theorem XF_inj {r : BitVec 64} (h : W40 r) (h0 : XF r = 0#64) : r = 0#64 := by
  have hb0 : r >>> (39 : Nat) &&& 1#64 = 0#64 := by
    rcases and1 (r >>> (39 : Nat)) with e | e
    · exact e
    · exfalso
      rw [XF, stepF_sel, e, show (1#64 : BitVec 64) ^^^ 0 = 1#64 by decide, show selP 1#64 = 0x04820009#64 by decide] at h0
      have := congrArg (fun x => x.getLsbD 0) h0
      simp [BitVec.getLsbD_xor, BitVec.getLsbD_and, BitVec.getLsbD_shiftLeft] at this
  rw [XF, stepF_sel, hb0, show (0#64 : BitVec 64) ^^^ 0 = 0#64 by decide, show selP 0#64 = 0#64 by decide, BitVec.xor_zero] at h0
  have h39 : r.getLsbD 39 = false := by
    have := congrArg (fun x => x.getLsbD 0) hb0
    rw [BitVec.getLsbD_and, BitVec.getLsbD_ushiftRight] at this
    simpa using this
  apply BitVec.eq_of_getLsbD_eq; intro i hi
  rw [BitVec.getLsbD_zero]
  by_cases h40 : i < 39
  · have := congrArg (fun x => x.getLsbD (i + 1)) h0
    simp only [BitVec.getLsbD_and, BitVec.getLsbD_shiftLeft, bitM ⟨i + 1, by omega⟩, BitVec.getLsbD_zero] at this
    simpa [show i + 1 < 64 by omega, show i + 1 < 40 by omega] using this
  · by_cases e : i = 39
    · subst e; exact h39
    · rw [← h, BitVec.getLsbD_and, bitM ⟨i, hi⟩]; simp; omega
theorem Xn_inj {r : BitVec 64} (h : W40 r) (n : Nat) : Xn n r = 0#64 → r = 0#64 := by
  induction n with
  | zero => rw [Xn_zero]; exact id
  | succ n ih => intro h0; rw [Xn_succ] at h0; exact ih (XF_inj (w40_Xn h n) h0)
theorem burst (b : List UInt8) (f : Nat) (p : BitVec 64) (k : Nat) (h1 : k ≤ 40) (h2 : f + k ≤ 8 * b.length) : ((crcF b).toInt == (crcF (oth b f p k)).toInt) = !smb p k := by
  have e : crcF (oth b f p k) = crcF b ^^^ Xn (8 * b.length - f) (pol p k) := by
    unfold crcF; rw [oth_ref b f p M40 k h1 h2, xrc]
  rw [e]
  cases hs : smb p k with
  | false => rw [smb_none p k hs, Xn_zer, BitVec.xor_zero]; simp
  | true =>
    obtain ⟨j, hj, hpj⟩ := smb_some p k hs
    have hne : Xn (8 * b.length - f) (pol p k) ≠ 0#64 := fun h0 => by
      have hz := Xn_inj (pol_w40 p k) _ h0
      have := pol_bit p k h1 j (by omega)
      rw [hz, hpj] at this
      simp [hj] at this
    generalize Xn (8 * b.length - f) (pol p k) = D at *
    rw [Bool.not_true, Bool.eq_false_iff]
    intro h
    have h := BitVec.eq_of_toInt_eq (eq_of_beq h)
    apply hne
    have : crcF b ^^^ crcF b = crcF b ^^^ (crcF b ^^^ D) := by rw [← h]
    rw [BitVec.xor_self, ← BitVec.xor_assoc, BitVec.xor_self, BitVec.zero_xor] at this
    exact this.symm
/-! ### The walk -/
theorem quo8 (a : Nat) (h : a < 2 ^ 62) : binInt .quo .i64 (a : Int) 8 = some (.int .i64 ((a / 8 : Nat) : Int)) := by
  have h8 : ¬ ((8 : Int) = 0) := by decide
  simp only [binInt, h8, if_false]
  have e : (a : Int).tdiv 8 = ((a / 8 : Nat) : Int) := rfl
  rw [e, wrap_i64 (by omega) (by omega)]
theorem rem8 (a : Nat) : binInt .rem .i64 (a : Int) 8 = some (.int .i64 ((a % 8 : Nat) : Int)) := by
  have h8 : ¬ ((8 : Int) = 0) := by decide
  simp only [binInt, h8, if_false]; rfl
theorem u16_of {a : AV} (h : HasKd (.int .u16) a) : ∃ x : Nat, a = .int .u16 (x : Int) ∧ x < 65536 := by
  obtain ⟨n, rfl, h1, h2⟩ := h
  simp only [IntKind.min, IntKind.max, IntKind.signed, IntKind.bits, Bool.false_eq_true, if_false] at h1 h2
  exact ⟨n.toNat, by congr 1; omega, by omega⟩
theorem u64_of {a : AV} (h : HasKd (.int .u64) a) : ∃ x : BitVec 64, a = u64 x := by
  obtain ⟨n, rfl, h1, h2⟩ := h
  simp only [IntKind.min, IntKind.max, IntKind.signed, IntKind.bits, Bool.false_eq_true, if_false] at h1 h2
  refine ⟨BitVec.ofNat 64 n.toNat, ?_⟩
  unfold u64
  rw [BitVec.toNat_ofNat, Nat.mod_eq_of_lt (by omega)]
  congr 1; omega
def S10 (b : List UInt8) (f : Nat) (p : BitVec 64) (k : Nat) : St :=
  ⟨[.set 11 (.int .i64 k), .set 10 (.bool (smb p k)), .set 9 (.int .i64 f), .set 8 (.sl 25 [] 0 b.length), .set 7 (.bool true), .set 2 (u64 p), .set 0 (.lst false .sc (bytesAV b))], [(25, .grow .sc (bytesAV (oth b f p k)))]⟩
theorem bytesAV_set (l : List UInt8) (i : Nat) (b : BitVec 8) : bytesAV (l.set i (ub b)) = (bytesAV l).set i (.int .u8 (b.toNat : Int)) := by
  simp [bytesAV, List.map_set, ub]
theorem law10 {n : Nat} (hn : 20 ≤ n) (c15 : call (gl w) tab n 15 [] [] = some (.bool true, [], [])) (ar : List AV) (h : HasKds [.sl (.int .u8), .int .u16, .int .u64] ar) : call (gl w) tab (n + 1) 10 ar [] = some (.bool true, [], []) := by
  obtain ⟨_, _, rfl, ⟨x, rfl, -, ha⟩, _, _, rfl, hb, _, _, rfl, hc, rfl⟩ := h
  obtain ⟨b, rfl⟩ := bytes_of ha
  obtain ⟨t, rfl, ht⟩ := u16_of hb
  obtain ⟨p, rfl⟩ := u64_of hc
  clear ha hb hc
  have c16 := @crc_at w n (by omega)
  rw [call_go (fd := fd10) rfl]
  by_cases h0 : b.length = 0
  · have hb0 : b = [] := List.length_eq_zero_iff.1 h0
    subst hb0
    simp only [Kd.sh, fd10, m10, go_sem, reduceIte, Nat.reduceEqDiff, Nat.reduceAdd, Nat.reduceSub, Nat.reduceMul, Nat.reduceDiv, Nat.reduceMod, Nat.reduceLT, Nat.reduceLeDiff, Nat.reduceBEq, Nat.reduceBNe, Int.reduceLE, Int.reduceLT, Int.reduceToNat, Int.reduceEq, Int.reduceBEq, Int.reduceBNe, Int.reduceNeg, Int.reduceSub, Int.reduceMul, Int.reduceAdd, BitVec.reduceOfInt, reduceCtorEq, ↓reduceIte, c15, bytesAV_length]
  have h0' : (((b.length : Nat) : Int) == 0) = false := by rw [beq_eq_false_iff_ne]; omega
  by_cases h4 : 400 < b.length
  · simp only [Kd.sh, fd10, m10, go_sem, reduceIte, Nat.reduceEqDiff, Nat.reduceAdd, Nat.reduceSub, Nat.reduceMul, Nat.reduceDiv, Nat.reduceMod, Nat.reduceLT, Nat.reduceLeDiff, Nat.reduceBEq, Nat.reduceBNe, Int.reduceLE, Int.reduceLT, Int.reduceToNat, Int.reduceEq, Int.reduceBEq, Int.reduceBNe, Int.reduceNeg, Int.reduceSub, Int.reduceMul, Int.reduceAdd, BitVec.reduceOfInt, reduceCtorEq, ↓reduceIte, c15, bytesAV_length, h0', h4]
  have hw1 : IntKind.wrap .i64 (t : Int) = (t : Int) := wrap_i64 (by omega) (by omega)
  have hw2 : IntKind.wrap .i64 (8 * (b.length : Int)) = ((8 * b.length : Nat) : Int) := by rw [wrap_i64 (by omega) (by omega)]; omega
  have hL : b.length ≤ LIM := by unfold LIM; omega
  simp only [Kd.sh, fd10, m10, go_sem, reduceIte, Nat.reduceEqDiff, Nat.reduceAdd, Nat.reduceSub, Nat.reduceMul, Nat.reduceDiv, Nat.reduceMod, Nat.reduceLT, Nat.reduceLeDiff, Nat.reduceBEq, Nat.reduceBNe, Int.reduceLE, Int.reduceLT, Int.reduceToNat, Int.reduceEq, Int.reduceBEq, Int.reduceBNe, Int.reduceNeg, Int.reduceSub, Int.reduceMul, Int.reduceAdd, BitVec.reduceOfInt, reduceCtorEq, ↓reduceIte, c15, bytesAV_length, h0', h4, hw1, hw2, hL, rem_nat _ _ (show 0 < 8 * b.length by omega)]
  have hf : t % (8 * b.length) < 8 * b.length := Nat.mod_lt _ (by omega)
  generalize t % (8 * b.length) = f at *
  have hN1 : min 40 (8 * b.length - f) ≤ 40 := Nat.min_le_left _ _
  have hN2 : f + min 40 (8 * b.length - f) ≤ 8 * b.length := by have := Nat.min_le_right 40 (8 * b.length - f); omega
  have hN3 : min 40 (8 * b.length - f) = 40 ∨ (min 40 (8 * b.length - f) < 40 ∧ f + min 40 (8 * b.length - f) = 8 * b.length) := by
    rcases Nat.le_total 40 (8 * b.length - f) with h | h
    · left; exact Nat.min_eq_left h
    · rw [Nat.min_eq_right h]; omega
  generalize min 40 (8 * b.length - f) = N at *
  have hwN : IntKind.wrap .i64 ((f : Int) + (N : Int)) = ((f + N : Nat) : Int) := by rw [wrap_i64 (by omega) (by omega)]; omega
  have hbur := burst b f p N hN1 hN2
  rw [iter_to (S10 b f p) N (by unfold LF; omega)]
  · have ht : (bytesAV (oth b f p N)).take b.length = bytesAV (oth b f p N) := bytesAV_take' (oth_len b f p N)
    have hlo : (oth b f p N).length < 2 ^ 36 := by rw [oth_len]; omega
    rcases hN3 with hN | ⟨hN, hN'⟩
    · subst hN
      simp only [S10, go_sem, reduceIte, Nat.reduceEqDiff, Nat.reduceAdd, Nat.reduceSub, Nat.reduceMul, Nat.reduceDiv, Nat.reduceMod, Nat.reduceLT, Nat.reduceLeDiff, Nat.reduceBEq, Nat.reduceBNe, Int.reduceLE, Int.reduceLT, Int.reduceToNat, Int.reduceEq, Int.reduceBEq, Int.reduceBNe, Int.reduceNeg, Int.reduceSub, Int.reduceMul, Int.reduceAdd, BitVec.reduceOfInt, reduceCtorEq, ↓reduceIte, oth_len, c16, ht, hlo, show b.length < 2 ^ 36 by omega, hbur]
    · simp only [S10, go_sem, reduceIte, Nat.reduceEqDiff, Nat.reduceAdd, Nat.reduceSub, Nat.reduceMul, Nat.reduceDiv, Nat.reduceMod, Nat.reduceLT, Nat.reduceLeDiff, Nat.reduceBEq, Nat.reduceBNe, Int.reduceLE, Int.reduceLT, Int.reduceToNat, Int.reduceEq, Int.reduceBEq, Int.reduceBNe, Int.reduceNeg, Int.reduceSub, Int.reduceMul, Int.reduceAdd, BitVec.reduceOfInt, reduceCtorEq, ↓reduceIte, hN, hwN, hw2, hN', bytesAV_length, oth_len, c16, ht, hlo, show b.length < 2 ^ 36 by omega, hbur]
  · simp only [S10, go_sem, reduceIte, Nat.reduceEqDiff, Nat.reduceAdd, Nat.reduceSub, Nat.reduceMul, Nat.reduceDiv, Nat.reduceMod, Nat.reduceLT, Nat.reduceLeDiff, Nat.reduceBEq, Nat.reduceBNe, Int.reduceLE, Int.reduceLT, Int.reduceToNat, Int.reduceEq, Int.reduceBEq, Int.reduceBNe, Int.reduceNeg, Int.reduceSub, Int.reduceMul, Int.reduceAdd, BitVec.reduceOfInt, reduceCtorEq, ↓reduceIte, oth, smb]
  · intro k hk
    have hk40 : k < 40 := by omega
    have hkb : f + k < 8 * b.length := by omega
    have hwk : IntKind.wrap .i64 ((f : Int) + (k : Int)) = ((f + k : Nat) : Int) := by rw [wrap_i64 (by omega) (by omega)]; omega
    have hi : (f + k) / 8 < (oth b f p k).length := by rw [oth_len]; omega
    have hi' : (f + k) / 8 < b.length := by omega
    have hw7 : IntKind.wrap .i64 (7 - (((f + k) % 8 : Nat) : Int)) = ((7 - (f + k) % 8 : Nat) : Int) := by rw [wrap_i64 (by omega) (by omega)]; omega
    cases hp : (p >>> k &&& 1#64 == 1#64)
    · have hpb : ¬ pb p k = true := by unfold pb; rw [hp]; decide
      simp only [S10, go_sem, reduceIte, Nat.reduceEqDiff, Nat.reduceAdd, Nat.reduceSub, Nat.reduceMul, Nat.reduceDiv, Nat.reduceMod, Nat.reduceLT, Nat.reduceLeDiff, Nat.reduceBEq, Nat.reduceBNe, Int.reduceLE, Int.reduceLT, Int.reduceToNat, Int.reduceEq, Int.reduceBEq, Int.reduceBNe, Int.reduceNeg, Int.reduceSub, Int.reduceMul, Int.reduceAdd, BitVec.reduceOfInt, reduceCtorEq, ↓reduceIte, hk40, hwk, hw2, hkb, bytesAV_length, hp, oth, smb, if_neg hpb, wrap_succ (show k < 2 ^ 62 by omega)]
    · have hpb : pb p k = true := hp
      simp only [S10, go_sem, reduceIte, Nat.reduceEqDiff, Nat.reduceAdd, Nat.reduceSub, Nat.reduceMul, Nat.reduceDiv, Nat.reduceMod, Nat.reduceLT, Nat.reduceLeDiff, Nat.reduceBEq, Nat.reduceBNe, Int.reduceLE, Int.reduceLT, Int.reduceToNat, Int.reduceEq, Int.reduceBEq, Int.reduceBNe, Int.reduceNeg, Int.reduceSub, Int.reduceMul, Int.reduceAdd, BitVec.reduceOfInt, reduceCtorEq, ↓reduceIte, hk40, hwk, hw2, hkb, bytesAV_length, hp, oth, smb, if_pos hpb, wrap_succ (show k < 2 ^ 62 by omega), quo8 _ (show f + k < 2 ^ 62 by omega), rem8, hw7, flipL_set _ _ hi, bytesAV_set, bytesAV_get hi, oth_len, hi']
  · rcases hN3 with hN | ⟨hN, hN'⟩
    · simp only [S10, go_sem, reduceIte, Nat.reduceEqDiff, Nat.reduceAdd, Nat.reduceSub, Nat.reduceMul, Nat.reduceDiv, Nat.reduceMod, Nat.reduceLT, Nat.reduceLeDiff, Nat.reduceBEq, Nat.reduceBNe, Int.reduceLE, Int.reduceLT, Int.reduceToNat, Int.reduceEq, Int.reduceBEq, Int.reduceBNe, Int.reduceNeg, Int.reduceSub, Int.reduceMul, Int.reduceAdd, BitVec.reduceOfInt, reduceCtorEq, ↓reduceIte, hN]
    · simp only [S10, go_sem, reduceIte, Nat.reduceEqDiff, Nat.reduceAdd, Nat.reduceSub, Nat.reduceMul, Nat.reduceDiv, Nat.reduceMod, Nat.reduceLT, Nat.reduceLeDiff, Nat.reduceBEq, Nat.reduceBNe, Int.reduceLE, Int.reduceLT, Int.reduceToNat, Int.reduceEq, Int.reduceBEq, Int.reduceBNe, Int.reduceNeg, Int.reduceSub, Int.reduceMul, Int.reduceAdd, BitVec.reduceOfInt, reduceCtorEq, ↓reduceIte, hN, hwN, hw2, hN', bytesAV_length]
end Go.Proofs.S02
