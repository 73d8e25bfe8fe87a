/-
  Numbers of a width, for the evaluator's user: what the operations give, said of bit vectors. No condition.
-/
import Derived.Test.YtdbppejfcolacaaEvU
namespace Go.Ev
open Go

theorem emod_toNat (w : Nat) (a : Int) : a % (2 ^ w : Int) = ((BitVec.ofInt w a).toNat : Int) := by
  rw [BitVec.toNat_ofInt]
  have h : (0 : Int) < 2 ^ w := Int.pow_pos (by omega)
  have h1 := Int.emod_nonneg a (Int.ne_of_gt h)
  have e : ((2 ^ w : Nat) : Int) = (2 : Int) ^ w := by simp
  rw [e]
  exact (Int.toNat_of_nonneg h1).symm
theorem ofInt_toNatW {w : Nat} (x : BitVec w) : BitVec.ofInt w (x.toNat : Int) = x := by simp
theorem ofInt_subW (w : Nat) (a b : Int) : BitVec.ofInt w (a - b) = BitVec.ofInt w a - BitVec.ofInt w b := by
  rw [Int.sub_eq_add_neg, BitVec.ofInt_add, BitVec.ofInt_neg, BitVec.sub_eq_add_neg]
theorem wrapU {k : IntKind} (hs : k.signed = false) (a : Int) : k.wrap a = ((BitVec.ofInt k.bits a).toNat : Int) := by
  rw [← emod_toNat]; simp [IntKind.wrap, hs]
section
variable {k : IntKind} (hs : k.signed = false)
include hs
theorem andU (a b : Int) : binInt .and k a b = some (.int k ((BitVec.ofInt k.bits a &&& BitVec.ofInt k.bits b).toNat : Int)) := by
  simp only [binInt, wrapU hs, ofInt_toNatW]
theorem orU (a b : Int) : binInt .or k a b = some (.int k ((BitVec.ofInt k.bits a ||| BitVec.ofInt k.bits b).toNat : Int)) := by
  simp only [binInt, wrapU hs, ofInt_toNatW]
theorem xorU (a b : Int) : binInt .xor k a b = some (.int k ((BitVec.ofInt k.bits a ^^^ BitVec.ofInt k.bits b).toNat : Int)) := by
  simp only [binInt, wrapU hs, ofInt_toNatW]
theorem addU (a b : Int) : binInt .add k a b = some (.int k ((BitVec.ofInt k.bits a + BitVec.ofInt k.bits b).toNat : Int)) := by
  simp only [binInt, wrapU hs, BitVec.ofInt_add]
theorem subU (a b : Int) : binInt .sub k a b = some (.int k ((BitVec.ofInt k.bits a - BitVec.ofInt k.bits b).toNat : Int)) := by
  simp only [binInt, wrapU hs, ofInt_subW]
theorem mulU (a b : Int) : binInt .mul k a b = some (.int k ((BitVec.ofInt k.bits a * BitVec.ofInt k.bits b).toNat : Int)) := by
  simp only [binInt, wrapU hs, BitVec.ofInt_mul]
theorem shlU (a b : Int) (h : 0 ≤ b) : binShift .shl k a b = some (.int k ((BitVec.ofInt k.bits a <<< b.toNat).toNat : Int)) := by
  have h' : ¬ b < 0 := by omega
  simp only [binShift, h', if_false, wrapU hs]
  have e : BitVec.ofInt k.bits (a * 2 ^ min b.toNat k.bits) = BitVec.ofInt k.bits a <<< b.toNat := by
    rw [BitVec.ofInt_mul]
    rcases Nat.lt_or_ge b.toNat k.bits with hb | hb
    · rw [Nat.min_eq_left (Nat.le_of_lt hb)]
      have : BitVec.ofInt k.bits (2 ^ b.toNat) = BitVec.twoPow k.bits b.toNat := by
        rw [show (2 : Int) ^ b.toNat = ((2 ^ b.toNat : Nat) : Int) by simp, BitVec.ofInt_natCast, BitVec.twoPow_eq]
        apply BitVec.eq_of_toNat_eq
        simp [Nat.shiftLeft_eq]
      rw [this, BitVec.mul_twoPow_eq_shiftLeft]
    · rw [Nat.min_eq_right hb, BitVec.shiftLeft_eq_zero hb]
      have : BitVec.ofInt k.bits (2 ^ k.bits) = 0#k.bits := by
        rw [show (2 : Int) ^ k.bits = ((2 ^ k.bits : Nat) : Int) by simp, BitVec.ofInt_natCast]
        apply BitVec.eq_of_toNat_eq
        simp
      rw [this, BitVec.mul_zero]
  rw [e]
omit hs in
theorem shrU {k : IntKind} (x : BitVec k.bits) (b : Int) (h : 0 ≤ b) : binShift .shr k (x.toNat : Int) b = some (.int k ((x >>> b.toNat).toNat : Int)) := by
  have h' : ¬ b < 0 := by omega
  simp only [binShift, h', if_false]
  have e : ((x.toNat : Int)).fdiv (2 ^ min b.toNat k.bits) = ((x >>> b.toNat).toNat : Int) := by
    rw [BitVec.toNat_ushiftRight, Nat.shiftRight_eq_div_pow, Int.fdiv_eq_ediv_of_nonneg _ (Int.le_of_lt (Int.pow_pos (by omega)))]
    rw [show (2 : Int) ^ min b.toNat k.bits = ((2 ^ min b.toNat k.bits : Nat) : Int) by simp, ← Int.natCast_ediv]
    congr 1
    rcases Nat.le_total b.toNat k.bits with hb | hb
    · rw [Nat.min_eq_left hb]
    · rw [Nat.min_eq_right hb, Nat.div_eq_of_lt x.isLt, Nat.div_eq_of_lt (Nat.lt_of_lt_of_le x.isLt (Nat.pow_le_pow_right (by omega) hb))]
  rw [e]
theorem notU (a : Int) : k.wrap ((BitVec.ofInt k.bits (if k.signed then -1 else k.max) ^^^ BitVec.ofInt k.bits a).toNat) = ((~~~ BitVec.ofInt k.bits a).toNat : Int) := by
  rw [wrapU hs, ofInt_toNatW]
  congr 2
  have : BitVec.ofInt k.bits (if k.signed then -1 else k.max) = BitVec.allOnes k.bits := by
    rw [hs]
    simp only [Bool.false_eq_true, if_false, IntKind.max, hs]
    rw [ofInt_subW, show (2 : Int) ^ k.bits = ((2 ^ k.bits : Nat) : Int) by simp, BitVec.ofInt_natCast]
    have : BitVec.ofNat k.bits (2 ^ k.bits) = 0#k.bits := by apply BitVec.eq_of_toNat_eq; simp
    rw [this, BitVec.zero_sub, ← BitVec.neg_one_eq_allOnes]
    rfl
  rw [this, BitVec.allOnes_xor]
end


/-! ### u8 -/
theorem wrap_u8 (a : Int) : IntKind.wrap .u8 a = ((BitVec.ofInt 8 a).toNat : Int) := wrapU rfl a
theorem and_u8 (a b : Int) : binInt .and .u8 a b = some (.int .u8 ((BitVec.ofInt 8 a &&& BitVec.ofInt 8 b).toNat : Int)) := andU rfl a b
theorem or_u8 (a b : Int) : binInt .or .u8 a b = some (.int .u8 ((BitVec.ofInt 8 a ||| BitVec.ofInt 8 b).toNat : Int)) := orU rfl a b
theorem xor_u8 (a b : Int) : binInt .xor .u8 a b = some (.int .u8 ((BitVec.ofInt 8 a ^^^ BitVec.ofInt 8 b).toNat : Int)) := xorU rfl a b
theorem add_u8 (a b : Int) : binInt .add .u8 a b = some (.int .u8 ((BitVec.ofInt 8 a + BitVec.ofInt 8 b).toNat : Int)) := addU rfl a b
theorem sub_u8 (a b : Int) : binInt .sub .u8 a b = some (.int .u8 ((BitVec.ofInt 8 a - BitVec.ofInt 8 b).toNat : Int)) := subU rfl a b
theorem mul_u8 (a b : Int) : binInt .mul .u8 a b = some (.int .u8 ((BitVec.ofInt 8 a * BitVec.ofInt 8 b).toNat : Int)) := mulU rfl a b
theorem shl_u8 (a b : Int) (h : 0 ≤ b) : binShift .shl .u8 a b = some (.int .u8 ((BitVec.ofInt 8 a <<< b.toNat).toNat : Int)) := shlU rfl a b h
theorem shr_u8 (x : BitVec 8) (b : Int) (h : 0 ≤ b) : binShift .shr .u8 (x.toNat : Int) b = some (.int .u8 ((x >>> b.toNat).toNat : Int)) := shrU (k := .u8) x b h
theorem not_u8 (a : Int) : IntKind.wrap .u8 ((BitVec.ofInt (IntKind.bits .u8) (if IntKind.signed .u8 then -1 else IntKind.max .u8) ^^^ BitVec.ofInt (IntKind.bits .u8) a).toNat) = ((~~~ BitVec.ofInt 8 a).toNat : Int) := notU rfl a


/-! ### u16 -/
theorem wrap_u16 (a : Int) : IntKind.wrap .u16 a = ((BitVec.ofInt 16 a).toNat : Int) := wrapU rfl a
theorem and_u16 (a b : Int) : binInt .and .u16 a b = some (.int .u16 ((BitVec.ofInt 16 a &&& BitVec.ofInt 16 b).toNat : Int)) := andU rfl a b
theorem or_u16 (a b : Int) : binInt .or .u16 a b = some (.int .u16 ((BitVec.ofInt 16 a ||| BitVec.ofInt 16 b).toNat : Int)) := orU rfl a b
theorem xor_u16 (a b : Int) : binInt .xor .u16 a b = some (.int .u16 ((BitVec.ofInt 16 a ^^^ BitVec.ofInt 16 b).toNat : Int)) := xorU rfl a b
theorem add_u16 (a b : Int) : binInt .add .u16 a b = some (.int .u16 ((BitVec.ofInt 16 a + BitVec.ofInt 16 b).toNat : Int)) := addU rfl a b
theorem sub_u16 (a b : Int) : binInt .sub .u16 a b = some (.int .u16 ((BitVec.ofInt 16 a - BitVec.ofInt 16 b).toNat : Int)) := subU rfl a b
theorem mul_u16 (a b : Int) : binInt .mul .u16 a b = some (.int .u16 ((BitVec.ofInt 16 a * BitVec.ofInt 16 b).toNat : Int)) := mulU rfl a b
theorem shl_u16 (a b : Int) (h : 0 ≤ b) : binShift .shl .u16 a b = some (.int .u16 ((BitVec.ofInt 16 a <<< b.toNat).toNat : Int)) := shlU rfl a b h
theorem shr_u16 (x : BitVec 16) (b : Int) (h : 0 ≤ b) : binShift .shr .u16 (x.toNat : Int) b = some (.int .u16 ((x >>> b.toNat).toNat : Int)) := shrU (k := .u16) x b h
theorem not_u16 (a : Int) : IntKind.wrap .u16 ((BitVec.ofInt (IntKind.bits .u16) (if IntKind.signed .u16 then -1 else IntKind.max .u16) ^^^ BitVec.ofInt (IntKind.bits .u16) a).toNat) = ((~~~ BitVec.ofInt 16 a).toNat : Int) := notU rfl a


/-! ### u32 -/
theorem wrap_u32 (a : Int) : IntKind.wrap .u32 a = ((BitVec.ofInt 32 a).toNat : Int) := wrapU rfl a
theorem and_u32 (a b : Int) : binInt .and .u32 a b = some (.int .u32 ((BitVec.ofInt 32 a &&& BitVec.ofInt 32 b).toNat : Int)) := andU rfl a b
theorem or_u32 (a b : Int) : binInt .or .u32 a b = some (.int .u32 ((BitVec.ofInt 32 a ||| BitVec.ofInt 32 b).toNat : Int)) := orU rfl a b
theorem xor_u32 (a b : Int) : binInt .xor .u32 a b = some (.int .u32 ((BitVec.ofInt 32 a ^^^ BitVec.ofInt 32 b).toNat : Int)) := xorU rfl a b
theorem add_u32 (a b : Int) : binInt .add .u32 a b = some (.int .u32 ((BitVec.ofInt 32 a + BitVec.ofInt 32 b).toNat : Int)) := addU rfl a b
theorem sub_u32 (a b : Int) : binInt .sub .u32 a b = some (.int .u32 ((BitVec.ofInt 32 a - BitVec.ofInt 32 b).toNat : Int)) := subU rfl a b
theorem mul_u32 (a b : Int) : binInt .mul .u32 a b = some (.int .u32 ((BitVec.ofInt 32 a * BitVec.ofInt 32 b).toNat : Int)) := mulU rfl a b
theorem shl_u32 (a b : Int) (h : 0 ≤ b) : binShift .shl .u32 a b = some (.int .u32 ((BitVec.ofInt 32 a <<< b.toNat).toNat : Int)) := shlU rfl a b h
theorem shr_u32 (x : BitVec 32) (b : Int) (h : 0 ≤ b) : binShift .shr .u32 (x.toNat : Int) b = some (.int .u32 ((x >>> b.toNat).toNat : Int)) := shrU (k := .u32) x b h
theorem not_u32 (a : Int) : IntKind.wrap .u32 ((BitVec.ofInt (IntKind.bits .u32) (if IntKind.signed .u32 then -1 else IntKind.max .u32) ^^^ BitVec.ofInt (IntKind.bits .u32) a).toNat) = ((~~~ BitVec.ofInt 32 a).toNat : Int) := notU rfl a


/-! ### u64 -/
theorem wrap_u64 (a : Int) : IntKind.wrap .u64 a = ((BitVec.ofInt 64 a).toNat : Int) := wrapU rfl a
theorem and_u64 (a b : Int) : binInt .and .u64 a b = some (.int .u64 ((BitVec.ofInt 64 a &&& BitVec.ofInt 64 b).toNat : Int)) := andU rfl a b
theorem or_u64 (a b : Int) : binInt .or .u64 a b = some (.int .u64 ((BitVec.ofInt 64 a ||| BitVec.ofInt 64 b).toNat : Int)) := orU rfl a b
theorem xor_u64 (a b : Int) : binInt .xor .u64 a b = some (.int .u64 ((BitVec.ofInt 64 a ^^^ BitVec.ofInt 64 b).toNat : Int)) := xorU rfl a b
theorem add_u64 (a b : Int) : binInt .add .u64 a b = some (.int .u64 ((BitVec.ofInt 64 a + BitVec.ofInt 64 b).toNat : Int)) := addU rfl a b
theorem sub_u64 (a b : Int) : binInt .sub .u64 a b = some (.int .u64 ((BitVec.ofInt 64 a - BitVec.ofInt 64 b).toNat : Int)) := subU rfl a b
theorem mul_u64 (a b : Int) : binInt .mul .u64 a b = some (.int .u64 ((BitVec.ofInt 64 a * BitVec.ofInt 64 b).toNat : Int)) := mulU rfl a b
theorem shl_u64 (a b : Int) (h : 0 ≤ b) : binShift .shl .u64 a b = some (.int .u64 ((BitVec.ofInt 64 a <<< b.toNat).toNat : Int)) := shlU rfl a b h
theorem shr_u64 (x : BitVec 64) (b : Int) (h : 0 ≤ b) : binShift .shr .u64 (x.toNat : Int) b = some (.int .u64 ((x >>> b.toNat).toNat : Int)) := shrU (k := .u64) x b h
theorem not_u64 (a : Int) : IntKind.wrap .u64 ((BitVec.ofInt (IntKind.bits .u64) (if IntKind.signed .u64 then -1 else IntKind.max .u64) ^^^ BitVec.ofInt (IntKind.bits .u64) a).toNat) = ((~~~ BitVec.ofInt 64 a).toNat : Int) := notU rfl a

/-! ### Numbers with a sign -/
theorem wrap_i64 {a : Int} (h1 : -9223372036854775808 ≤ a) (h2 : a ≤ 9223372036854775807) : IntKind.wrap .i64 a = a := by
  simp only [IntKind.wrap, IntKind.bits, IntKind.signed, Bool.true_and]
  simp only [Nat.add_one_sub_one, Int.reducePow]
  split <;> simp_all <;> omega
theorem wrap_i64_bv (x : BitVec 64) : IntKind.wrap .i64 (x.toNat : Int) = x.toInt := by
  simp only [IntKind.wrap, IntKind.bits, IntKind.signed, Bool.true_and, BitVec.toInt]
  have := x.isLt
  simp only [Nat.add_one_sub_one, Int.reducePow]
  split <;> simp_all <;> omega
theorem ofInt_toInt_sw {w : Nat} (hw : w ≤ 64) (x : BitVec 64) : BitVec.ofInt w x.toInt = x.setWidth w := by
  apply BitVec.eq_of_toNat_eq
  rw [BitVec.toNat_setWidth, BitVec.toNat_ofInt, BitVec.toInt]
  have hd : ((2 : Nat) ^ w) ∣ 2 ^ 64 := Nat.pow_dvd_pow 2 hw
  obtain ⟨c, hc⟩ := hd
  have e : ((2 ^ 64 : Nat) : Int) = ((2 ^ w : Nat) : Int) * (c : Int) := by rw [hc]; exact Int.natCast_mul _ _
  split
  · rw [← Int.natCast_emod]; rfl
  · rw [e, Int.sub_mul_emod_self_left, ← Int.natCast_emod]; rfl
theorem sw8 (x : BitVec 64) : BitVec.ofInt 8 x.toInt = x.setWidth 8 := ofInt_toInt_sw (by omega) x
theorem sw16 (x : BitVec 64) : BitVec.ofInt 16 x.toInt = x.setWidth 16 := ofInt_toInt_sw (by omega) x
theorem sw32 (x : BitVec 64) : BitVec.ofInt 32 x.toInt = x.setWidth 32 := ofInt_toInt_sw (by omega) x
theorem sw64 (x : BitVec 64) : BitVec.ofInt 64 x.toInt = x := BitVec.ofInt_toInt
theorem and_i64 (a b : Int) : binInt .and .i64 a b = some (.int .i64 (BitVec.ofInt 64 a &&& BitVec.ofInt 64 b).toInt) := by
  simp only [binInt]; rw [show IntKind.bits .i64 = 64 from rfl, wrap_i64_bv]
theorem or_i64 (a b : Int) : binInt .or .i64 a b = some (.int .i64 (BitVec.ofInt 64 a ||| BitVec.ofInt 64 b).toInt) := by
  simp only [binInt]; rw [show IntKind.bits .i64 = 64 from rfl, wrap_i64_bv]
theorem xor_i64 (a b : Int) : binInt .xor .i64 a b = some (.int .i64 (BitVec.ofInt 64 a ^^^ BitVec.ofInt 64 b).toInt) := by
  simp only [binInt]; rw [show IntKind.bits .i64 = 64 from rfl, wrap_i64_bv]
theorem wrap_i64_ofInt (a : Int) : IntKind.wrap .i64 a = (BitVec.ofInt 64 a).toInt := by
  rw [← wrap_i64_bv, ← emod_toNat]
  simp only [IntKind.wrap, IntKind.bits, Int.emod_emod]
  rfl
theorem shr_i64 (x : BitVec 64) (b : Int) (h : 0 ≤ b) : binShift .shr .i64 x.toInt b = some (.int .i64 (x.sshiftRight b.toNat).toInt) := by
  have h' : ¬ b < 0 := by omega
  simp only [binShift, h', if_false, BitVec.toInt_sshiftRight, IntKind.bits]
  congr 2
  rw [Int.shiftRight_eq_div_pow, Int.fdiv_eq_ediv_of_nonneg _ (Int.le_of_lt (Int.pow_pos (by omega)))]
  rcases Nat.le_total b.toNat 64 with hb | hb
  · rw [Nat.min_eq_left hb]; simp
  · rw [Nat.min_eq_right hb]
    have h1 := x.toInt_lt
    have h2 := x.le_toInt
    have h3 : (2 : Nat) ^ 64 ≤ 2 ^ b.toNat := Nat.pow_le_pow_right (by omega) hb
    have h4 : ((2 : Nat) ^ b.toNat : Int) = (2 : Int) ^ b.toNat := by simp
    by_cases hx : 0 ≤ x.toInt
    · rw [Int.ediv_eq_zero_of_lt hx (by omega), Int.ediv_eq_zero_of_lt hx (by omega)]
    · have e1 : x.toInt / (2 : Int) ^ 64 = -1 := by omega
      have e2 : x.toInt / (((2 : Nat) ^ b.toNat : Nat) : Int) = -1 := by
        apply Int.ediv_eq_neg_one_of_neg_of_le <;> omega
      rw [e1, e2]
theorem toInt_range (x : BitVec 64) : -9223372036854775808 ≤ x.toInt ∧ x.toInt ≤ 9223372036854775807 := by
  have h1 := x.toInt_lt
  have h2 := x.le_toInt
  omega
theorem int_bv {n : Int} (h1 : -9223372036854775808 ≤ n) (h2 : n ≤ 9223372036854775807) : ∃ x : BitVec 64, n = x.toInt :=
  ⟨BitVec.ofInt 64 n, by rw [← wrap_i64_ofInt, wrap_i64 h1 h2]⟩
theorem beq_u64 (x : BitVec 64) (n : Nat) (h : n < 2 ^ 64) : ((x.toNat : Int) == (n : Int)) = (x == BitVec.ofNat 64 n) := by
  rw [Bool.eq_iff_iff, beq_iff_eq, beq_iff_eq, Int.natCast_inj]
  constructor
  · intro e; apply BitVec.eq_of_toNat_eq; rw [BitVec.toNat_ofNat, Nat.mod_eq_of_lt h, e]
  · intro e; rw [e, BitVec.toNat_ofNat, Nat.mod_eq_of_lt h]
theorem beq1_64 (x : BitVec 64) : ((x.toNat : Int) == 1) = (x == 1#64) := beq_u64 x 1 (by omega)
theorem beq0_64 (x : BitVec 64) : ((x.toNat : Int) == 0) = (x == 0#64) := beq_u64 x 0 (by omega)
theorem cast_lt_lit (n m : Nat) : ((n : Int) < (no_index (OfNat.ofNat m : Int))) = (n < @OfNat.ofNat Nat m (instOfNatNat m)) := by
  apply propext; exact Int.ofNat_lt
theorem cast_le_lit (n m : Nat) : ((n : Int) ≤ (no_index (OfNat.ofNat m : Int))) = (n ≤ @OfNat.ofNat Nat m (instOfNatNat m)) := by
  apply propext; exact Int.ofNat_le
theorem lit_lt_cast (n m : Nat) : ((no_index (OfNat.ofNat m : Int)) < (n : Int)) = (@OfNat.ofNat Nat m (instOfNatNat m) < n) := by
  apply propext; exact Int.ofNat_lt
theorem lit_le_cast (n m : Nat) : ((no_index (OfNat.ofNat m : Int)) ≤ (n : Int)) = (@OfNat.ofNat Nat m (instOfNatNat m) ≤ n) := by
  apply propext; exact Int.ofNat_le
theorem bi_eql (k : IntKind) (a b : Int) : binInt .eql k a b = some (.bool (a == b)) := rfl
theorem bi_neq (k : IntKind) (a b : Int) : binInt .neq k a b = some (.bool (a != b)) := rfl
theorem bi_lss (k : IntKind) (a b : Int) : binInt .lss k a b = some (.bool (a < b)) := rfl
theorem bi_leq (k : IntKind) (a b : Int) : binInt .leq k a b = some (.bool (a ≤ b)) := rfl
theorem bi_gtr (k : IntKind) (a b : Int) : binInt .gtr k a b = some (.bool (a > b)) := rfl
theorem bi_geq (k : IntKind) (a b : Int) : binInt .geq k a b = some (.bool (a ≥ b)) := rfl
theorem bi_add64 (a b : Int) : binInt .add .i64 a b = some (.int .i64 (IntKind.wrap .i64 (a + b))) := rfl
theorem bi_sub64 (a b : Int) : binInt .sub .i64 a b = some (.int .i64 (IntKind.wrap .i64 (a - b))) := rfl
theorem bi_mul64 (a b : Int) : binInt .mul .i64 a b = some (.int .i64 (IntKind.wrap .i64 (a * b))) := rfl
theorem bs_eql (a b : List UInt8) : binStr .eql a b = some (.bool (a == b)) := rfl
theorem bs_neq (a b : List UInt8) : binStr .neq a b = some (.bool (!(a == b))) := rfl
theorem bs_add {a b : List UInt8} (h : a.length + b.length ≤ LIM) : binStr .add a b = some (.str (a ++ b)) := by simp [binStr, h]
theorem bytesAV_length (l : List UInt8) : (bytesAV l).length = l.length := by simp [bytesAV]
theorem bytesAV_take (l : List UInt8) : (bytesAV l).take l.length = bytesAV l := by rw [← bytesAV_length, List.take_length]
theorem bytesAV_get {l : List UInt8} {i : Nat} (h : i < l.length) : (bytesAV l)[i]? = some (.int .u8 (l[i].toBitVec.toNat : Int)) := by
  rw [bytesAV, List.getElem?_map, List.getElem?_eq_getElem h]; rfl
theorem bytesOf_bytesAV : ∀ (l : List UInt8), bytesOf (bytesAV l) = some l
  | [] => rfl
  | b :: l => by
    have e : bytesAV (b :: l) = .int .u8 b.toNat :: bytesAV l := rfl
    rw [e, bytesOf, byteOf, bytesOf_bytesAV l]
    simp
end Go.Ev
