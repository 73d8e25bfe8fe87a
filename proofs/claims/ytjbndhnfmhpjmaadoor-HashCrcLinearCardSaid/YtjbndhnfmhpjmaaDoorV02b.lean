/-
  The laws of the check: the first ones. No condition.
-/
import Derived.Test.YtjbndhnfmhpjmaaDoorV02m
namespace Go.Proofs.S02
open Go Go.Ev Go.Proofs
variable {w : Bool}
set_option linter.unusedSimpArgs false
set_option linter.unusedVariables false
/-- The check. -/
def crcF (l : List UInt8) : BitVec 64 := refF M40 l ^^^ M40
theorem w40_crc (l : List UInt8) : W40 (crcF l) := w40_xor (w40_ref _ (by unfold W40; decide) l) (by unfold W40; decide)
theorem crc_ok (d : Nat) (nb : Bool) (l : List UInt8) (hl : l.length < 2 ^ 36) : call (gl w) tab (d+4) 16 [.lst nb .sc (bytesAV l)] [] = some (i64 (crcF l).toInt, [], []) := by
  rw [crc40_ok d nb l hl, add_ref _ (by unfold W40; decide)]; rfl
theorem cref_ok (d : Nat) (nb : Bool) (l : List UInt8) (hl : l.length < 2 ^ 36) : call (gl w) tab (d+2) 17 [.lst nb .sc (bytesAV l)] [] = some (i64 (crcF l).toInt, [], []) := ref_ok d nb l hl
theorem w40_lt {r : BitVec 64} (h : W40 r) : r.toNat < 1099511627776 := by
  unfold W40 at h
  rw [← h, BitVec.toNat_and]
  exact Nat.lt_of_le_of_lt Nat.and_le_right (by decide)
theorem w40_int {r : BitVec 64} (h : W40 r) : 0 ≤ r.toInt ∧ r.toInt < 1099511627776 := by
  have := w40_lt h
  rw [BitVec.toInt_eq_toNat_of_lt (by omega)]
  omega
/-- Bytes are bytes. -/
theorem bytes_of : ∀ {l : List AV}, (∀ x ∈ l, HasKd (.int .u8) x) → ∃ b : List UInt8, l = bytesAV b
  | [], _ => ⟨[], rfl⟩
  | a :: l, h => by
    obtain ⟨n, rfl, h1, h2⟩ := h a (by simp)
    obtain ⟨b, rfl⟩ := bytes_of (l := l) fun x hx => h x (by simp [hx])
    simp only [IntKind.min, IntKind.max, IntKind.signed, IntKind.bits, Bool.false_eq_true, if_false] at h1 h2
    refine ⟨UInt8.ofNat n.toNat :: b, ?_⟩
    show _ = AV.int .u8 ((UInt8.ofNat n.toNat).toNat : Int) :: bytesAV b
    rw [UInt8.toNat_ofNat_of_lt' (by show n.toNat < 256; omega)]
    congr 2; omega
theorem crc_at {n : Nat} (h : 4 ≤ n) (nb : Bool) {l : List UInt8} (hl : l.length < 2 ^ 36) : call (gl w) tab n 16 [.lst nb .sc (bytesAV l)] [] = some (i64 (crcF l).toInt, [], []) := by
  obtain ⟨d, rfl⟩ := Nat.exists_eq_add_of_le' h
  exact crc_ok d nb l hl
theorem cref_at {n : Nat} (h : 2 ≤ n) (nb : Bool) {l : List UInt8} (hl : l.length < 2 ^ 36) : call (gl w) tab n 17 [.lst nb .sc (bytesAV l)] [] = some (i64 (crcF l).toInt, [], []) := by
  obtain ⟨d, rfl⟩ := Nat.exists_eq_add_of_le' h
  exact cref_ok d nb l hl
theorem law3 {n : Nat} (hn : 20 ≤ n) (c15 : call (gl w) tab n 15 [] [] = some (.bool true, [], [])) (ar : List AV) (h : HasKds [.sl (.int .u8)] ar) : call (gl w) tab (n + 1) 3 ar [] = some (.bool true, [], []) := by
  obtain ⟨a, r, rfl, ⟨x, rfl, hx, hb⟩, rfl⟩ := h
  obtain ⟨l, rfl⟩ := bytes_of hb
  rw [bytesAV_length] at hx
  have c16 := @crc_at w n (by omega)
  have c17 := @cref_at w n (by omega)
  rw [call_go (fd := fd3) rfl]
  simp only [Kd.sh, fd3, m3, go_sem, reduceIte, Nat.reduceEqDiff, Nat.reduceAdd, Nat.reduceSub, Nat.reduceMul, Nat.reduceDiv, Nat.reduceMod, Nat.reduceLT, Nat.reduceLeDiff, Nat.reduceBEq, Nat.reduceBNe, Int.reduceLE, Int.reduceLT, Int.reduceToNat, Int.reduceEq, Int.reduceBEq, Int.reduceBNe, Int.reduceNeg, Int.reduceSub, Int.reduceMul, Int.reduceAdd, BitVec.reduceOfInt, reduceCtorEq, ↓reduceIte, c15]
  by_cases h : 600 < l.length
  · simp only [go_sem, reduceIte, Nat.reduceEqDiff, Nat.reduceAdd, Nat.reduceSub, Nat.reduceMul, Nat.reduceDiv, Nat.reduceMod, Nat.reduceLT, Nat.reduceLeDiff, Nat.reduceBEq, Nat.reduceBNe, Int.reduceLE, Int.reduceLT, Int.reduceToNat, Int.reduceEq, Int.reduceBEq, Int.reduceBNe, Int.reduceNeg, Int.reduceSub, Int.reduceMul, Int.reduceAdd, BitVec.reduceOfInt, reduceCtorEq, ↓reduceIte, h]
  · have hw := w40_int (w40_crc l)
    have hL : l.length ≤ LIM := by unfold LIM; omega
    simp only [go_sem, reduceIte, Nat.reduceEqDiff, Nat.reduceAdd, Nat.reduceSub, Nat.reduceMul, Nat.reduceDiv, Nat.reduceMod, Nat.reduceLT, Nat.reduceLeDiff, Nat.reduceBEq, Nat.reduceBNe, Int.reduceLE, Int.reduceLT, Int.reduceToNat, Int.reduceEq, Int.reduceBEq, Int.reduceBNe, Int.reduceNeg, Int.reduceSub, Int.reduceMul, Int.reduceAdd, BitVec.reduceOfInt, reduceCtorEq, ↓reduceIte, h, c16, c17, hL, show l.length < 2 ^ 36 by omega, hw]
end Go.Proofs.S02
