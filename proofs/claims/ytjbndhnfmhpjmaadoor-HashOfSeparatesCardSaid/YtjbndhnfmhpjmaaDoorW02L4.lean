/-
  The law of checks that are continued. No condition.
-/
import Derived.Test.YtjbndhnfmhpjmaaDoorW02D
namespace Go.Proofs.S02
open Go Go.Ev Go.Proofs
variable {w : Bool}
set_option linter.unusedSimpArgs false
set_option linter.unusedVariables false
/-- Texts. -/
def strsAV (l : List (List UInt8)) : List AV := l.map fun x => .str x
theorem strsAV_length (l : List (List UInt8)) : (strsAV l).length = l.length := by simp [strsAV]
theorem strsAV_get {l : List (List UInt8)} {i : Nat} (h : i < l.length) : (strsAV l)[i]? = some (.str l[i]) := by
  rw [strsAV, List.getElem?_map, List.getElem?_eq_getElem h]; rfl
theorem strsAV_take (l : List (List UInt8)) (k : Nat) : (strsAV l).take k = strsAV (l.take k) := by simp [strsAV, List.map_take]
theorem strs_of : ∀ {l : List AV}, (∀ x ∈ l, HasKd .str x) → ∃ b : List (List UInt8), l = strsAV b
  | [], _ => ⟨[], rfl⟩
  | a :: l, h => by
    obtain ⟨x, rfl, _⟩ := h a (by simp)
    obtain ⟨b, rfl⟩ := strs_of (l := l) fun x hx => h x (by simp [hx])
    exact ⟨x :: b, rfl⟩
/-- Few and short. -/
def Few (l : List (List UInt8)) : Prop := l.length ≤ 12 ∧ ∀ x ∈ l, x.length ≤ 400
theorem few_get {l : List (List UInt8)} (h : Few l) {i : Nat} (hi : i < l.length) : l[i].length ≤ 400 := h.2 _ (List.getElem_mem hi)
theorem few_take {l : List (List UInt8)} (h : Few l) (k : Nat) : Few (l.take k) :=
  ⟨by rw [List.length_take]; have := h.1; omega, fun x hx => h.2 x (List.mem_of_mem_take hx)⟩
theorem few_flat : ∀ {l : List (List UInt8)}, (∀ x ∈ l, x.length ≤ 400) → l.flatten.length ≤ 400 * l.length
  | [], _ => by simp
  | x :: l, h => by
    have h1 := h x (by simp)
    have h2 := few_flat (l := l) fun y hy => h y (by simp [hy])
    simp only [List.flatten_cons, List.length_append, List.length_cons]; omega
theorem few_len {l : List (List UInt8)} (h : Few l) : l.flatten.length ≤ 4800 := by
  have h1 := few_flat h.2; have h2 := h.1; omega
def S18 (nb : Bool) (l : List (List UInt8)) (i : Nat) : St := ⟨[.set 3 (.int .i64 i), .set 0 (.lst nb .sc (strsAV l))], []⟩
theorem few_true (d : Nat) (nb : Bool) (l : List (List UInt8)) (h : Few l) : call (gl w) tab (d+1) 18 [.lst nb .sc (strsAV l)] [] = some (.bool true, [], []) := by
  have h12 : ¬ 12 < l.length := by have := h.1; omega
  rw [call_go (fd := fd18) rfl]
  simp only [fd18, m18, go_sem, reduceIte, Nat.reduceEqDiff, Nat.reduceAdd, Nat.reduceSub, Nat.reduceMul, Nat.reduceDiv, Nat.reduceMod, Nat.reduceLT, Nat.reduceLeDiff, Nat.reduceBEq, Nat.reduceBNe, Int.reduceLE, Int.reduceLT, Int.reduceToNat, Int.reduceEq, Int.reduceBEq, Int.reduceBNe, Int.reduceNeg, Int.reduceSub, Int.reduceMul, Int.reduceAdd, BitVec.reduceOfInt, reduceCtorEq, ↓reduceIte, strsAV_length, h12]
  rw [iter_to (S18 nb l) l.length (by unfold LF; have := h.1; omega)]
  · simp only [S18, go_sem, reduceIte, Nat.reduceEqDiff, Nat.reduceAdd, Nat.reduceSub, Nat.reduceMul, Nat.reduceDiv, Nat.reduceMod, Nat.reduceLT, Nat.reduceLeDiff, Nat.reduceBEq, Nat.reduceBNe, Int.reduceLE, Int.reduceLT, Int.reduceToNat, Int.reduceEq, Int.reduceBEq, Int.reduceBNe, Int.reduceNeg, Int.reduceSub, Int.reduceMul, Int.reduceAdd, BitVec.reduceOfInt, reduceCtorEq, ↓reduceIte, strsAV_length]
  · simp only [S18, go_sem, reduceIte, Nat.reduceEqDiff, Nat.reduceAdd, Nat.reduceSub, Nat.reduceMul, Nat.reduceDiv, Nat.reduceMod, Nat.reduceLT, Nat.reduceLeDiff, Nat.reduceBEq, Nat.reduceBNe, Int.reduceLE, Int.reduceLT, Int.reduceToNat, Int.reduceEq, Int.reduceBEq, Int.reduceBNe, Int.reduceNeg, Int.reduceSub, Int.reduceMul, Int.reduceAdd, BitVec.reduceOfInt, reduceCtorEq, ↓reduceIte]
  · intro i hi
    have h4 : ¬ 400 < l[i].length := by have := few_get h hi; omega
    have h2 := h.1
    simp only [S18, go_sem, reduceIte, Nat.reduceEqDiff, Nat.reduceAdd, Nat.reduceSub, Nat.reduceMul, Nat.reduceDiv, Nat.reduceMod, Nat.reduceLT, Nat.reduceLeDiff, Nat.reduceBEq, Nat.reduceBNe, Int.reduceLE, Int.reduceLT, Int.reduceToNat, Int.reduceEq, Int.reduceBEq, Int.reduceBNe, Int.reduceNeg, Int.reduceSub, Int.reduceMul, Int.reduceAdd, BitVec.reduceOfInt, reduceCtorEq, ↓reduceIte, hi, strsAV_length, strsAV_get hi, h4, wrap_succ (show i < 2 ^ 62 by omega)]
  · simp only [S18, go_sem, reduceIte, Nat.reduceEqDiff, Nat.reduceAdd, Nat.reduceSub, Nat.reduceMul, Nat.reduceDiv, Nat.reduceMod, Nat.reduceLT, Nat.reduceLeDiff, Nat.reduceBEq, Nat.reduceBNe, Int.reduceLE, Int.reduceLT, Int.reduceToNat, Int.reduceEq, Int.reduceBEq, Int.reduceBNe, Int.reduceNeg, Int.reduceSub, Int.reduceMul, Int.reduceAdd, BitVec.reduceOfInt, reduceCtorEq, ↓reduceIte, strsAV_length]
theorem few_false (d : Nat) (nb : Bool) (l : List (List UInt8)) (h : ¬ Few l) : call (gl w) tab (d+1) 18 [.lst nb .sc (strsAV l)] [] = some (.bool false, [], []) := by
  rw [call_go (fd := fd18) rfl]
  by_cases h12 : 12 < l.length
  · simp only [fd18, m18, go_sem, reduceIte, Nat.reduceEqDiff, Nat.reduceAdd, Nat.reduceSub, Nat.reduceMul, Nat.reduceDiv, Nat.reduceMod, Nat.reduceLT, Nat.reduceLeDiff, Nat.reduceBEq, Nat.reduceBNe, Int.reduceLE, Int.reduceLT, Int.reduceToNat, Int.reduceEq, Int.reduceBEq, Int.reduceBNe, Int.reduceNeg, Int.reduceSub, Int.reduceMul, Int.reduceAdd, BitVec.reduceOfInt, reduceCtorEq, ↓reduceIte, strsAV_length, h12]
  · have hp : ∃ x ∈ l, decide (400 < x.length) = true := by
      by_cases hq : ∀ x ∈ l, x.length ≤ 400
      · exact absurd ⟨by omega, hq⟩ h
      · have ⟨x, hx⟩ := Classical.not_forall.1 hq
        have ⟨h1, h2⟩ := Classical.not_imp.1 hx
        exact ⟨x, h1, decide_eq_true (by omega)⟩
    have hN := List.findIdx_lt_length_of_exists hp
    simp only [fd18, m18, go_sem, reduceIte, Nat.reduceEqDiff, Nat.reduceAdd, Nat.reduceSub, Nat.reduceMul, Nat.reduceDiv, Nat.reduceMod, Nat.reduceLT, Nat.reduceLeDiff, Nat.reduceBEq, Nat.reduceBNe, Int.reduceLE, Int.reduceLT, Int.reduceToNat, Int.reduceEq, Int.reduceBEq, Int.reduceBNe, Int.reduceNeg, Int.reduceSub, Int.reduceMul, Int.reduceAdd, BitVec.reduceOfInt, reduceCtorEq, ↓reduceIte, strsAV_length, h12]
    rw [iter_to (S18 nb l) (l.findIdx fun x => decide (400 < x.length)) (by unfold LF; omega)]
    · have hbad := of_decide_eq_true (List.findIdx_getElem (w := hN))
      simp only [S18, go_sem, reduceIte, Nat.reduceEqDiff, Nat.reduceAdd, Nat.reduceSub, Nat.reduceMul, Nat.reduceDiv, Nat.reduceMod, Nat.reduceLT, Nat.reduceLeDiff, Nat.reduceBEq, Nat.reduceBNe, Int.reduceLE, Int.reduceLT, Int.reduceToNat, Int.reduceEq, Int.reduceBEq, Int.reduceBNe, Int.reduceNeg, Int.reduceSub, Int.reduceMul, Int.reduceAdd, BitVec.reduceOfInt, reduceCtorEq, ↓reduceIte, strsAV_length, hN, strsAV_get hN, hbad]
    · simp only [S18, go_sem, reduceIte, Nat.reduceEqDiff, Nat.reduceAdd, Nat.reduceSub, Nat.reduceMul, Nat.reduceDiv, Nat.reduceMod, Nat.reduceLT, Nat.reduceLeDiff, Nat.reduceBEq, Nat.reduceBNe, Int.reduceLE, Int.reduceLT, Int.reduceToNat, Int.reduceEq, Int.reduceBEq, Int.reduceBNe, Int.reduceNeg, Int.reduceSub, Int.reduceMul, Int.reduceAdd, BitVec.reduceOfInt, reduceCtorEq, ↓reduceIte]
    · intro i hi
      have hi' : i < l.length := by omega
      have h4 : ¬ 400 < l[i].length := by
        have := List.not_of_lt_findIdx hi
        simpa using this
      simp only [S18, go_sem, reduceIte, Nat.reduceEqDiff, Nat.reduceAdd, Nat.reduceSub, Nat.reduceMul, Nat.reduceDiv, Nat.reduceMod, Nat.reduceLT, Nat.reduceLeDiff, Nat.reduceBEq, Nat.reduceBNe, Int.reduceLE, Int.reduceLT, Int.reduceToNat, Int.reduceEq, Int.reduceBEq, Int.reduceBNe, Int.reduceNeg, Int.reduceSub, Int.reduceMul, Int.reduceAdd, BitVec.reduceOfInt, reduceCtorEq, ↓reduceIte, hi', strsAV_length, strsAV_get hi', h4, wrap_succ (show i < 2 ^ 62 by omega)]
    · have hbad := of_decide_eq_true (List.findIdx_getElem (w := hN))
      simp only [S18, go_sem, reduceIte, Nat.reduceEqDiff, Nat.reduceAdd, Nat.reduceSub, Nat.reduceMul, Nat.reduceDiv, Nat.reduceMod, Nat.reduceLT, Nat.reduceLeDiff, Nat.reduceBEq, Nat.reduceBNe, Int.reduceLE, Int.reduceLT, Int.reduceToNat, Int.reduceEq, Int.reduceBEq, Int.reduceBNe, Int.reduceNeg, Int.reduceSub, Int.reduceMul, Int.reduceAdd, BitVec.reduceOfInt, reduceCtorEq, ↓reduceIte, strsAV_length, hN, strsAV_get hN, hbad]
def S21 (nb : Bool) (l : List (List UInt8)) (i : Nat) : St := ⟨[.set 4 (.int .i64 i), .set 3 (.str (l.take i).flatten), .set 0 (.lst nb .sc (strsAV l))], []⟩
theorem flat_snoc (l : List (List UInt8)) (i : Nat) (h : i < l.length) : (l.take (i + 1)).flatten = (l.take i).flatten ++ l[i] := by
  rw [List.take_succ_eq_append_getElem h, List.flatten_append]; simp
theorem joined_ok (d : Nat) (nb : Bool) (l : List (List UInt8)) (h : Few l) : call (gl w) tab (d+1) 21 [.lst nb .sc (strsAV l)] [] = some (.str l.flatten, [], []) := by
  rw [call_go (fd := fd21) rfl]
  simp only [fd21, m21, go_sem, reduceIte, Nat.reduceEqDiff, Nat.reduceAdd, Nat.reduceSub, Nat.reduceMul, Nat.reduceDiv, Nat.reduceMod, Nat.reduceLT, Nat.reduceLeDiff, Nat.reduceBEq, Nat.reduceBNe, Int.reduceLE, Int.reduceLT, Int.reduceToNat, Int.reduceEq, Int.reduceBEq, Int.reduceBNe, Int.reduceNeg, Int.reduceSub, Int.reduceMul, Int.reduceAdd, BitVec.reduceOfInt, reduceCtorEq, ↓reduceIte]
  rw [iter_to (S21 nb l) l.length (by unfold LF; have := h.1; omega)]
  · simp only [S21, go_sem, reduceIte, Nat.reduceEqDiff, Nat.reduceAdd, Nat.reduceSub, Nat.reduceMul, Nat.reduceDiv, Nat.reduceMod, Nat.reduceLT, Nat.reduceLeDiff, Nat.reduceBEq, Nat.reduceBNe, Int.reduceLE, Int.reduceLT, Int.reduceToNat, Int.reduceEq, Int.reduceBEq, Int.reduceBNe, Int.reduceNeg, Int.reduceSub, Int.reduceMul, Int.reduceAdd, BitVec.reduceOfInt, reduceCtorEq, ↓reduceIte, strsAV_length, List.take_length]
  · simp only [S21, go_sem, reduceIte, Nat.reduceEqDiff, Nat.reduceAdd, Nat.reduceSub, Nat.reduceMul, Nat.reduceDiv, Nat.reduceMod, Nat.reduceLT, Nat.reduceLeDiff, Nat.reduceBEq, Nat.reduceBNe, Int.reduceLE, Int.reduceLT, Int.reduceToNat, Int.reduceEq, Int.reduceBEq, Int.reduceBNe, Int.reduceNeg, Int.reduceSub, Int.reduceMul, Int.reduceAdd, BitVec.reduceOfInt, reduceCtorEq, ↓reduceIte, List.flatten_nil]
  · intro i hi
    have h1 := few_len (few_take h i)
    have h2 := few_get h hi
    have h3 := h.1
    have hL : (l.take i).flatten.length + l[i].length ≤ LIM := by unfold LIM; omega
    simp only [S21, go_sem, reduceIte, Nat.reduceEqDiff, Nat.reduceAdd, Nat.reduceSub, Nat.reduceMul, Nat.reduceDiv, Nat.reduceMod, Nat.reduceLT, Nat.reduceLeDiff, Nat.reduceBEq, Nat.reduceBNe, Int.reduceLE, Int.reduceLT, Int.reduceToNat, Int.reduceEq, Int.reduceBEq, Int.reduceBNe, Int.reduceNeg, Int.reduceSub, Int.reduceMul, Int.reduceAdd, BitVec.reduceOfInt, reduceCtorEq, ↓reduceIte, hi, strsAV_length, strsAV_get hi, hL, flat_snoc _ _ hi, wrap_succ (show i < 2 ^ 62 by omega)]
  · simp only [S21, go_sem, reduceIte, Nat.reduceEqDiff, Nat.reduceAdd, Nat.reduceSub, Nat.reduceMul, Nat.reduceDiv, Nat.reduceMod, Nat.reduceLT, Nat.reduceLeDiff, Nat.reduceBEq, Nat.reduceBNe, Int.reduceLE, Int.reduceLT, Int.reduceToNat, Int.reduceEq, Int.reduceBEq, Int.reduceBNe, Int.reduceNeg, Int.reduceSub, Int.reduceMul, Int.reduceAdd, BitVec.reduceOfInt, reduceCtorEq, ↓reduceIte, strsAV_length]
theorem add_at {n : Nat} (h : 2 ≤ n) (r : BitVec 64) (l : List UInt8) (hl : l.length < 2 ^ 62) : call (gl w) tab n 20 [.agg [u64 r], .str l] [] = some (.agg [u64 (addF r l)], [], []) := by
  obtain ⟨d, rfl⟩ := Nat.exists_eq_add_of_le' h
  exact add_ok d r l hl
theorem begin_at {n : Nat} (h : 1 ≤ n) : call (gl w) tab n 19 [] [] = some (.agg [u64 M40], [], []) := by
  obtain ⟨d, rfl⟩ := Nat.exists_eq_add_of_le' h
  exact begin_ok d
theorem value_at {n : Nat} (h : 1 ≤ n) (r : BitVec 64) : call (gl w) tab n 22 [.agg [u64 r]] [] = some (i64 (r ^^^ M40).toInt, [], []) := by
  obtain ⟨d, rfl⟩ := Nat.exists_eq_add_of_le' h
  exact value_ok d r
theorem few_t {n : Nat} (h : 1 ≤ n) (nb : Bool) {l : List (List UInt8)} (hl : Few l) : call (gl w) tab n 18 [.lst nb .sc (strsAV l)] [] = some (.bool true, [], []) := by
  obtain ⟨d, rfl⟩ := Nat.exists_eq_add_of_le' h
  exact few_true d nb l hl
theorem few_f {n : Nat} (h : 1 ≤ n) (nb : Bool) {l : List (List UInt8)} (hl : ¬ Few l) : call (gl w) tab n 18 [.lst nb .sc (strsAV l)] [] = some (.bool false, [], []) := by
  obtain ⟨d, rfl⟩ := Nat.exists_eq_add_of_le' h
  exact few_false d nb l hl
theorem joined_at {n : Nat} (h : 1 ≤ n) (nb : Bool) {l : List (List UInt8)} (hl : Few l) : call (gl w) tab n 21 [.lst nb .sc (strsAV l)] [] = some (.str l.flatten, [], []) := by
  obtain ⟨d, rfl⟩ := Nat.exists_eq_add_of_le' h
  exact joined_ok d nb l hl
theorem addF_cat (r : BitVec 64) (a b : List UInt8) : addF r (a ++ b) = addF (addF r a) b := by simp only [addF, List.foldl_append]
/-- The register after so many pieces. -/
def pcs (l : List (List UInt8)) (i : Nat) : BitVec 64 := addF M40 (l.take i).flatten
theorem pcs_succ (l : List (List UInt8)) (i : Nat) (h : i < l.length) : addF (pcs l i) l[i] = pcs l (i + 1) := by rw [pcs, pcs, flat_snoc _ _ h, addF_cat]
theorem pcs_crc (l : List (List UInt8)) (i : Nat) : pcs l i ^^^ M40 = crcF (l.take i).flatten := by rw [pcs, add_ref _ w40M]; rfl
theorem pcs_fork (l : List (List UInt8)) (i : Nat) (o : List UInt8) : addF (pcs l i) o ^^^ M40 = crcF ((l.take i).flatten ++ o) := by rw [pcs, ← addF_cat, add_ref _ w40M]; rfl
def reg (k : Nat) (r : BitVec 64) : Nat × OB := (k, .fix (.st [.sc]) (.agg [.int .u64 (r.toNat : Int)]))
def S4 (l : List (List UInt8)) (o : List UInt8) (k : Nat) (i : Nat) : St :=
  ⟨[.set 10 (.int .i64 i), .set 9 (.ptr 9 []), .set 8 (.int .i64 k), .set 7 (.bool true), .set 1 (.str o), .set 0 (.lst false .sc (strsAV l))], [reg 9 (pcs l i)]⟩
def S4b (l : List (List UInt8)) (o : List UInt8) (k : Nat) (i : Nat) : St :=
  ⟨[.set 12 (.int .i64 i), .set 11 (.ptr 11 []), .set 9 (.ptr 9 []), .set 8 (.int .i64 k), .set 7 (.bool true), .set 1 (.str o), .set 0 (.lst false .sc (strsAV l))], [reg 11 (pcs l k), reg 9 (pcs l i)]⟩
theorem byte_of {a : AV} (h : HasKd (.int .u8) a) : ∃ x : Nat, a = .int .u8 (x : Int) ∧ x < 256 := by
  obtain ⟨n, rfl, h1, h2⟩ := h
  simp only [IntKind.min, IntKind.max, IntKind.signed, IntKind.bits, Bool.false_eq_true, if_false] at h1 h2
  exact ⟨n.toNat, by congr 1; omega, by omega⟩
theorem rem_nat (a b : Nat) (h : 0 < b) : binInt .rem .i64 (a : Int) (b : Int) = some (.int .i64 ((a % b : Nat) : Int)) := by
  have hb : ¬ ((b : Int) = 0) := by omega
  simp only [binInt, hb, if_false]; rfl
theorem bn_not (b : Bool) : (AV.bool (!b)) = .bool (!b) := rfl
theorem law4 {n : Nat} (hn : 20 ≤ n) (c15 : call (gl w) tab n 15 [] [] = some (.bool true, [], [])) (ar : List AV) (h : HasKds [.sl .str, .str, .int .u8] ar) : call (gl w) tab (n + 1) 4 ar [] = some (.bool true, [], []) := by
  obtain ⟨_, _, rfl, ⟨x, rfl, -, ha⟩, _, _, rfl, ⟨o, rfl, ho⟩, _, _, rfl, hc, rfl⟩ := h
  obtain ⟨l, rfl⟩ := strs_of ha
  obtain ⟨t, rfl, ht⟩ := byte_of hc
  clear ha hc
  have c16 := @crc_at w n (by omega)
  have c18f := @few_f w n (by omega)
  have c18t := @few_t w n (by omega)
  have c19 := @begin_at w n (by omega)
  have c20 := @add_at w n (by omega)
  have c21 := @joined_at w n (by omega)
  have c22 := @value_at w n (by omega)
  rw [call_go (fd := fd4) rfl]
  by_cases hf : Few l
  case neg => simp only [Kd.sh, fd4, m4, go_sem, reduceIte, Nat.reduceEqDiff, Nat.reduceAdd, Nat.reduceSub, Nat.reduceMul, Nat.reduceDiv, Nat.reduceMod, Nat.reduceLT, Nat.reduceLeDiff, Nat.reduceBEq, Nat.reduceBNe, Int.reduceLE, Int.reduceLT, Int.reduceToNat, Int.reduceEq, Int.reduceBEq, Int.reduceBNe, Int.reduceNeg, Int.reduceSub, Int.reduceMul, Int.reduceAdd, BitVec.reduceOfInt, reduceCtorEq, ↓reduceIte, c15, c18f false hf]
  by_cases h4 : 400 < o.length
  · simp only [Kd.sh, fd4, m4, go_sem, reduceIte, Nat.reduceEqDiff, Nat.reduceAdd, Nat.reduceSub, Nat.reduceMul, Nat.reduceDiv, Nat.reduceMod, Nat.reduceLT, Nat.reduceLeDiff, Nat.reduceBEq, Nat.reduceBNe, Int.reduceLE, Int.reduceLT, Int.reduceToNat, Int.reduceEq, Int.reduceBEq, Int.reduceBNe, Int.reduceNeg, Int.reduceSub, Int.reduceMul, Int.reduceAdd, BitVec.reduceOfInt, reduceCtorEq, ↓reduceIte, c15, c18t false hf, h4]
  have hl := hf.1
  have hw1 : IntKind.wrap .i64 (t : Int) = (t : Int) := wrap_i64 (by omega) (by omega)
  have hw2 : IntKind.wrap .i64 ((l.length : Int) + 1) = ((l.length + 1 : Nat) : Int) := wrap_succ (by omega)
  simp only [Kd.sh, fd4, m4, go_sem, reduceIte, Nat.reduceEqDiff, Nat.reduceAdd, Nat.reduceSub, Nat.reduceMul, Nat.reduceDiv, Nat.reduceMod, Nat.reduceLT, Nat.reduceLeDiff, Nat.reduceBEq, Nat.reduceBNe, Int.reduceLE, Int.reduceLT, Int.reduceToNat, Int.reduceEq, Int.reduceBEq, Int.reduceBNe, Int.reduceNeg, Int.reduceSub, Int.reduceMul, Int.reduceAdd, BitVec.reduceOfInt, reduceCtorEq, ↓reduceIte, c15, c18t false hf, h4, strsAV_length, hw1, hw2, rem_nat _ _ (Nat.succ_pos l.length), c19]
  have hk : t % (l.length + 1) < l.length + 1 := Nat.mod_lt _ (by omega)
  generalize t % (l.length + 1) = k at *
  rw [iter_to (S4 l o k) k (by unfold LF; omega)]
  · simp only [S4, reg, go_sem, reduceIte, Nat.reduceEqDiff, Nat.reduceAdd, Nat.reduceSub, Nat.reduceMul, Nat.reduceDiv, Nat.reduceMod, Nat.reduceLT, Nat.reduceLeDiff, Nat.reduceBEq, Nat.reduceBNe, Int.reduceLE, Int.reduceLT, Int.reduceToNat, Int.reduceEq, Int.reduceBEq, Int.reduceBNe, Int.reduceNeg, Int.reduceSub, Int.reduceMul, Int.reduceAdd, BitVec.reduceOfInt, reduceCtorEq, ↓reduceIte]
    have hkL : k + (l.length - k) = l.length := by omega
    rw [iter_to (fun i => S4b l o k (k + i)) (l.length - k) (by unfold LF; omega)]
    · have hkl : k ≤ l.length := by omega
      have hft := few_take hf k
      have q1 := few_len hf
      have q2 := few_len hft
      have r1 : l.flatten.length ≤ LIM := by unfold LIM; omega
      have r2 : (l.take k).flatten.length ≤ LIM := by unfold LIM; omega
      have r3 : (l.take k).flatten.length + o.length ≤ LIM := by unfold LIM; omega
      have r4 : ((l.take k).flatten ++ o).length < 2 ^ 36 := by rw [List.length_append]; omega
      rw [List.length_append] at r4
      have t1 := bytesAV_take' (l := (l.take k).flatten ++ o) (List.length_append)
      simp only [S4b, reg, go_sem, reduceIte, Nat.reduceEqDiff, Nat.reduceAdd, Nat.reduceSub, Nat.reduceMul, Nat.reduceDiv, Nat.reduceMod, Nat.reduceLT, Nat.reduceLeDiff, Nat.reduceBEq, Nat.reduceBNe, Int.reduceLE, Int.reduceLT, Int.reduceToNat, Int.reduceEq, Int.reduceBEq, Int.reduceBNe, Int.reduceNeg, Int.reduceSub, Int.reduceMul, Int.reduceAdd, BitVec.reduceOfInt, reduceCtorEq, ↓reduceIte, hkL, strsAV_length, c20 _ _ (show o.length < 2 ^ 62 by omega), c21 false hf, hkl, strsAV_take, c21 false hft, c22, pcs_crc, pcs_fork, List.take_length, r1, r2, r3, r4, c16, t1, show l.flatten.length < 2 ^ 36 by omega, show (l.take k).flatten.length < 2 ^ 36 by omega]
    · simp only [S4b, reg, go_sem, reduceIte, Nat.reduceEqDiff, Nat.reduceAdd, Nat.reduceSub, Nat.reduceMul, Nat.reduceDiv, Nat.reduceMod, Nat.reduceLT, Nat.reduceLeDiff, Nat.reduceBEq, Nat.reduceBNe, Int.reduceLE, Int.reduceLT, Int.reduceToNat, Int.reduceEq, Int.reduceBEq, Int.reduceBNe, Int.reduceNeg, Int.reduceSub, Int.reduceMul, Int.reduceAdd, BitVec.reduceOfInt, reduceCtorEq, ↓reduceIte]
    · intro i hi
      show _ = some (S4b l o k (k + i + 1))
      have hi' : k + i < l.length := by omega
      show contK _ (evC _ _ _ (S4b l o k (k + i))) = _
      generalize k + i = j at *
      have hg := few_get hf hi'
      simp only [S4b, reg, go_sem, reduceIte, Nat.reduceEqDiff, Nat.reduceAdd, Nat.reduceSub, Nat.reduceMul, Nat.reduceDiv, Nat.reduceMod, Nat.reduceLT, Nat.reduceLeDiff, Nat.reduceBEq, Nat.reduceBNe, Int.reduceLE, Int.reduceLT, Int.reduceToNat, Int.reduceEq, Int.reduceBEq, Int.reduceBNe, Int.reduceNeg, Int.reduceSub, Int.reduceMul, Int.reduceAdd, BitVec.reduceOfInt, reduceCtorEq, ↓reduceIte, hi', strsAV_length, strsAV_get hi', c20 _ _ (show l[j].length < 2 ^ 62 by omega), pcs_succ _ _ hi', wrap_succ (show j < 2 ^ 62 by omega)]
    · show isEx (evC _ _ _ (S4b l o k (k + (l.length - k)))) = true
      simp only [S4b, reg, go_sem, reduceIte, Nat.reduceEqDiff, Nat.reduceAdd, Nat.reduceSub, Nat.reduceMul, Nat.reduceDiv, Nat.reduceMod, Nat.reduceLT, Nat.reduceLeDiff, Nat.reduceBEq, Nat.reduceBNe, Int.reduceLE, Int.reduceLT, Int.reduceToNat, Int.reduceEq, Int.reduceBEq, Int.reduceBNe, Int.reduceNeg, Int.reduceSub, Int.reduceMul, Int.reduceAdd, BitVec.reduceOfInt, reduceCtorEq, ↓reduceIte, strsAV_length, hkL]
  · simp only [S4, reg, go_sem, reduceIte, Nat.reduceEqDiff, Nat.reduceAdd, Nat.reduceSub, Nat.reduceMul, Nat.reduceDiv, Nat.reduceMod, Nat.reduceLT, Nat.reduceLeDiff, Nat.reduceBEq, Nat.reduceBNe, Int.reduceLE, Int.reduceLT, Int.reduceToNat, Int.reduceEq, Int.reduceBEq, Int.reduceBNe, Int.reduceNeg, Int.reduceSub, Int.reduceMul, Int.reduceAdd, BitVec.reduceOfInt, reduceCtorEq, ↓reduceIte]; rfl
  · intro i hi
    have hi' : i < l.length := by omega
    have hg := few_get hf hi'
    simp only [S4, reg, go_sem, reduceIte, Nat.reduceEqDiff, Nat.reduceAdd, Nat.reduceSub, Nat.reduceMul, Nat.reduceDiv, Nat.reduceMod, Nat.reduceLT, Nat.reduceLeDiff, Nat.reduceBEq, Nat.reduceBNe, Int.reduceLE, Int.reduceLT, Int.reduceToNat, Int.reduceEq, Int.reduceBEq, Int.reduceBNe, Int.reduceNeg, Int.reduceSub, Int.reduceMul, Int.reduceAdd, BitVec.reduceOfInt, reduceCtorEq, ↓reduceIte, hi, hi', strsAV_length, strsAV_get hi', c20 _ _ (show l[i].length < 2 ^ 62 by omega), pcs_succ _ _ hi', wrap_succ (show i < 2 ^ 62 by omega)]
  · simp only [S4, reg, go_sem, reduceIte, Nat.reduceEqDiff, Nat.reduceAdd, Nat.reduceSub, Nat.reduceMul, Nat.reduceDiv, Nat.reduceMod, Nat.reduceLT, Nat.reduceLeDiff, Nat.reduceBEq, Nat.reduceBNe, Int.reduceLE, Int.reduceLT, Int.reduceToNat, Int.reduceEq, Int.reduceBEq, Int.reduceBNe, Int.reduceNeg, Int.reduceSub, Int.reduceMul, Int.reduceAdd, BitVec.reduceOfInt, reduceCtorEq, ↓reduceIte]
end Go.Proofs.S02
