/-
  The law that digests separate inputs. No condition.
-/
import Derived.Test.YtjbndhnfmhpjmaaDoorW02L11
namespace Go.Proofs.S02
open Go Go.Ev Go.Proofs
variable {w : Bool}
set_option linter.unusedSimpArgs false
set_option linter.unusedVariables false
/-! ### Inputs can be read back -/
theorem ub_inj {a b : BitVec 8} (h : ub a = ub b) : a = b := by
  have := congrArg UInt8.toBitVec h
  simpa [ub] using this
theorem vint_pre : ∀ (f z y : Nat) (r s : List UInt8), z < 128 ^ (f + 1) → y < 128 ^ (f + 1) → vintF f z ++ r = vintF f y ++ s → z = y ∧ r = s
  | 0, z, y, r, s, hz, hy, h => by
    simp only [vintF, List.cons_append, List.nil_append, List.cons.injEq] at h
    have := congrArg BitVec.toNat (ub_inj h.1)
    simp only [BitVec.toNat_ofNat] at this
    exact ⟨by omega, h.2⟩
  | f + 1, z, y, r, s, hz, hy, h => by
    have key : ∀ a b : Nat, a < 128 → ve a ≠ vb b := by
      intro a b ha he
      have := congrArg BitVec.toNat (ub_inj he)
      simp only [BitVec.toNat_ofNat] at this
      omega
    rw [vintF, vintF] at h
    by_cases h1 : z < 128
    · by_cases h2 : y < 128
      · rw [if_pos h1, if_pos h2] at h
        simp only [List.cons_append, List.nil_append, List.cons.injEq] at h
        have := congrArg BitVec.toNat (ub_inj h.1)
        simp only [BitVec.toNat_ofNat] at this
        exact ⟨by omega, h.2⟩
      · rw [if_pos h1, if_neg h2] at h
        simp only [List.cons_append, List.nil_append, List.cons.injEq] at h
        exact absurd h.1 (key z y h1)
    · by_cases h2 : y < 128
      · rw [if_neg h1, if_pos h2] at h
        simp only [List.cons_append, List.nil_append, List.cons.injEq] at h
        exact absurd h.1.symm (key y z h2)
      · rw [if_neg h1, if_neg h2] at h
        simp only [List.cons_append, List.cons.injEq] at h
        have h3 := congrArg BitVec.toNat (ub_inj h.1)
        simp only [BitVec.toNat_ofNat] at h3
        have hp : ∀ x, x < 128 ^ (f + 1 + 1) → x / 128 < 128 ^ (f + 1) := fun x hx => by
          rw [Nat.div_lt_iff_lt_mul (by omega), ← Nat.pow_succ]; exact hx
        have ⟨h4, h5⟩ := vint_pre f (z / 128) (y / 128) r s (hp z hz) (hp y hy) h.2
        exact ⟨by omega, h5⟩
theorem zint_pre {a b : Nat} (ha : a < 2 ^ 62) (hb : b < 2 ^ 62) {r s : List UInt8} (h : zint a ++ r = zint b ++ s) : a = b ∧ r = s := by
  have e : ∀ n : Nat, zzN (n : Int) = 2 * n := fun n => by unfold zzN; rw [if_neg (by omega)]; omega
  have hp : (128 : Nat) ^ (9 + 1) = 1180591620717411303424 := by decide
  unfold zint vint at h
  rw [e, e] at h
  have ⟨h1, h2⟩ := vint_pre 9 (2 * a) (2 * b) r s (by rw [hp]; omega) (by rw [hp]; omega) h
  exact ⟨by omega, h2⟩
theorem encB_pre {a b : List UInt8} (ha : a.length < 2 ^ 62) (hb : b.length < 2 ^ 62) {r s : List UInt8} (h : encB a ++ r = encB b ++ s) : a = b ∧ r = s := by
  unfold encB at h
  rw [List.append_assoc, List.append_assoc] at h
  have ⟨h1, h2⟩ := zint_pre ha hb h
  exact List.append_inj h2 h1
theorem encB_ne (a : List UInt8) : encB a ≠ [] := by
  have := zint_len a.length
  intro h
  have := congrArg List.length h
  rw [encB, List.length_append] at this
  simp only [List.length_nil] at this
  omega
theorem encL_inj : ∀ {a b : List (List UInt8)}, (∀ x ∈ a, x.length < 2 ^ 62) → (∀ x ∈ b, x.length < 2 ^ 62) → encL a = encL b → a = b
  | [], [], _, _, _ => rfl
  | [], y :: b, _, _, h => by
    simp only [encL, List.map_cons, List.flatten_cons, List.map_nil, List.flatten_nil] at h
    exact absurd (List.append_eq_nil_iff.1 h.symm).1 (encB_ne y)
  | x :: a, [], _, _, h => by
    simp only [encL, List.map_cons, List.flatten_cons, List.map_nil, List.flatten_nil] at h
    exact absurd (List.append_eq_nil_iff.1 h).1 (encB_ne x)
  | x :: a, y :: b, ha, hb, h => by
    simp only [encL, List.map_cons, List.flatten_cons] at h
    have ⟨h1, h2⟩ := encB_pre (ha x (by simp)) (hb y (by simp)) h
    rw [h1, encL_inj (fun z hz => ha z (by simp [hz])) (fun z hz => hb z (by simp [hz])) h2]
theorem inp_inj {t u : Nat} (ht : t < 256) (hu : u < 256) {a b : List (List UInt8)} (ha : Sml a) (hb : Sml b) (h : inp t a = inp u b) : t = u ∧ a = b := by
  unfold inp at h
  rw [List.cons.injEq] at h
  have h1 := congrArg BitVec.toNat (ub_inj h.1)
  simp only [BitVec.ofInt_natCast, BitVec.toNat_ofNat] at h1
  exact ⟨by omega, encL_inj (fun x hx => by have := ha.2 x hx; omega) (fun x hx => by have := hb.2 x hx; omega) h.2⟩
/-! ### The law -/
def L14 : MC := match m14 with
  | .seq _ (.seq _ (.seq _ (.seq _ (.seq (.seq _ (.block _ (.loop _ b))) _)))) => b
  | _ => .skip
def K14 : List Kp := [.slot 1, .slot 2, .slot 3, .slot 7, .slot 8, .slot 9, .key 3]
def S14 (t u : Nat) (a b : List (List UInt8)) (q : Bool) (i : Nat) : St :=
  ⟨[.set 9 (.int .i64 i), .set 8 (.bool q), .set 7 (.bool true), .set 3 (.ptr 3 []), .set 2 (.lst false .sc (strsAV b)), .set 1 (.lst false .sc (strsAV a))],
   [(3, .fix (.ar 2 .sc) (.agg [.int .u8 t, .int .u8 u]))]⟩
theorem take_ne {a b : List (List UInt8)} {i : Nat} (h : a.take i ≠ b.take i) : a ≠ b := fun e => h (by rw [e])
/-- The comparison's loop: it says whether the lists are the same. -/
theorem loop14 (F : Ev.Cl) (t u : Nat) (a b : List (List UInt8)) (ha : Few a) (hb : Few b) (q : Bool) (hq : q = (t == u && a.length == b.length)) :
    ∃ i, ((t == u && a == b) = true → i = a.length) ∧ ∀ st, clean K14 st = some (S14 t u a b q 0) → iter (evC (gl w) F L14) K14 LF st = evC (gl w) F L14 (S14 t u a b (t == u && a == b) i) := by
  have hla := ha.1
  cases q with
  | false =>
    have hne : (t == u && a == b) = false := by
      cases h : (t == u && a == b) with
      | false => rfl
      | true =>
        rw [Bool.and_eq_true, beq_iff_eq, beq_iff_eq] at h
        rw [h.1, h.2] at hq; simp at hq
    rw [hne]
    refine ⟨0, (fun h => by cases h), fun st h0 => ?_⟩
    have hx : isEx (evC (gl w) F L14 (S14 t u a b false 0)) = true := by
      by_cases h0 : 0 < a.length
      · simp (disch := ((fail_if_success (intro _)); omega)) only [go_sem, reduceIte, Nat.reduceEqDiff, Nat.reduceAdd, Nat.reduceSub, Nat.reduceMul, Nat.reduceDiv, Nat.reduceMod, Nat.reduceLT, Nat.reduceLeDiff, Nat.reduceBEq, Nat.reduceBNe, Int.reduceLE, Int.reduceLT, Int.reduceToNat, Int.reduceEq, Int.reduceBEq, Int.reduceBNe, Int.reduceNeg, Int.reduceSub, Int.reduceMul, Int.reduceAdd, BitVec.reduceOfInt, reduceCtorEq, ↓reduceIte, tn_add, tn_mul, tn_sub, tn_one, tn_zero, w64, ltN_t, ltN_f, leN_t, leN_f, ltI_t, ltI_f, leI_t, leI_f, eqN_t, eqN_f, eqI_t, eqI_f, beq_t, beq_f, bne_t, bne_f, cast_add, L14, m14, S14, strsAV_length]
      · simp (disch := ((fail_if_success (intro _)); omega)) only [go_sem, reduceIte, Nat.reduceEqDiff, Nat.reduceAdd, Nat.reduceSub, Nat.reduceMul, Nat.reduceDiv, Nat.reduceMod, Nat.reduceLT, Nat.reduceLeDiff, Nat.reduceBEq, Nat.reduceBNe, Int.reduceLE, Int.reduceLT, Int.reduceToNat, Int.reduceEq, Int.reduceBEq, Int.reduceBNe, Int.reduceNeg, Int.reduceSub, Int.reduceMul, Int.reduceAdd, BitVec.reduceOfInt, reduceCtorEq, ↓reduceIte, tn_add, tn_mul, tn_sub, tn_one, tn_zero, w64, ltN_t, ltN_f, leN_t, leN_f, ltI_t, ltI_f, leI_t, leI_f, eqN_t, eqN_f, eqI_t, eqI_f, beq_t, beq_f, bne_t, bne_f, cast_add, L14, m14, S14, strsAV_length]
    exact iter_to (fun _ => S14 t u a b false 0) 0 (by unfold LF; omega) h0 (fun i hi => by omega) hx
  | true =>
    have hq' := hq.symm
    rw [Bool.and_eq_true, beq_iff_eq, beq_iff_eq] at hq'
    obtain ⟨rfl, hl⟩ := hq'
    have htt : (t == t) = true := beq_self_eq_true t
    rw [htt, Bool.true_and]
    obtain ⟨hk, hlt, hge⟩ := fst_spec (fun i => a.getD i [] = b.getD i []) a.length
    have hgo : ∀ i, i < a.length → a.getD i [] = b.getD i [] → contK K14 (evC (gl w) F L14 (S14 t t a b true i)) = some (S14 t t a b true (i + 1)) := by
      intro i hi he
      have hi' : i < b.length := by omega
      have g1 := strsAV_get hi
      have g2 := strsAV_get hi'
      rw [List.getD_eq_getElem?_getD, List.getD_eq_getElem?_getD, List.getElem?_eq_getElem hi, List.getElem?_eq_getElem hi'] at he
      simp only [Option.getD_some] at he
      rw [he] at g1
      simp (disch := ((fail_if_success (intro _)); omega)) only [go_sem, reduceIte, Nat.reduceEqDiff, Nat.reduceAdd, Nat.reduceSub, Nat.reduceMul, Nat.reduceDiv, Nat.reduceMod, Nat.reduceLT, Nat.reduceLeDiff, Nat.reduceBEq, Nat.reduceBNe, Int.reduceLE, Int.reduceLT, Int.reduceToNat, Int.reduceEq, Int.reduceBEq, Int.reduceBNe, Int.reduceNeg, Int.reduceSub, Int.reduceMul, Int.reduceAdd, BitVec.reduceOfInt, reduceCtorEq, ↓reduceIte, tn_add, tn_mul, tn_sub, tn_one, tn_zero, w64, ltN_t, ltN_f, leN_t, leN_f, ltI_t, ltI_f, leI_t, leI_f, eqN_t, eqN_f, eqI_t, eqI_f, beq_t, beq_f, bne_t, bne_f, cast_add, L14, m14, K14, S14, strsAV_length, g1, g2]
    have hno : ∀ i, i < a.length → a.getD i [] ≠ b.getD i [] → contK K14 (evC (gl w) F L14 (S14 t t a b true i)) = some (S14 t t a b false (i + 1)) := by
      intro i hi he
      have hi' : i < b.length := by omega
      have g1 := strsAV_get hi
      have g2 := strsAV_get hi'
      rw [List.getD_eq_getElem?_getD, List.getD_eq_getElem?_getD, List.getElem?_eq_getElem hi, List.getElem?_eq_getElem hi'] at he
      simp only [Option.getD_some] at he
      have hb : (a[i] == b[i]) = false := beq_eq_false_iff_ne.2 he
      simp (disch := ((fail_if_success (intro _)); omega)) only [go_sem, reduceIte, Nat.reduceEqDiff, Nat.reduceAdd, Nat.reduceSub, Nat.reduceMul, Nat.reduceDiv, Nat.reduceMod, Nat.reduceLT, Nat.reduceLeDiff, Nat.reduceBEq, Nat.reduceBNe, Int.reduceLE, Int.reduceLT, Int.reduceToNat, Int.reduceEq, Int.reduceBEq, Int.reduceBNe, Int.reduceNeg, Int.reduceSub, Int.reduceMul, Int.reduceAdd, BitVec.reduceOfInt, reduceCtorEq, ↓reduceIte, tn_add, tn_mul, tn_sub, tn_one, tn_zero, w64, ltN_t, ltN_f, leN_t, leN_f, ltI_t, ltI_f, leI_t, leI_f, eqN_t, eqN_f, eqI_t, eqI_f, beq_t, beq_f, bne_t, bne_f, cast_add, L14, m14, K14, S14, strsAV_length, g1, g2, hb]
    generalize fstN _ _ = k at *
    by_cases hkl : k < a.length
    · have hne : (a == b) = false := beq_eq_false_iff_ne.2 fun e => hge hkl (by rw [e])
      rw [hne]
      refine ⟨k + 1, (fun h => by cases h), fun st h0 => ?_⟩
      have hx : isEx (evC (gl w) F L14 (S14 t t a b false (k + 1))) = true := by
        by_cases h1 : k + 1 < a.length
        · simp (disch := ((fail_if_success (intro _)); omega)) only [go_sem, reduceIte, Nat.reduceEqDiff, Nat.reduceAdd, Nat.reduceSub, Nat.reduceMul, Nat.reduceDiv, Nat.reduceMod, Nat.reduceLT, Nat.reduceLeDiff, Nat.reduceBEq, Nat.reduceBNe, Int.reduceLE, Int.reduceLT, Int.reduceToNat, Int.reduceEq, Int.reduceBEq, Int.reduceBNe, Int.reduceNeg, Int.reduceSub, Int.reduceMul, Int.reduceAdd, BitVec.reduceOfInt, reduceCtorEq, ↓reduceIte, tn_add, tn_mul, tn_sub, tn_one, tn_zero, w64, ltN_t, ltN_f, leN_t, leN_f, ltI_t, ltI_f, leI_t, leI_f, eqN_t, eqN_f, eqI_t, eqI_f, beq_t, beq_f, bne_t, bne_f, cast_add, L14, m14, S14, strsAV_length]
        · simp (disch := ((fail_if_success (intro _)); omega)) only [go_sem, reduceIte, Nat.reduceEqDiff, Nat.reduceAdd, Nat.reduceSub, Nat.reduceMul, Nat.reduceDiv, Nat.reduceMod, Nat.reduceLT, Nat.reduceLeDiff, Nat.reduceBEq, Nat.reduceBNe, Int.reduceLE, Int.reduceLT, Int.reduceToNat, Int.reduceEq, Int.reduceBEq, Int.reduceBNe, Int.reduceNeg, Int.reduceSub, Int.reduceMul, Int.reduceAdd, BitVec.reduceOfInt, reduceCtorEq, ↓reduceIte, tn_add, tn_mul, tn_sub, tn_one, tn_zero, w64, ltN_t, ltN_f, leN_t, leN_f, ltI_t, ltI_f, leI_t, leI_f, eqN_t, eqN_f, eqI_t, eqI_f, beq_t, beq_f, bne_t, bne_f, cast_add, L14, m14, S14, strsAV_length]
      rw [iter_to (fun i => S14 t t a b (decide (i ≤ k)) i) (k + 1) (by unfold LF; omega) (by rw [decide_eq_true (Nat.zero_le k)]; exact h0) (fun i hi => ?_) (by rw [decide_eq_false (by omega)]; exact hx), decide_eq_false (by omega)]
      rw [decide_eq_true (show i ≤ k by omega)]
      by_cases hik : i = k
      · rw [decide_eq_false (by omega)]; exact hno i (by omega) (by rw [hik]; exact hge hkl)
      · rw [decide_eq_true (show i + 1 ≤ k by omega)]; exact hgo i (by omega) (hlt i (by omega))
    · have hka : k = a.length := by omega
      have hab : a = b := by
        apply List.ext_getElem hl
        intro i h1 h2
        have := hlt i (by omega)
        rw [List.getD_eq_getElem?_getD, List.getD_eq_getElem?_getD, List.getElem?_eq_getElem h1, List.getElem?_eq_getElem h2] at this
        simpa using this
      have he : (a == b) = true := beq_iff_eq.2 hab
      rw [he]
      refine ⟨a.length, (fun _ => rfl), fun st h0 => ?_⟩
      have hx : isEx (evC (gl w) F L14 (S14 t t a b true a.length)) = true := by
        simp (disch := ((fail_if_success (intro _)); omega)) only [go_sem, reduceIte, Nat.reduceEqDiff, Nat.reduceAdd, Nat.reduceSub, Nat.reduceMul, Nat.reduceDiv, Nat.reduceMod, Nat.reduceLT, Nat.reduceLeDiff, Nat.reduceBEq, Nat.reduceBNe, Int.reduceLE, Int.reduceLT, Int.reduceToNat, Int.reduceEq, Int.reduceBEq, Int.reduceBNe, Int.reduceNeg, Int.reduceSub, Int.reduceMul, Int.reduceAdd, BitVec.reduceOfInt, reduceCtorEq, ↓reduceIte, tn_add, tn_mul, tn_sub, tn_one, tn_zero, w64, ltN_t, ltN_f, leN_t, leN_f, ltI_t, ltI_f, leI_t, leI_f, eqN_t, eqN_f, eqI_t, eqI_f, beq_t, beq_f, bne_t, bne_f, cast_add, L14, m14, S14, strsAV_length]
      exact iter_to (fun i => S14 t t a b true i) a.length (by unfold LF; omega) h0 (fun i hi => hgo i hi (hlt i (by omega))) hx
end Go.Proofs.S02
namespace Go.Proofs.S02
open Go Go.Ev Go.Proofs
variable {w : Bool}
set_option linter.unusedSimpArgs false
set_option linter.unusedVariables false
def L14b : MC := match m14 with
  | .seq _ (.seq _ (.seq _ (.seq _ (.seq _ (.seq _ (.seq _ (.seq _ (.seq _ (.seq _ (.seq _ (.seq _ (.seq _ (.seq (.seq _ (.block _ (.loop _ b))) _))))))))))))) => b
  | _ => .skip
def K14b : List Kp := [.slot 7, .slot 10, .slot 11, .slot 12, .slot 13, .slot 14, .slot 15, .slot 16, .slot 17, .key 12, .key 13, .key 14, .key 15, .key 62, .key 67]
def S14b (X Y : List UInt8) (d e g h : List UInt8) (i : Nat) : St :=
  ⟨[.set 17 (.int .i64 i), .set 16 (.bool (g.take i == h.take i)), .set 15 (.ptr 15 []), .set 14 (.ptr 14 []), .set 13 (.ptr 13 []), .set 12 (.ptr 12 []), .set 11 (.sl 67 [] 0 Y.length), .set 10 (.sl 62 [] 0 X.length), .set 7 (.bool true)],
   [(67, .grow .sc (bytesAV Y)), (62, .grow .sc (bytesAV X)), (15, .fix (.ar 32 .sc) (.agg (bytesAV h))), (14, .fix (.ar 32 .sc) (.agg (bytesAV g))), (13, .fix (.ar 16 .sc) (.agg (bytesAV e))), (12, .fix (.ar 16 .sc) (.agg (bytesAV d)))]⟩
theorem take_beq (g h : List UInt8) (i : Nat) (hg : i < g.length) (hh : i < h.length) : (g.take (i + 1) == h.take (i + 1)) = ((g.take i == h.take i) && (g[i] == h[i])) := by
  rw [List.take_succ_eq_append_getElem hg, List.take_succ_eq_append_getElem hh, Bool.eq_iff_iff, beq_iff_eq, Bool.and_eq_true, beq_iff_eq, beq_iff_eq]
  constructor
  · intro e
    have ⟨h1, h2⟩ := List.append_inj' e rfl
    exact ⟨h1, by simpa using h2⟩
  · rintro ⟨e1, e2⟩; rw [e1, e2]
theorem beq_u8 (a b : UInt8) : (((a.toBitVec.toNat : Nat) : Int) == ((b.toBitVec.toNat : Nat) : Int)) = (a == b) := by
  rw [Bool.eq_iff_iff, beq_iff_eq, beq_iff_eq, Int.natCast_inj]
  exact UInt8.toNat_inj
theorem step14b (F : Ev.Cl) (X Y d e g h : List UInt8) (hg : g.length = 32) (hh : h.length = 32) (i : Nat) (hi : i < 16) : contK K14b (evC (gl w) F L14b (S14b X Y d e g h i)) = some (S14b X Y d e g h (i + 1)) := by
  have g1 := bytesAV_get (l := g) (i := i) (by omega)
  have g2 := bytesAV_get (l := h) (i := i) (by omega)
  have hb := take_beq g h i (by omega) (by omega)
  unfold S14b
  rw [hb]
  cases hq : (g.take i == h.take i) with
  | false => simp (disch := ((fail_if_success (intro _)); omega)) only [go_sem, reduceIte, Nat.reduceEqDiff, Nat.reduceAdd, Nat.reduceSub, Nat.reduceMul, Nat.reduceDiv, Nat.reduceMod, Nat.reduceLT, Nat.reduceLeDiff, Nat.reduceBEq, Nat.reduceBNe, Int.reduceLE, Int.reduceLT, Int.reduceToNat, Int.reduceEq, Int.reduceBEq, Int.reduceBNe, Int.reduceNeg, Int.reduceSub, Int.reduceMul, Int.reduceAdd, BitVec.reduceOfInt, reduceCtorEq, ↓reduceIte, tn_add, tn_mul, tn_sub, tn_one, tn_zero, w64, ltN_t, ltN_f, leN_t, leN_f, ltI_t, ltI_f, leI_t, leI_f, eqN_t, eqN_f, eqI_t, eqI_f, beq_t, beq_f, bne_t, bne_f, cast_add, L14b, m14, K14b, Bool.false_and]
  | true => simp (disch := ((fail_if_success (intro _)); omega)) only [go_sem, reduceIte, Nat.reduceEqDiff, Nat.reduceAdd, Nat.reduceSub, Nat.reduceMul, Nat.reduceDiv, Nat.reduceMod, Nat.reduceLT, Nat.reduceLeDiff, Nat.reduceBEq, Nat.reduceBNe, Int.reduceLE, Int.reduceLT, Int.reduceToNat, Int.reduceEq, Int.reduceBEq, Int.reduceBNe, Int.reduceNeg, Int.reduceSub, Int.reduceMul, Int.reduceAdd, BitVec.reduceOfInt, reduceCtorEq, ↓reduceIte, tn_add, tn_mul, tn_sub, tn_one, tn_zero, w64, ltN_t, ltN_f, leN_t, leN_f, ltI_t, ltI_f, leI_t, leI_f, eqN_t, eqN_f, eqI_t, eqI_f, beq_t, beq_f, bne_t, bne_f, cast_add, L14b, m14, K14b, g1, g2, bytesAV_length, hg, hh, beq_u8, Bool.true_and]
theorem end14b (F : Ev.Cl) (X Y d e g h : List UInt8) : isEx (evC (gl w) F L14b (S14b X Y d e g h 16)) = true := by
  unfold S14b
  generalize (g.take 16 == h.take 16) = q
  simp (disch := ((fail_if_success (intro _)); omega)) only [go_sem, reduceIte, Nat.reduceEqDiff, Nat.reduceAdd, Nat.reduceSub, Nat.reduceMul, Nat.reduceDiv, Nat.reduceMod, Nat.reduceLT, Nat.reduceLeDiff, Nat.reduceBEq, Nat.reduceBNe, Int.reduceLE, Int.reduceLT, Int.reduceToNat, Int.reduceEq, Int.reduceBEq, Int.reduceBNe, Int.reduceNeg, Int.reduceSub, Int.reduceMul, Int.reduceAdd, BitVec.reduceOfInt, reduceCtorEq, ↓reduceIte, tn_add, tn_mul, tn_sub, tn_one, tn_zero, w64, ltN_t, ltN_f, leN_t, leN_f, ltI_t, ltI_f, leI_t, leI_f, eqN_t, eqN_f, eqI_t, eqI_f, beq_t, beq_f, bne_t, bne_f, cast_add, L14b, m14]
theorem inp_ne {t u : Nat} (ht : t < 256) (hu : u < 256) {a b : List (List UInt8)} (ha : Sml a) (hb : Sml b) (h : (t == u && a == b) = false) : (inp t a == inp u b) = false := by
  rw [beq_eq_false_iff_ne]
  intro e
  obtain ⟨h1, h2⟩ := inp_inj ht hu ha hb e
  rw [h1, h2] at h; simp at h
set_option maxHeartbeats 1600000 in
theorem law14 {n : Nat} (hn : 20 ≤ n) (c15 : call (gl w) tab n 15 [] [] = some (.bool true, [], [])) (ar : List AV) (h : HasKds [.ar 2 (.int .u8), .sl .str, .sl .str] ar) : call (gl w) tab (n + 1) 14 ar [] = some (.bool true, [], []) := by
  obtain ⟨_, _, rfl, ⟨z, rfl, hz2, hz⟩, _, _, rfl, ⟨x, rfl, -, ha⟩, _, _, rfl, ⟨y, rfl, -, hb⟩, rfl⟩ := h
  obtain ⟨a, rfl⟩ := strs_of ha
  obtain ⟨b, rfl⟩ := strs_of hb
  match z, hz2 with
  | [z1, z2], _ =>
  obtain ⟨t, rfl, ht⟩ := byte_of (hz z1 (by simp))
  obtain ⟨u, rfl, hu⟩ := byte_of (hz z2 (by simp))
  clear ha hb hz
  have c18f := @few_f w n (by omega)
  have c18t := @few_t w n (by omega)
  rw [call_go (fd := fd14) rfl]
  by_cases hfa : Few a
  case neg => simp (disch := ((fail_if_success (intro _)); omega)) only [go_sem, reduceIte, Nat.reduceEqDiff, Nat.reduceAdd, Nat.reduceSub, Nat.reduceMul, Nat.reduceDiv, Nat.reduceMod, Nat.reduceLT, Nat.reduceLeDiff, Nat.reduceBEq, Nat.reduceBNe, Int.reduceLE, Int.reduceLT, Int.reduceToNat, Int.reduceEq, Int.reduceBEq, Int.reduceBNe, Int.reduceNeg, Int.reduceSub, Int.reduceMul, Int.reduceAdd, BitVec.reduceOfInt, reduceCtorEq, ↓reduceIte, tn_add, tn_mul, tn_sub, tn_one, tn_zero, w64, ltN_t, ltN_f, leN_t, leN_f, ltI_t, ltI_f, leI_t, leI_f, eqN_t, eqN_f, eqI_t, eqI_f, beq_t, beq_f, bne_t, bne_f, cast_add, Kd.sh, fd14, m14, c15, c18f false hfa]
  have ca := c18t false hfa
  by_cases hfb : Few b
  case neg => simp (disch := ((fail_if_success (intro _)); omega)) only [go_sem, reduceIte, Nat.reduceEqDiff, Nat.reduceAdd, Nat.reduceSub, Nat.reduceMul, Nat.reduceDiv, Nat.reduceMod, Nat.reduceLT, Nat.reduceLeDiff, Nat.reduceBEq, Nat.reduceBNe, Int.reduceLE, Int.reduceLT, Int.reduceToNat, Int.reduceEq, Int.reduceBEq, Int.reduceBNe, Int.reduceNeg, Int.reduceSub, Int.reduceMul, Int.reduceAdd, BitVec.reduceOfInt, reduceCtorEq, ↓reduceIte, tn_add, tn_mul, tn_sub, tn_one, tn_zero, w64, ltN_t, ltN_f, leN_t, leN_f, ltI_t, ltI_f, leI_t, leI_f, eqN_t, eqN_f, eqI_t, eqI_f, beq_t, beq_f, bne_t, bne_f, cast_add, Kd.sh, fd14, m14, c15, ca, c18f false hfb]
  have cb := c18t false hfb
  clear c18f c18t
  have hla := hfa.1
  have hlb := hfb.1
  obtain ⟨i, r3, e1⟩ := loop14 (w := w) (call (gl w) tab n) t u a b hfa hfb _ rfl
  have hlen : ((a.length : Int) == (b.length : Int)) = (a.length == b.length) := by
    rw [Bool.eq_iff_iff]; simp [Int.natCast_inj]
  have htu : ((t : Int) == (u : Int)) = (t == u) := by
    rw [Bool.eq_iff_iff]; simp [Int.natCast_inj]
  have hsame : (t == u && a == b) = true → inp t a = inp u b := by
    rw [Bool.and_eq_true, beq_iff_eq, beq_iff_eq]; rintro ⟨rfl, rfl⟩; rfl
  have hw1 : IntKind.wrap .i64 (t : Int) = (t : Int) := w64 (by omega)
  have hw2 : IntKind.wrap .i64 (u : Int) = (u : Int) := w64 (by omega)
  have c36a : call (gl w) tab n 36 [.int .i64 (t : Int), .lst false .sc (strsAV a)] [] = some (.sl 20000 [] 0 (inp t a).length, [], [.grow .sc (bytesAV (inp t a))]) := by
    obtain ⟨d, rfl⟩ := Nat.exists_eq_add_of_le' (show 3 ≤ n by omega)
    exact input_ok d t false a (few_sml hfa)
  have c36b : call (gl w) tab n 36 [.int .i64 (u : Int), .lst false .sc (strsAV b)] [] = some (.sl 20000 [] 0 (inp u b).length, [], [.grow .sc (bytesAV (inp u b))]) := by
    obtain ⟨d, rfl⟩ := Nat.exists_eq_add_of_le' (show 3 ≤ n by omega)
    exact input_ok d u false b (few_sml hfb)
  have c34a := @pof_at w n (by omega) (t : Int) false a (few_sml hfa)
  have c34b := @pof_at w n (by omega) (u : Int) false b (few_sml hfb)
  have la := inp_len (t := t) (few_sml hfa)
  have lb := inp_len (t := u) (few_sml hfb)
  have c29a := @hsum_at w n (by omega) false (inp t a) (by omega)
  have c29b := @hsum_at w n (by omega) false (inp u b) (by omega)
  have hne := @inp_ne t u ht hu a b (few_sml hfa) (few_sml hfb)
  have hcl : ((hashL (inp t a)).take 16 == (hashL (inp u b)).take 16) = (dig (inp t a) == dig (inp u b)) := rfl
  have hga := hashL_len (inp t a)
  have hgb := hashL_len (inp u b)
  have hdla := dig_len (inp t a)
  have hdlb := dig_len (inp u b)
  have e2 : ∀ st, clean K14b st = some (S14b (inp t a) (inp u b) (dig (inp t a)) (dig (inp u b)) (hashL (inp t a)) (hashL (inp u b)) 0) → iter (evC (gl w) (call (gl w) tab n) L14b) K14b LF st = evC (gl w) (call (gl w) tab n) L14b (S14b (inp t a) (inp u b) (dig (inp t a)) (dig (inp u b)) (hashL (inp t a)) (hashL (inp u b)) 16) := fun st h0 =>
    iter_to (S14b (inp t a) (inp u b) (dig (inp t a)) (dig (inp u b)) (hashL (inp t a)) (hashL (inp u b))) 16 (by unfold LF; omega) h0 (fun i hi => step14b _ _ _ _ _ _ _ hga hgb i hi) (end14b _ _ _ _ _ _ _)
  have hde := eq_bytes hdla hdlb
  have hx1 : (inp t a).length ≤ LIM := by unfold LIM; omega
  simp only [L14, m14, K14] at e1
  simp only [L14b, m14, K14b] at e2
  generalize hq1 : (t == u) = q1 at e1 hne htu hsame r3
  generalize hq2 : (a.length == b.length) = q2 at e1 hlen
  generalize hq3 : (q1 && a == b) = q3 at e1 hne hsame r3
  generalize inp t a = X at *
  generalize inp u b = Y at *
  have ht16 : (X == X) = true := beq_self_eq_true X
  cases q3 with
  | true =>
    have hXY := hsame rfl
    cases q1 with
    | false => cases hq3
    | true =>
      simp (disch := ((fail_if_success (intro _)); omega)) only [go_sem, reduceIte, Nat.reduceEqDiff, Nat.reduceAdd, Nat.reduceSub, Nat.reduceMul, Nat.reduceDiv, Nat.reduceMod, Nat.reduceLT, Nat.reduceLeDiff, Nat.reduceBEq, Nat.reduceBNe, Int.reduceLE, Int.reduceLT, Int.reduceToNat, Int.reduceEq, Int.reduceBEq, Int.reduceBNe, Int.reduceNeg, Int.reduceSub, Int.reduceMul, Int.reduceAdd, BitVec.reduceOfInt, reduceCtorEq, ↓reduceIte, tn_add, tn_mul, tn_sub, tn_one, tn_zero, w64, ltN_t, ltN_f, leN_t, leN_f, ltI_t, ltI_f, leI_t, leI_f, eqN_t, eqN_f, eqI_t, eqI_f, beq_t, beq_f, bne_t, bne_f, cast_add, Kd.sh, fd14, m14, c15, ca, cb, htu, strsAV_length, hlen]
      have hi := r3 rfl
      subst hi
      rw [e1 _ (by simp (disch := ((fail_if_success (intro _)); omega)) only [go_sem, reduceIte, Nat.reduceEqDiff, Nat.reduceAdd, Nat.reduceSub, Nat.reduceMul, Nat.reduceDiv, Nat.reduceMod, Nat.reduceLT, Nat.reduceLeDiff, Nat.reduceBEq, Nat.reduceBNe, Int.reduceLE, Int.reduceLT, Int.reduceToNat, Int.reduceEq, Int.reduceBEq, Int.reduceBNe, Int.reduceNeg, Int.reduceSub, Int.reduceMul, Int.reduceAdd, BitVec.reduceOfInt, reduceCtorEq, ↓reduceIte, tn_add, tn_mul, tn_sub, tn_one, tn_zero, w64, ltN_t, ltN_f, leN_t, leN_f, ltI_t, ltI_f, leI_t, leI_f, eqN_t, eqN_f, eqI_t, eqI_f, beq_t, beq_f, bne_t, bne_f, cast_add, S14, Bool.true_and])]
      clear r3 e1 e2
      simp (disch := ((fail_if_success (intro _)); omega)) only [go_sem, reduceIte, Nat.reduceEqDiff, Nat.reduceAdd, Nat.reduceSub, Nat.reduceMul, Nat.reduceDiv, Nat.reduceMod, Nat.reduceLT, Nat.reduceLeDiff, Nat.reduceBEq, Nat.reduceBNe, Int.reduceLE, Int.reduceLT, Int.reduceToNat, Int.reduceEq, Int.reduceBEq, Int.reduceBNe, Int.reduceNeg, Int.reduceSub, Int.reduceMul, Int.reduceAdd, BitVec.reduceOfInt, reduceCtorEq, ↓reduceIte, tn_add, tn_mul, tn_sub, tn_one, tn_zero, w64, ltN_t, ltN_f, leN_t, leN_f, ltI_t, ltI_f, leI_t, leI_f, eqN_t, eqN_f, eqI_t, eqI_f, beq_t, beq_f, bne_t, bne_f, cast_add, S14, strsAV_length, c36a, c36b, hw1, hw2, hXY, bytesAV_length, hne]
      done
  | false =>
    have hne' := hne rfl
    have hnn : (!(X == Y)) = true := by rw [hne']; rfl
    clear hne hsame
    cases q1 with
    | false =>
      simp (disch := ((fail_if_success (intro _)); omega)) only [go_sem, reduceIte, Nat.reduceEqDiff, Nat.reduceAdd, Nat.reduceSub, Nat.reduceMul, Nat.reduceDiv, Nat.reduceMod, Nat.reduceLT, Nat.reduceLeDiff, Nat.reduceBEq, Nat.reduceBNe, Int.reduceLE, Int.reduceLT, Int.reduceToNat, Int.reduceEq, Int.reduceBEq, Int.reduceBNe, Int.reduceNeg, Int.reduceSub, Int.reduceMul, Int.reduceAdd, BitVec.reduceOfInt, reduceCtorEq, ↓reduceIte, tn_add, tn_mul, tn_sub, tn_one, tn_zero, w64, ltN_t, ltN_f, leN_t, leN_f, ltI_t, ltI_f, leI_t, leI_f, eqN_t, eqN_f, eqI_t, eqI_f, beq_t, beq_f, bne_t, bne_f, cast_add, Kd.sh, fd14, m14, c15, ca, cb, htu]
      rw [e1 _ (by simp (disch := ((fail_if_success (intro _)); omega)) only [go_sem, reduceIte, Nat.reduceEqDiff, Nat.reduceAdd, Nat.reduceSub, Nat.reduceMul, Nat.reduceDiv, Nat.reduceMod, Nat.reduceLT, Nat.reduceLeDiff, Nat.reduceBEq, Nat.reduceBNe, Int.reduceLE, Int.reduceLT, Int.reduceToNat, Int.reduceEq, Int.reduceBEq, Int.reduceBNe, Int.reduceNeg, Int.reduceSub, Int.reduceMul, Int.reduceAdd, BitVec.reduceOfInt, reduceCtorEq, ↓reduceIte, tn_add, tn_mul, tn_sub, tn_one, tn_zero, w64, ltN_t, ltN_f, leN_t, leN_f, ltI_t, ltI_f, leI_t, leI_f, eqN_t, eqN_f, eqI_t, eqI_f, beq_t, beq_f, bne_t, bne_f, cast_add, S14, Bool.false_and])]
      clear e1
      by_cases hi : i < a.length
      · simp (disch := ((fail_if_success (intro _)); omega)) only [go_sem, reduceIte, Nat.reduceEqDiff, Nat.reduceAdd, Nat.reduceSub, Nat.reduceMul, Nat.reduceDiv, Nat.reduceMod, Nat.reduceLT, Nat.reduceLeDiff, Nat.reduceBEq, Nat.reduceBNe, Int.reduceLE, Int.reduceLT, Int.reduceToNat, Int.reduceEq, Int.reduceBEq, Int.reduceBNe, Int.reduceNeg, Int.reduceSub, Int.reduceMul, Int.reduceAdd, BitVec.reduceOfInt, reduceCtorEq, ↓reduceIte, tn_add, tn_mul, tn_sub, tn_one, tn_zero, w64, ltN_t, ltN_f, leN_t, leN_f, ltI_t, ltI_f, leI_t, leI_f, eqN_t, eqN_f, eqI_t, eqI_f, beq_t, beq_f, bne_t, bne_f, cast_add, S14, strsAV_length, c36a, c36b, hw1, hw2, bytesAV_length, c34a, c34b, c29a, c29b, ↓out16_def, ↓z32_def, out16_len, hdla, hdlb, hga, hgb, bytes_all, noImms_bytesAV]
        rw [e2 _ (by simp (disch := ((fail_if_success (intro _)); omega)) only [go_sem, reduceIte, Nat.reduceEqDiff, Nat.reduceAdd, Nat.reduceSub, Nat.reduceMul, Nat.reduceDiv, Nat.reduceMod, Nat.reduceLT, Nat.reduceLeDiff, Nat.reduceBEq, Nat.reduceBNe, Int.reduceLE, Int.reduceLT, Int.reduceToNat, Int.reduceEq, Int.reduceBEq, Int.reduceBNe, Int.reduceNeg, Int.reduceSub, Int.reduceMul, Int.reduceAdd, BitVec.reduceOfInt, reduceCtorEq, ↓reduceIte, tn_add, tn_mul, tn_sub, tn_one, tn_zero, w64, ltN_t, ltN_f, leN_t, leN_f, ltI_t, ltI_f, leI_t, leI_f, eqN_t, eqN_f, eqI_t, eqI_f, beq_t, beq_f, bne_t, bne_f, cast_add, S14b, List.take_zero, bytesAV_length, beq_self_eq_true]; done)]
        simp (disch := ((fail_if_success (intro _)); omega)) only [go_sem, reduceIte, Nat.reduceEqDiff, Nat.reduceAdd, Nat.reduceSub, Nat.reduceMul, Nat.reduceDiv, Nat.reduceMod, Nat.reduceLT, Nat.reduceLeDiff, Nat.reduceBEq, Nat.reduceBNe, Int.reduceLE, Int.reduceLT, Int.reduceToNat, Int.reduceEq, Int.reduceBEq, Int.reduceBNe, Int.reduceNeg, Int.reduceSub, Int.reduceMul, Int.reduceAdd, BitVec.reduceOfInt, reduceCtorEq, ↓reduceIte, tn_add, tn_mul, tn_sub, tn_one, tn_zero, w64, ltN_t, ltN_f, leN_t, leN_f, ltI_t, ltI_f, leI_t, leI_f, eqN_t, eqN_f, eqI_t, eqI_f, beq_t, beq_f, bne_t, bne_f, cast_add, S14b, hcl, bytesAV_length, hdla, hdlb, hde, hnn, hne', bytes_all, beq_self_eq_true]
        done
      · simp (disch := ((fail_if_success (intro _)); omega)) only [go_sem, reduceIte, Nat.reduceEqDiff, Nat.reduceAdd, Nat.reduceSub, Nat.reduceMul, Nat.reduceDiv, Nat.reduceMod, Nat.reduceLT, Nat.reduceLeDiff, Nat.reduceBEq, Nat.reduceBNe, Int.reduceLE, Int.reduceLT, Int.reduceToNat, Int.reduceEq, Int.reduceBEq, Int.reduceBNe, Int.reduceNeg, Int.reduceSub, Int.reduceMul, Int.reduceAdd, BitVec.reduceOfInt, reduceCtorEq, ↓reduceIte, tn_add, tn_mul, tn_sub, tn_one, tn_zero, w64, ltN_t, ltN_f, leN_t, leN_f, ltI_t, ltI_f, leI_t, leI_f, eqN_t, eqN_f, eqI_t, eqI_f, beq_t, beq_f, bne_t, bne_f, cast_add, S14, strsAV_length, c36a, c36b, hw1, hw2, bytesAV_length, c34a, c34b, c29a, c29b, ↓out16_def, ↓z32_def, out16_len, hdla, hdlb, hga, hgb, bytes_all, noImms_bytesAV]
        rw [e2 _ (by simp (disch := ((fail_if_success (intro _)); omega)) only [go_sem, reduceIte, Nat.reduceEqDiff, Nat.reduceAdd, Nat.reduceSub, Nat.reduceMul, Nat.reduceDiv, Nat.reduceMod, Nat.reduceLT, Nat.reduceLeDiff, Nat.reduceBEq, Nat.reduceBNe, Int.reduceLE, Int.reduceLT, Int.reduceToNat, Int.reduceEq, Int.reduceBEq, Int.reduceBNe, Int.reduceNeg, Int.reduceSub, Int.reduceMul, Int.reduceAdd, BitVec.reduceOfInt, reduceCtorEq, ↓reduceIte, tn_add, tn_mul, tn_sub, tn_one, tn_zero, w64, ltN_t, ltN_f, leN_t, leN_f, ltI_t, ltI_f, leI_t, leI_f, eqN_t, eqN_f, eqI_t, eqI_f, beq_t, beq_f, bne_t, bne_f, cast_add, S14b, List.take_zero, bytesAV_length, beq_self_eq_true]; done)]
        simp (disch := ((fail_if_success (intro _)); omega)) only [go_sem, reduceIte, Nat.reduceEqDiff, Nat.reduceAdd, Nat.reduceSub, Nat.reduceMul, Nat.reduceDiv, Nat.reduceMod, Nat.reduceLT, Nat.reduceLeDiff, Nat.reduceBEq, Nat.reduceBNe, Int.reduceLE, Int.reduceLT, Int.reduceToNat, Int.reduceEq, Int.reduceBEq, Int.reduceBNe, Int.reduceNeg, Int.reduceSub, Int.reduceMul, Int.reduceAdd, BitVec.reduceOfInt, reduceCtorEq, ↓reduceIte, tn_add, tn_mul, tn_sub, tn_one, tn_zero, w64, ltN_t, ltN_f, leN_t, leN_f, ltI_t, ltI_f, leI_t, leI_f, eqN_t, eqN_f, eqI_t, eqI_f, beq_t, beq_f, bne_t, bne_f, cast_add, S14b, hcl, bytesAV_length, hdla, hdlb, hde, hnn, hne', bytes_all, beq_self_eq_true]
        done
    | true =>
      simp (disch := ((fail_if_success (intro _)); omega)) only [go_sem, reduceIte, Nat.reduceEqDiff, Nat.reduceAdd, Nat.reduceSub, Nat.reduceMul, Nat.reduceDiv, Nat.reduceMod, Nat.reduceLT, Nat.reduceLeDiff, Nat.reduceBEq, Nat.reduceBNe, Int.reduceLE, Int.reduceLT, Int.reduceToNat, Int.reduceEq, Int.reduceBEq, Int.reduceBNe, Int.reduceNeg, Int.reduceSub, Int.reduceMul, Int.reduceAdd, BitVec.reduceOfInt, reduceCtorEq, ↓reduceIte, tn_add, tn_mul, tn_sub, tn_one, tn_zero, w64, ltN_t, ltN_f, leN_t, leN_f, ltI_t, ltI_f, leI_t, leI_f, eqN_t, eqN_f, eqI_t, eqI_f, beq_t, beq_f, bne_t, bne_f, cast_add, Kd.sh, fd14, m14, c15, ca, cb, htu, strsAV_length, hlen]
      rw [e1 _ (by simp (disch := ((fail_if_success (intro _)); omega)) only [go_sem, reduceIte, Nat.reduceEqDiff, Nat.reduceAdd, Nat.reduceSub, Nat.reduceMul, Nat.reduceDiv, Nat.reduceMod, Nat.reduceLT, Nat.reduceLeDiff, Nat.reduceBEq, Nat.reduceBNe, Int.reduceLE, Int.reduceLT, Int.reduceToNat, Int.reduceEq, Int.reduceBEq, Int.reduceBNe, Int.reduceNeg, Int.reduceSub, Int.reduceMul, Int.reduceAdd, BitVec.reduceOfInt, reduceCtorEq, ↓reduceIte, tn_add, tn_mul, tn_sub, tn_one, tn_zero, w64, ltN_t, ltN_f, leN_t, leN_f, ltI_t, ltI_f, leI_t, leI_f, eqN_t, eqN_f, eqI_t, eqI_f, beq_t, beq_f, bne_t, bne_f, cast_add, S14, Bool.true_and])]
      clear e1
      by_cases hi : i < a.length
      · simp (disch := ((fail_if_success (intro _)); omega)) only [go_sem, reduceIte, Nat.reduceEqDiff, Nat.reduceAdd, Nat.reduceSub, Nat.reduceMul, Nat.reduceDiv, Nat.reduceMod, Nat.reduceLT, Nat.reduceLeDiff, Nat.reduceBEq, Nat.reduceBNe, Int.reduceLE, Int.reduceLT, Int.reduceToNat, Int.reduceEq, Int.reduceBEq, Int.reduceBNe, Int.reduceNeg, Int.reduceSub, Int.reduceMul, Int.reduceAdd, BitVec.reduceOfInt, reduceCtorEq, ↓reduceIte, tn_add, tn_mul, tn_sub, tn_one, tn_zero, w64, ltN_t, ltN_f, leN_t, leN_f, ltI_t, ltI_f, leI_t, leI_f, eqN_t, eqN_f, eqI_t, eqI_f, beq_t, beq_f, bne_t, bne_f, cast_add, S14, strsAV_length, c36a, c36b, hw1, hw2, bytesAV_length, c34a, c34b, c29a, c29b, ↓out16_def, ↓z32_def, out16_len, hdla, hdlb, hga, hgb, bytes_all, noImms_bytesAV]
        rw [e2 _ (by simp (disch := ((fail_if_success (intro _)); omega)) only [go_sem, reduceIte, Nat.reduceEqDiff, Nat.reduceAdd, Nat.reduceSub, Nat.reduceMul, Nat.reduceDiv, Nat.reduceMod, Nat.reduceLT, Nat.reduceLeDiff, Nat.reduceBEq, Nat.reduceBNe, Int.reduceLE, Int.reduceLT, Int.reduceToNat, Int.reduceEq, Int.reduceBEq, Int.reduceBNe, Int.reduceNeg, Int.reduceSub, Int.reduceMul, Int.reduceAdd, BitVec.reduceOfInt, reduceCtorEq, ↓reduceIte, tn_add, tn_mul, tn_sub, tn_one, tn_zero, w64, ltN_t, ltN_f, leN_t, leN_f, ltI_t, ltI_f, leI_t, leI_f, eqN_t, eqN_f, eqI_t, eqI_f, beq_t, beq_f, bne_t, bne_f, cast_add, S14b, List.take_zero, bytesAV_length, beq_self_eq_true]; done)]
        simp (disch := ((fail_if_success (intro _)); omega)) only [go_sem, reduceIte, Nat.reduceEqDiff, Nat.reduceAdd, Nat.reduceSub, Nat.reduceMul, Nat.reduceDiv, Nat.reduceMod, Nat.reduceLT, Nat.reduceLeDiff, Nat.reduceBEq, Nat.reduceBNe, Int.reduceLE, Int.reduceLT, Int.reduceToNat, Int.reduceEq, Int.reduceBEq, Int.reduceBNe, Int.reduceNeg, Int.reduceSub, Int.reduceMul, Int.reduceAdd, BitVec.reduceOfInt, reduceCtorEq, ↓reduceIte, tn_add, tn_mul, tn_sub, tn_one, tn_zero, w64, ltN_t, ltN_f, leN_t, leN_f, ltI_t, ltI_f, leI_t, leI_f, eqN_t, eqN_f, eqI_t, eqI_f, beq_t, beq_f, bne_t, bne_f, cast_add, S14b, hcl, bytesAV_length, hdla, hdlb, hde, hnn, hne', bytes_all, beq_self_eq_true]
        done
      · simp (disch := ((fail_if_success (intro _)); omega)) only [go_sem, reduceIte, Nat.reduceEqDiff, Nat.reduceAdd, Nat.reduceSub, Nat.reduceMul, Nat.reduceDiv, Nat.reduceMod, Nat.reduceLT, Nat.reduceLeDiff, Nat.reduceBEq, Nat.reduceBNe, Int.reduceLE, Int.reduceLT, Int.reduceToNat, Int.reduceEq, Int.reduceBEq, Int.reduceBNe, Int.reduceNeg, Int.reduceSub, Int.reduceMul, Int.reduceAdd, BitVec.reduceOfInt, reduceCtorEq, ↓reduceIte, tn_add, tn_mul, tn_sub, tn_one, tn_zero, w64, ltN_t, ltN_f, leN_t, leN_f, ltI_t, ltI_f, leI_t, leI_f, eqN_t, eqN_f, eqI_t, eqI_f, beq_t, beq_f, bne_t, bne_f, cast_add, S14, strsAV_length, c36a, c36b, hw1, hw2, bytesAV_length, c34a, c34b, c29a, c29b, ↓out16_def, ↓z32_def, out16_len, hdla, hdlb, hga, hgb, bytes_all, noImms_bytesAV]
        rw [e2 _ (by simp (disch := ((fail_if_success (intro _)); omega)) only [go_sem, reduceIte, Nat.reduceEqDiff, Nat.reduceAdd, Nat.reduceSub, Nat.reduceMul, Nat.reduceDiv, Nat.reduceMod, Nat.reduceLT, Nat.reduceLeDiff, Nat.reduceBEq, Nat.reduceBNe, Int.reduceLE, Int.reduceLT, Int.reduceToNat, Int.reduceEq, Int.reduceBEq, Int.reduceBNe, Int.reduceNeg, Int.reduceSub, Int.reduceMul, Int.reduceAdd, BitVec.reduceOfInt, reduceCtorEq, ↓reduceIte, tn_add, tn_mul, tn_sub, tn_one, tn_zero, w64, ltN_t, ltN_f, leN_t, leN_f, ltI_t, ltI_f, leI_t, leI_f, eqN_t, eqN_f, eqI_t, eqI_f, beq_t, beq_f, bne_t, bne_f, cast_add, S14b, List.take_zero, bytesAV_length, beq_self_eq_true]; done)]
        simp (disch := ((fail_if_success (intro _)); omega)) only [go_sem, reduceIte, Nat.reduceEqDiff, Nat.reduceAdd, Nat.reduceSub, Nat.reduceMul, Nat.reduceDiv, Nat.reduceMod, Nat.reduceLT, Nat.reduceLeDiff, Nat.reduceBEq, Nat.reduceBNe, Int.reduceLE, Int.reduceLT, Int.reduceToNat, Int.reduceEq, Int.reduceBEq, Int.reduceBNe, Int.reduceNeg, Int.reduceSub, Int.reduceMul, Int.reduceAdd, BitVec.reduceOfInt, reduceCtorEq, ↓reduceIte, tn_add, tn_mul, tn_sub, tn_one, tn_zero, w64, ltN_t, ltN_f, leN_t, leN_f, ltI_t, ltI_f, leI_t, leI_f, eqN_t, eqN_f, eqI_t, eqI_f, beq_t, beq_f, bne_t, bne_f, cast_add, S14b, hcl, bytesAV_length, hdla, hdlb, hde, hnn, hne', bytes_all, beq_self_eq_true]
        done
end Go.Proofs.S02
