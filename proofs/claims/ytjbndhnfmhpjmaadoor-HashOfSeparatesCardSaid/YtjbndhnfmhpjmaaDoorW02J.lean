/-
  Streams that are hashed: what one round of Add does. No condition.
-/
import Derived.Test.YtjbndhnfmhpjmaaDoorW02H
import Derived.Test.YtjbndhnfmhpjmaaDoorW02L4
namespace Go.Proofs.S02
open Go Go.Ev Go.Proofs
variable {w : Bool}
set_option linter.unusedSimpArgs false
set_option linter.unusedVariables false
structure Sm where
  h : H8
  blk : List UInt8
  n : Nat
def Sm.av (s : Sm) : AV := .agg [s.h.av, .agg (bytesAV s.blk), .int .u64 (s.n : Int)]
/-- One round of Add. -/
def chunkK (s : Sm) (t : List UInt8) : Nat := min t.length (64 - s.n % 64)
def chunkB (s : Sm) (t : List UInt8) : List UInt8 := s.blk.take (s.n % 64) ++ t.take (chunkK s t) ++ s.blk.drop (s.n % 64 + chunkK s t)
def chunk (s : Sm) (t : List UInt8) : Sm := ⟨if s.n % 64 + chunkK s t = 64 then compF s.h (chunkB s t) else s.h, chunkB s t, s.n + chunkK s t⟩
def shS : Sh := .st [.ar 8 .sc, .ar 64 .sc, .sc]
def zst : AV := .agg [z8, .agg (List.replicate 64 (.int .u8 0)), .int .u64 0]
theorem zst_refs : zst.refs = [] := by kernel_rfl
def L32 : MC := match m32 with
  | .seq _ (.seq (.block _ (.loop _ b)) _) => b
  | _ => .skip
def K32 : List Kp := [.slot 1, .slot 2, .slot 4, .key 2, .key 4]
def S32 (s : Sm) (t : List UInt8) : St :=
  ⟨[.set 4 (.ptr 4 []), .set 2 (.ptr 2 []), .set 1 (.str t)], [(4, .fix (.st [.ar 8 .sc, .ar 64 .sc, .sc]) zst), (2, .fix (.st [.ar 8 .sc, .ar 64 .sc, .sc]) s.av)]⟩
theorem remu (a : Nat) : binInt .rem .u64 (a : Int) 64 = some (.int .u64 ((a % 64 : Nat) : Int)) := by
  have h8 : ¬ ((64 : Int) = 0) := by decide
  simp only [binInt, h8, if_false]; rfl
theorem bytesAV_drop (l : List UInt8) (k : Nat) : (bytesAV l).drop k = bytesAV (l.drop k) := by simp [bytesAV, List.map_drop]
theorem bytesAV_tk (l : List UInt8) (k : Nat) : (bytesAV l).take k = bytesAV (l.take k) := by simp [bytesAV, List.map_take]
theorem chunkB_len (s : Sm) (t : List UInt8) (hb : s.blk.length = 64) : (chunkB s t).length = 64 := by
  unfold chunkB chunkK
  simp only [List.length_append, List.length_take, List.length_drop, hb]
  have := Nat.mod_lt s.n (show 0 < 64 by omega)
  omega
theorem step32 (F : Ev.Cl) (s : Sm) (t : List UInt8) (hb : s.blk.length = 64) (hn : s.n < 2 ^ 62) (ht : t ≠ []) (htl : t.length < 2 ^ 62)
    (c47 : F 47 [s.h.av, .lst false .sc (bytesAV (chunkB s t))] [] = some ((compF s.h (chunkB s t)).av, [], [])) :
    contK K32 (evC (gl w) F L32 (S32 s t)) = some (S32 (chunk s t) (t.drop (chunkK s t))) := by
  have hat : s.n % 64 < 64 := Nat.mod_lt _ (by omega)
  have hne : (!(t == [])) = true := by simp [ht]
  have hw1 : IntKind.wrap .i64 ((s.n % 64 : Nat) : Int) = ((s.n % 64 : Nat) : Int) := wrap_i64 (by omega) (by omega)
  have hk : chunkK s t = min t.length (64 - s.n % 64) := rfl
  have hk1 : chunkK s t ≤ t.length := by rw [hk]; exact Nat.min_le_left _ _
  have hk2 : s.n % 64 + chunkK s t ≤ 64 := by have := Nat.min_le_right t.length (64 - s.n % 64); omega
  have hBl := chunkB_len s t hb
  have hadd : (BitVec.ofNat 64 s.n + BitVec.ofNat 64 (chunkK s t)).toNat = s.n + chunkK s t := by
    rw [← BitVec.ofNat_add, BitVec.toNat_ofNat, Nat.mod_eq_of_lt (by omega)]
  have hw2 : IntKind.wrap .i64 (((s.n % 64 : Nat) : Int) + ((chunkK s t : Nat) : Int)) = ((s.n % 64 + chunkK s t : Nat) : Int) := by rw [wrap_i64 (by omega) (by omega)]; omega
  have hB : List.take (s.n % 64) (bytesAV s.blk) ++ (List.take (chunkK s t) (bytesAV t) ++ List.drop (s.n % 64 + chunkK s t) (bytesAV s.blk)) = bytesAV (chunkB s t) := by
    rw [bytesAV_tk, bytesAV_tk, bytesAV_drop, ← bytesAV_append, ← bytesAV_append, chunkB, List.append_assoc]
  have hB' : List.take (s.n % 64) (bytesAV s.blk) ++ List.take (chunkK s t) (bytesAV t) ++ List.drop (s.n % 64 + chunkK s t) (bytesAV s.blk) = bytesAV (chunkB s t) := by rw [List.append_assoc, hB]
  have hte : (bytesAV t).isEmpty = false := by
    cases t with
    | nil => exact absurd rfl ht
    | cons a l => rfl
  have hle : s.n % 64 ≤ 64 := by omega
  have hof : s.n % 64 + (64 - s.n % 64) = 64 := by omega
  have htk : (bytesAV (chunkB s t)).take 64 = bytesAV (chunkB s t) := bytesAV_take' hBl
  simp only [H8.av] at c47
  by_cases h64 : s.n % 64 + chunkK s t = 64
  · have he : (((s.n % 64 + chunkK s t : Nat) : Int) == 64) = true := by rw [h64]; rfl
    simp only [L32, m32, K32, S32, Sm.av, H8.av, go_sem, reduceIte, Nat.reduceEqDiff, Nat.reduceAdd, Nat.reduceSub, Nat.reduceMul, Nat.reduceDiv, Nat.reduceMod, Nat.reduceLT, Nat.reduceLeDiff, Nat.reduceBEq, Nat.reduceBNe, Int.reduceLE, Int.reduceLT, Int.reduceToNat, Int.reduceEq, Int.reduceBEq, Int.reduceBNe, Int.reduceNeg, Int.reduceSub, Int.reduceMul, Int.reduceAdd, BitVec.reduceOfInt, reduceCtorEq, ↓reduceIte, hne, remu, hw1, hb, hat, hle, hof, hte, bytesAV_length, ← hk, hB', hw2, hadd, hk1, he, hBl, htk, c47, zst_refs, chunk, if_pos h64]
  · have he : (((s.n % 64 + chunkK s t : Nat) : Int) == 64) = false := by rw [beq_eq_false_iff_ne]; omega
    simp only [L32, m32, K32, S32, Sm.av, H8.av, go_sem, reduceIte, Nat.reduceEqDiff, Nat.reduceAdd, Nat.reduceSub, Nat.reduceMul, Nat.reduceDiv, Nat.reduceMod, Nat.reduceLT, Nat.reduceLeDiff, Nat.reduceBEq, Nat.reduceBNe, Int.reduceLE, Int.reduceLT, Int.reduceToNat, Int.reduceEq, Int.reduceBEq, Int.reduceBNe, Int.reduceNeg, Int.reduceSub, Int.reduceMul, Int.reduceAdd, BitVec.reduceOfInt, reduceCtorEq, ↓reduceIte, hne, remu, hw1, hb, hat, hle, hof, hte, bytesAV_length, ← hk, hB', hw2, hadd, hk1, he, zst_refs, chunk, if_neg h64]
theorem end32 (F : Ev.Cl) (s : Sm) : isEx (evC (gl w) F L32 (S32 s [])) = true := by
  simp only [L32, m32, S32, go_sem, reduceIte, Nat.reduceEqDiff, Nat.reduceAdd, Nat.reduceSub, Nat.reduceMul, Nat.reduceDiv, Nat.reduceMod, Nat.reduceLT, Nat.reduceLeDiff, Nat.reduceBEq, Nat.reduceBNe, Int.reduceLE, Int.reduceLT, Int.reduceToNat, Int.reduceEq, Int.reduceBEq, Int.reduceBNe, Int.reduceNeg, Int.reduceSub, Int.reduceMul, Int.reduceAdd, BitVec.reduceOfInt, reduceCtorEq, ↓reduceIte]
/-- The rounds of Add. -/
def rnd (s : Sm) (t : List UInt8) : Nat → Sm × List UInt8
  | 0 => (s, t)
  | i + 1 => (chunk (rnd s t i).1 (rnd s t i).2, (rnd s t i).2.drop (chunkK (rnd s t i).1 (rnd s t i).2))
theorem chunkK_pos (s : Sm) {t : List UInt8} (h : t ≠ []) : 0 < chunkK s t := by
  have := Nat.mod_lt s.n (show 0 < 64 by omega)
  have h1 : 0 < t.length := List.length_pos_iff.2 h
  unfold chunkK
  rcases Nat.le_total t.length (64 - s.n % 64) with e | e
  · rw [Nat.min_eq_left e]; exact h1
  · rw [Nat.min_eq_right e]; omega
theorem chunkK_le (s : Sm) (t : List UInt8) : chunkK s t ≤ t.length := by unfold chunkK; exact Nat.min_le_left _ _
theorem rnd_ends (s : Sm) (t : List UInt8) : ∃ N, N ≤ t.length ∧ (rnd s t N).2 = [] ∧ ∀ i, i < N → (rnd s t i).2 ≠ [] := by
  have key : ∀ k, (∃ N, N ≤ k ∧ (rnd s t N).2 = [] ∧ ∀ i, i < N → (rnd s t i).2 ≠ []) ∨ (∀ i, i < k + 1 → (rnd s t i).2 ≠ []) ∧ (rnd s t k).2.length + k ≤ t.length := by
    intro k
    induction k with
    | zero =>
      by_cases h : t = []
      · left; exact ⟨0, Nat.le_refl _, h, fun i hi => absurd hi (Nat.not_lt_zero _)⟩
      · right
        refine ⟨fun i hi => ?_, Nat.le_refl _⟩
        have : i = 0 := by omega
        subst this; exact h
    | succ k ih =>
      rcases ih with ⟨N, h1, h2, h3⟩ | ⟨h1, h2⟩
      · left; exact ⟨N, by omega, h2, h3⟩
      · have hp := chunkK_pos (rnd s t k).1 (h1 k (by omega))
        have hl := chunkK_le (rnd s t k).1 (rnd s t k).2
        have hlen : (rnd s t (k + 1)).2.length + (k + 1) ≤ t.length := by
          show ((rnd s t k).2.drop _).length + _ ≤ _
          rw [List.length_drop]; omega
        by_cases he : (rnd s t (k + 1)).2 = []
        · left; exact ⟨k + 1, Nat.le_refl _, he, fun i hi => h1 i (by omega)⟩
        · right
          refine ⟨fun i hi => ?_, hlen⟩
          by_cases e : i = k + 1
          · subst e; exact he
          · exact h1 i (by omega)
  rcases key t.length with ⟨N, h1, h2, h3⟩ | ⟨h1, h2⟩
  · exact ⟨N, h1, h2, h3⟩
  · exact absurd (List.length_eq_zero_iff.1 (by omega)) (h1 t.length (by omega))
/-! ### What a stream stands for -/
def blockN (m : List UInt8) (k : Nat) : List UInt8 := (m.drop (64 * k)).take 64
def blocksF (m : List UInt8) : Nat → H8
  | 0 => ⟨0x6a09e667#32, 0xbb67ae85#32, 0x3c6ef372#32, 0xa54ff53a#32, 0x510e527f#32, 0x9b05688c#32, 0x1f83d9ab#32, 0x5be0cd19#32⟩
  | k + 1 => compF (blocksF m k) (blockN m k)
def Reps (s : Sm) (m : List UInt8) : Prop :=
  s.n = m.length ∧ s.blk.length = 64 ∧ s.blk.take (m.length % 64) = m.drop (64 * (m.length / 64)) ∧ s.h = blocksF m (m.length / 64)
theorem blocksF_app (m t : List UInt8) (k : Nat) (h : 64 * k ≤ m.length) : blocksF (m ++ t) k = blocksF m k := by
  induction k with
  | zero => rfl
  | succ k ih =>
    rw [blocksF, blocksF, ih (by omega)]
    congr 1
    unfold blockN
    rw [List.drop_append_of_le_length (by omega), List.take_append_of_le_length (by rw [List.length_drop]; omega)]
theorem reps_chunk {s : Sm} {m : List UInt8} (h : Reps s m) (t : List UInt8) : Reps (chunk s t) (m ++ t.take (chunkK s t)) := by
  obtain ⟨h1, h2, h3, h4⟩ := h
  have hr : m.length % 64 < 64 := Nat.mod_lt _ (by omega)
  have hK1 := chunkK_le s t
  have hK2 : m.length % 64 + chunkK s t ≤ 64 := by
    have : chunkK s t ≤ 64 - s.n % 64 := by unfold chunkK; exact Nat.min_le_right _ _
    rw [h1] at this; omega
  have hu : (t.take (chunkK s t)).length = chunkK s t := by rw [List.length_take]; omega
  have hB : chunkB s t = m.drop (64 * (m.length / 64)) ++ t.take (chunkK s t) ++ s.blk.drop (m.length % 64 + chunkK s t) := by
    unfold chunkB; rw [h1, h3]
  have hdl : (m.drop (64 * (m.length / 64))).length = m.length % 64 := by rw [List.length_drop]; omega
  have hl : (m ++ t.take (chunkK s t)).length = m.length + chunkK s t := by rw [List.length_append, hu]
  have hdr : (m ++ t.take (chunkK s t)).drop (64 * (m.length / 64)) = m.drop (64 * (m.length / 64)) ++ t.take (chunkK s t) := List.drop_append_of_le_length (by omega)
  refine ⟨by show s.n + _ = _; rw [hl, h1], chunkB_len s t h2, ?_, ?_⟩
  · show (chunkB s t).take _ = _
    by_cases h64 : m.length % 64 + chunkK s t = 64
    · have e1 : (m ++ t.take (chunkK s t)).length % 64 = 0 := by rw [hl]; omega
      have e2 : (m ++ t.take (chunkK s t)).length ≤ 64 * ((m ++ t.take (chunkK s t)).length / 64) := by rw [hl]; omega
      rw [e1, List.take_zero, List.drop_eq_nil_of_le e2]
    · have e1 : (m ++ t.take (chunkK s t)).length % 64 = m.length % 64 + chunkK s t := by rw [hl]; omega
      have e2 : (m ++ t.take (chunkK s t)).length / 64 = m.length / 64 := by rw [hl]; omega
      rw [e1, e2, hdr, hB, List.take_append_of_le_length (by rw [List.length_append, hdl, hu]; omega), List.take_of_length_le (by rw [List.length_append, hdl, hu]; omega)]
  · show (if s.n % 64 + chunkK s t = 64 then compF s.h (chunkB s t) else s.h) = _
    by_cases h64 : m.length % 64 + chunkK s t = 64
    · have e2 : (m ++ t.take (chunkK s t)).length / 64 = m.length / 64 + 1 := by rw [hl]; omega
      rw [h1, if_pos h64, e2, blocksF, blocksF_app _ _ _ (by omega), h4]
      congr 1
      unfold blockN
      have hd : s.blk.drop 64 = [] := List.drop_eq_nil_of_le (by omega)
      rw [hdr, hB, h64, hd, List.append_nil]
      exact (List.take_of_length_le (by rw [List.length_append, hdl, hu]; omega)).symm
    · have e2 : (m ++ t.take (chunkK s t)).length / 64 = m.length / 64 := by rw [hl]; omega
      rw [h1, if_neg h64, e2, blocksF_app _ _ _ (by omega), h4]
theorem reps_rnd {s : Sm} {m : List UInt8} (h : Reps s m) (t : List UInt8) (i : Nat) : ∃ u, t = u ++ (rnd s t i).2 ∧ Reps (rnd s t i).1 (m ++ u) := by
  induction i with
  | zero => exact ⟨[], rfl, by rw [List.append_nil]; exact h⟩
  | succ i ih =>
    obtain ⟨u, h1, h2⟩ := ih
    refine ⟨u ++ (rnd s t i).2.take (chunkK (rnd s t i).1 (rnd s t i).2), ?_, ?_⟩
    · show t = _ ++ (rnd s t i).2.drop _
      rw [List.append_assoc, List.take_append_drop]; exact h1
    · rw [← List.append_assoc]
      exact reps_chunk h2 _
theorem bytes_all (l : List UInt8) : (bytesAV l).all AV.scalar = true := by
  rw [List.all_eq_true]; intro x hx
  obtain ⟨y, _, rfl⟩ := List.mem_map.1 hx; rfl
theorem comp_at {n : Nat} (h : 3 ≤ n) (nb : Bool) (s : H8) {b : List UInt8} (hb : b.length = 64) : call (gl w) tab n 47 [s.av, .lst nb .sc (bytesAV b)] [] = some ((compF s b).av, [], []) := by
  obtain ⟨d, rfl⟩ := Nat.exists_eq_add_of_le' h
  exact comp_ok d nb s b hb
theorem loop32 (F : Ev.Cl) (c47 : ∀ (h : H8) (b : List UInt8), b.length = 64 → F 47 [h.av, .lst false .sc (bytesAV b)] [] = some ((compF h b).av, [], [])) (s : Sm) (m t : List UInt8) (hs : Reps s m) (hm : m.length + t.length < 2 ^ 60) :
    ∃ s', Reps s' (m ++ t) ∧ ∀ st, clean K32 st = some (S32 s t) → iter (evC (gl w) F L32) K32 LF st = evC (gl w) F L32 (S32 s' []) := by
  obtain ⟨N, hN, hend, hbefore⟩ := rnd_ends s t
  obtain ⟨u, hu, hr⟩ := reps_rnd hs t N
  rw [hend, List.append_nil] at hu
  subst hu
  refine ⟨(rnd s t N).1, hr, fun st h0 => ?_⟩
  rw [iter_to (fun i => S32 (rnd s t i).1 (rnd s t i).2) N (by unfold LF; omega) h0 (fun i hi => ?_) (by rw [hend]; exact end32 F _), hend]
  obtain ⟨v, hv, hr'⟩ := reps_rnd hs t i
  have hlen := congrArg List.length hv
  rw [List.length_append] at hlen
  refine step32 F _ _ hr'.2.1 ?_ (hbefore i hi) (by omega) (c47 _ _ (chunkB_len _ _ hr'.2.1))
  rw [hr'.1, List.length_append]; omega
theorem add32_F (F : Ev.Cl) (c47 : ∀ (h : H8) (b : List UInt8), b.length = 64 → F 47 [h.av, .lst false .sc (bytesAV b)] [] = some ((compF h b).av, [], [])) (s : Sm) (m t : List UInt8) (hs : Reps s m) (hm : m.length + t.length < 2 ^ 60) :
    ∃ s', Reps s' (m ++ t) ∧ finK fd32.res fd32.pk (evC (gl w) F fd32.body { fr := frOf 0 [s.av, .str t], hp := [] }) = some (s'.av, [], []) := by
  have hz : AV.agg [.agg [.int .u32 0, .int .u32 0, .int .u32 0, .int .u32 0, .int .u32 0, .int .u32 0, .int .u32 0, .int .u32 0], .agg (List.replicate 64 (.int .u8 0)), .int .u64 0] = zst := rfl
  obtain ⟨s', hr, e⟩ := loop32 (w := w) F c47 s m t hs hm
  refine ⟨s', hr, ?_⟩
  simp only [L32, m32, K32] at e
  have hl := hs.2.1
  have hl' := hr.2.1
  simp only [fd32, m32, hz, Sm.av, H8.av, go_sem, reduceIte, Nat.reduceEqDiff, Nat.reduceAdd, Nat.reduceSub, Nat.reduceMul, Nat.reduceDiv, Nat.reduceMod, Nat.reduceLT, Nat.reduceLeDiff, Nat.reduceBEq, Nat.reduceBNe, Int.reduceLE, Int.reduceLT, Int.reduceToNat, Int.reduceEq, Int.reduceBEq, Int.reduceBNe, Int.reduceNeg, Int.reduceSub, Int.reduceMul, Int.reduceAdd, BitVec.reduceOfInt, reduceCtorEq, ↓reduceIte, bytesAV_length, bytes_all, hl]
  rw [e _ (by simp only [S32, Sm.av, H8.av, go_sem, reduceIte, Nat.reduceEqDiff, Nat.reduceAdd, Nat.reduceSub, Nat.reduceMul, Nat.reduceDiv, Nat.reduceMod, Nat.reduceLT, Nat.reduceLeDiff, Nat.reduceBEq, Nat.reduceBNe, Int.reduceLE, Int.reduceLT, Int.reduceToNat, Int.reduceEq, Int.reduceBEq, Int.reduceBNe, Int.reduceNeg, Int.reduceSub, Int.reduceMul, Int.reduceAdd, BitVec.reduceOfInt, reduceCtorEq, ↓reduceIte, zst_refs]; rfl)]
  simp only [S32, Sm.av, H8.av, go_sem, reduceIte, Nat.reduceEqDiff, Nat.reduceAdd, Nat.reduceSub, Nat.reduceMul, Nat.reduceDiv, Nat.reduceMod, Nat.reduceLT, Nat.reduceLeDiff, Nat.reduceBEq, Nat.reduceBNe, Int.reduceLE, Int.reduceLT, Int.reduceToNat, Int.reduceEq, Int.reduceBEq, Int.reduceBNe, Int.reduceNeg, Int.reduceSub, Int.reduceMul, Int.reduceAdd, BitVec.reduceOfInt, reduceCtorEq, ↓reduceIte, bytesAV_length, bytes_all, hl']
theorem sadd_at {n : Nat} (h : 4 ≤ n) (s : Sm) (m t : List UInt8) (hs : Reps s m) (hm : m.length + t.length < 2 ^ 60) : ∃ s', Reps s' (m ++ t) ∧ call (gl w) tab n 32 [s.av, .str t] [] = some (s'.av, [], []) := by
  obtain ⟨d, rfl⟩ := Nat.exists_eq_add_of_le' h
  obtain ⟨s', hr, e⟩ := add32_F (w := w) (call (gl w) tab (d + 3)) (fun x b hb => comp_at (by omega) false x hb) s m t hs hm
  exact ⟨s', hr, (call_go (n := d + 3) (fd := fd32) rfl).trans e⟩
def s0 : Sm := ⟨blocksF [] 0, List.replicate 64 0, 0⟩
theorem reps0 : Reps s0 [] := ⟨rfl, by simp [s0], by simp [s0], rfl⟩
theorem s0_av : s0.av = .agg [.agg [.int .u32 1779033703, .int .u32 3144134277, .int .u32 1013904242, .int .u32 2773480762, .int .u32 1359893119, .int .u32 2600822924, .int .u32 528734635, .int .u32 1541459225], .agg (List.replicate 64 (.int .u8 0)), .int .u64 0] := by kernel_rfl
theorem sbegin_ok (d : Nat) : call (gl w) tab (d+1) 31 [] [] = some (s0.av, [], []) := by
  rw [call_go (fd := fd31) rfl, s0_av]
  simp only [fd31, m31, go_sem, reduceIte, Nat.reduceEqDiff, Nat.reduceAdd, Nat.reduceSub, Nat.reduceMul, Nat.reduceDiv, Nat.reduceMod, Nat.reduceLT, Nat.reduceLeDiff, Nat.reduceBEq, Nat.reduceBNe, Int.reduceLE, Int.reduceLT, Int.reduceToNat, Int.reduceEq, Int.reduceBEq, Int.reduceBNe, Int.reduceNeg, Int.reduceSub, Int.reduceMul, Int.reduceAdd, BitVec.reduceOfInt, reduceCtorEq, ↓reduceIte]
theorem sbegin_at {n : Nat} (h : 1 ≤ n) : call (gl w) tab n 31 [] [] = some (s0.av, [], []) := by
  obtain ⟨d, rfl⟩ := Nat.exists_eq_add_of_le' h
  exact sbegin_ok d
end Go.Proofs.S02
namespace Go.Proofs.S02
open Go Go.Ev Go.Proofs
variable {w : Bool}
set_option linter.unusedSimpArgs false
set_option linter.unusedVariables false
def padZ (n : Nat) : Nat := (119 - n % 64) % 64
def pad1 (i : Nat) : List UInt8 := 128 :: List.replicate i 0
theorem pad1_len (i : Nat) : (pad1 i).length = i + 1 := by simp [pad1]
theorem pad1_succ (i : Nat) : bytesAV (pad1 (i + 1)) = bytesAV (pad1 i) ++ [.int .u8 0] := by
  have : pad1 (i + 1) = pad1 i ++ [0] := by simp [pad1, List.replicate_succ']
  rw [this, bytesAV_append]; rfl
def lenB (n : Nat) (i : Nat) : List UInt8 := (List.range i).map fun j => ub ((BitVec.ofNat 64 (8 * n) >>> (56 - 8 * j : Nat)).setWidth 8)
theorem lenB_succ (n i : Nat) : lenB n (i + 1) = lenB n i ++ [ub ((BitVec.ofNat 64 (8 * n) >>> (56 - 8 * i : Nat)).setWidth 8)] := by simp [lenB, List.range_succ]
theorem lenB_len (n i : Nat) : (lenB n i).length = i := by simp [lenB]
def padF (n : Nat) : List UInt8 := pad1 (padZ n) ++ lenB n 8
def out32 : AV := .agg (List.replicate 32 (.int .u8 0))
theorem out32_refs : out32.refs = [] := by kernel_rfl
def L33 : MC := match m33 with
  | .seq _ (.seq _ (.seq _ (.seq (.block _ (.loop _ b)) _))) => b
  | _ => .skip
def K33 : List Kp := [.slot 1, .slot 2, .slot 3, .own 4 5004 .sc, .key 1, .key 2]
def S33 (s : Sm) (x : Nat) (pad : List UInt8) : St :=
  ⟨[.set 4 (.sl 5004 [] 0 pad.length), .set 3 (.int .u64 (x : Int)), .set 2 (.ptr 2 []), .set 1 (.ptr 1 [])],
   [(2, .fix (.ar 32 .sc) out32), (1, .fix (.st [.ar 8 .sc, .ar 64 .sc, .sc]) s.av), (5004, .grow .sc (bytesAV pad))]⟩
theorem step33 (F : Ev.Cl) (s : Sm) (x i : Nat) (hn : s.n < 2 ^ 60) (hi : i < padZ s.n) : contK K33 (evC (gl w) F L33 (S33 s x (pad1 i))) = some (S33 s x (pad1 (i + 1))) := by
  have hz : padZ s.n < 64 := Nat.mod_lt _ (by omega)
  have hne : (s.n + (i + 1)) % 64 ≠ 56 := by unfold padZ at *; omega
  have hb : ((((s.n + (i + 1)) % 64 : Nat) : Int) != 56) = true := by rw [bne_iff_ne]; omega
  have hw1 : IntKind.wrap .i64 ((s.n : Nat) : Int) = ((s.n : Nat) : Int) := wrap_i64 (by omega) (by omega)
  have hw2 : IntKind.wrap .i64 (((s.n : Nat) : Int) + ((i + 1 : Nat) : Int)) = ((s.n + (i + 1) : Nat) : Int) := by rw [wrap_i64 (by omega) (by omega)]; omega
  have hrem : binInt .rem .i64 ((s.n + (i + 1) : Nat) : Int) 64 = some (.int .i64 (((s.n + (i + 1)) % 64 : Nat) : Int)) := rem_nat _ 64 (by omega)
  simp only [L33, m33, K33, S33, Sm.av, H8.av, go_sem, reduceIte, Nat.reduceEqDiff, Nat.reduceAdd, Nat.reduceSub, Nat.reduceMul, Nat.reduceDiv, Nat.reduceMod, Nat.reduceLT, Nat.reduceLeDiff, Nat.reduceBEq, Nat.reduceBNe, Int.reduceLE, Int.reduceLT, Int.reduceToNat, Int.reduceEq, Int.reduceBEq, Int.reduceBNe, Int.reduceNeg, Int.reduceSub, Int.reduceMul, Int.reduceAdd, BitVec.reduceOfInt, reduceCtorEq, ↓reduceIte, hw1, hw2, hrem, hb, pad1_len, pad1_succ, lim_of (show i + 1 < 2 ^ 36 by omega), out32_refs]
theorem end33 (F : Ev.Cl) (s : Sm) (x : Nat) (hn : s.n < 2 ^ 60) : isEx (evC (gl w) F L33 (S33 s x (pad1 (padZ s.n)))) = true := by
  have hz : padZ s.n < 64 := Nat.mod_lt _ (by omega)
  have hne : (s.n + (padZ s.n + 1)) % 64 = 56 := by unfold padZ; omega
  have hw1 : IntKind.wrap .i64 ((s.n : Nat) : Int) = ((s.n : Nat) : Int) := wrap_i64 (by omega) (by omega)
  have hw2 : IntKind.wrap .i64 (((s.n : Nat) : Int) + ((padZ s.n + 1 : Nat) : Int)) = ((s.n + (padZ s.n + 1) : Nat) : Int) := by rw [wrap_i64 (by omega) (by omega)]; omega
  have hrem : binInt .rem .i64 ((s.n + (padZ s.n + 1) : Nat) : Int) 64 = some (.int .i64 (((s.n + (padZ s.n + 1)) % 64 : Nat) : Int)) := rem_nat _ 64 (by omega)
  have hb : ((((s.n + (padZ s.n + 1)) % 64 : Nat) : Int) != 56) = false := by rw [hne]; rfl
  simp only [L33, m33, S33, Sm.av, H8.av, go_sem, reduceIte, Nat.reduceEqDiff, Nat.reduceAdd, Nat.reduceSub, Nat.reduceMul, Nat.reduceDiv, Nat.reduceMod, Nat.reduceLT, Nat.reduceLeDiff, Nat.reduceBEq, Nat.reduceBNe, Int.reduceLE, Int.reduceLT, Int.reduceToNat, Int.reduceEq, Int.reduceBEq, Int.reduceBNe, Int.reduceNeg, Int.reduceSub, Int.reduceMul, Int.reduceAdd, BitVec.reduceOfInt, reduceCtorEq, ↓reduceIte, hw1, hw2, hrem, hb, pad1_len]
def L33b : MC := match m33 with
  | .seq _ (.seq _ (.seq _ (.seq _ (.seq (.seq _ (.block _ (.loop _ b))) _)))) => b
  | _ => .skip
def K33b : List Kp := [.slot 1, .slot 2, .slot 3, .own 4 5004 .sc, .slot 23, .key 1, .key 2]
def S33b (s : Sm) (x : BitVec 64) (pad : List UInt8) (i : Nat) : St :=
  ⟨[.set 23 (.int .i64 i), .set 4 (.sl 5004 [] 0 pad.length), .set 3 (u64 x), .set 2 (.ptr 2 []), .set 1 (.ptr 1 [])],
   [(2, .fix (.ar 32 .sc) out32), (1, .fix (.st [.ar 8 .sc, .ar 64 .sc, .sc]) s.av), (5004, .grow .sc (bytesAV pad))]⟩
theorem step33b (F : Ev.Cl) (s : Sm) (n i : Nat) (p : List UInt8) (hp : p.length < 100) (hi : i < 8) :
    contK K33b (evC (gl w) F L33b (S33b s (BitVec.ofNat 64 (8 * n)) (p ++ lenB n i) i)) = some (S33b s (BitVec.ofNat 64 (8 * n)) (p ++ lenB n (i + 1)) (i + 1)) := by
  have hw1 : IntKind.wrap .i64 (8 * (i : Int)) = ((8 * i : Nat) : Int) := by rw [wrap_i64 (by omega) (by omega)]; omega
  have hw2 : IntKind.wrap .i64 (56 - ((8 * i : Nat) : Int)) = ((56 - 8 * i : Nat) : Int) := by rw [wrap_i64 (by omega) (by omega)]; omega
  have e : bytesAV (p ++ lenB n (i + 1)) = bytesAV (p ++ lenB n i) ++ [.int .u8 ((((BitVec.ofNat 64 (8 * n) >>> (56 - 8 * i : Nat)).setWidth 8).toNat : Nat) : Int)] := by
    rw [lenB_succ, ← List.append_assoc, bytesAV_append]; rfl
  have hl : (p ++ lenB n i).length = p.length + i := by rw [List.length_append, lenB_len]
  have hl' : (p ++ lenB n (i + 1)).length = p.length + i + 1 := by rw [List.length_append, lenB_len]; omega
  generalize BitVec.ofNat 64 (8 * n) = X at *
  unfold S33b
  rw [e, hl, hl']
  generalize p ++ lenB n i = P at *
  simp only [L33b, m33, K33b, Sm.av, H8.av, go_sem, reduceIte, Nat.reduceEqDiff, Nat.reduceAdd, Nat.reduceSub, Nat.reduceMul, Nat.reduceDiv, Nat.reduceMod, Nat.reduceLT, Nat.reduceLeDiff, Nat.reduceBEq, Nat.reduceBNe, Int.reduceLE, Int.reduceLT, Int.reduceToNat, Int.reduceEq, Int.reduceBEq, Int.reduceBNe, Int.reduceNeg, Int.reduceSub, Int.reduceMul, Int.reduceAdd, BitVec.reduceOfInt, reduceCtorEq, ↓reduceIte, hi, hw1, hw2, hl, lim_of (show p.length + i < 2 ^ 36 by omega), wrap_succ (show i < 2 ^ 62 by omega), out32_refs]
theorem end33b (F : Ev.Cl) (s : Sm) (x : BitVec 64) (p : List UInt8) : isEx (evC (gl w) F L33b (S33b s x p 8)) = true := by
  simp only [L33b, m33, S33b, go_sem, reduceIte, Nat.reduceEqDiff, Nat.reduceAdd, Nat.reduceSub, Nat.reduceMul, Nat.reduceDiv, Nat.reduceMod, Nat.reduceLT, Nat.reduceLeDiff, Nat.reduceBEq, Nat.reduceBNe, Int.reduceLE, Int.reduceLT, Int.reduceToNat, Int.reduceEq, Int.reduceBEq, Int.reduceBNe, Int.reduceNeg, Int.reduceSub, Int.reduceMul, Int.reduceAdd, BitVec.reduceOfInt, reduceCtorEq, ↓reduceIte]
/-! ### The bytes that leave -/
def H8.get (s : H8) : Nat → BitVec 32
  | 0 => s.a | 1 => s.b | 2 => s.c | 3 => s.d | 4 => s.e | 5 => s.f | 6 => s.g | _ => s.h
def outB (s : H8) (i : Nat) : BitVec 8 := (s.get (i / 4) >>> (24 - 8 * (i % 4) : Nat)).setWidth 8
def outL (s : H8) (i : Nat) : List UInt8 := ((List.range i).map fun j => ub (outB s j)) ++ List.replicate (32 - i) 0
theorem outL_len (s : H8) (i : Nat) (h : i ≤ 32) : (outL s i).length = 32 := by simp [outL]; omega
theorem outL_succ (s : H8) (i : Nat) (h : i < 32) : outL s (i + 1) = (outL s i).set i (ub (outB s i)) := by
  have e : 32 - i = (32 - (i + 1)) + 1 := by omega
  unfold outL
  rw [List.range_succ, List.map_append, e, List.replicate_succ]
  simp [List.set_append]
def L33c : MC := match m33 with
  | .seq _ (.seq _ (.seq _ (.seq _ (.seq _ (.seq _ (.seq _ (.seq (.seq _ (.block _ (.loop _ b))) _))))))) => b
  | _ => .skip
def K33c : List Kp := [.slot 1, .slot 2, .slot 6, .slot 40, .key 1, .key 2, .key 6]
def S33c (s : Sm) (i : Nat) : St :=
  ⟨[.set 40 (.int .i64 i), .set 6 (.ptr 6 []), .set 2 (.ptr 2 []), .set 1 (.ptr 1 [])],
   [(6, .fix (.ar 32 .sc) (.agg (bytesAV (outL s.h i)))), (2, .fix (.ar 32 .sc) out32), (1, .fix (.st [.ar 8 .sc, .ar 64 .sc, .sc]) s.av)]⟩
theorem h8_get (h : H8) (j : Nat) (hj : j < 8) : ([u32 h.a, u32 h.b, u32 h.c, u32 h.d, u32 h.e, u32 h.f, u32 h.g, u32 h.h] : List AV)[j]? = some (u32 (h.get j)) := by
  match j, hj with
  | 0, _ => rfl
  | 1, _ => rfl
  | 2, _ => rfl
  | 3, _ => rfl
  | 4, _ => rfl
  | 5, _ => rfl
  | 6, _ => rfl
  | 7, _ => rfl
theorem quo4 (a : Nat) (h : a < 2 ^ 62) : binInt .quo .i64 (a : Int) 4 = some (.int .i64 ((a / 4 : Nat) : Int)) := by
  have h8 : ¬ ((4 : Int) = 0) := by decide
  simp only [binInt, h8, if_false]
  have e : (a : Int).tdiv 4 = ((a / 4 : Nat) : Int) := rfl
  rw [e, wrap_i64 (by omega) (by omega)]
theorem rem4 (a : Nat) : binInt .rem .i64 (a : Int) 4 = some (.int .i64 ((a % 4 : Nat) : Int)) := by
  have h8 : ¬ ((4 : Int) = 0) := by decide
  simp only [binInt, h8, if_false]; rfl
theorem bytesAV_set' (l : List UInt8) (i : Nat) (b : BitVec 8) : bytesAV (l.set i (ub b)) = (bytesAV l).set i (.int .u8 (b.toNat : Int)) := by
  simp [bytesAV, List.map_set, ub]
theorem step33c (F : Ev.Cl) (s : Sm) (i : Nat) (hi : i < 32) : contK K33c (evC (gl w) F L33c (S33c s i)) = some (S33c s (i + 1)) := by
  have hw1 : IntKind.wrap .i64 (8 * ((i % 4 : Nat) : Int)) = ((8 * (i % 4) : Nat) : Int) := by rw [wrap_i64 (by omega) (by omega)]; omega
  have hw2 : IntKind.wrap .i64 (24 - ((8 * (i % 4) : Nat) : Int)) = ((24 - 8 * (i % 4) : Nat) : Int) := by rw [wrap_i64 (by omega) (by omega)]; omega
  have hg := h8_get s.h (i / 4) (by omega)
  have hl := outL_len s.h i (by omega)
  have hgo : ∃ y, (bytesAV (outL s.h i))[i]? = some (.int .u8 y) := ⟨_, bytesAV_get (by omega)⟩
  obtain ⟨y, hgo⟩ := hgo
  have h8 : i / 4 < 8 := by omega
  unfold S33c
  rw [outL_succ _ _ hi, bytesAV_set']
  simp only [L33c, m33, K33c, Sm.av, H8.av, go_sem, reduceIte, Nat.reduceEqDiff, Nat.reduceAdd, Nat.reduceSub, Nat.reduceMul, Nat.reduceDiv, Nat.reduceMod, Nat.reduceLT, Nat.reduceLeDiff, Nat.reduceBEq, Nat.reduceBNe, Int.reduceLE, Int.reduceLT, Int.reduceToNat, Int.reduceEq, Int.reduceBEq, Int.reduceBNe, Int.reduceNeg, Int.reduceSub, Int.reduceMul, Int.reduceAdd, BitVec.reduceOfInt, reduceCtorEq, ↓reduceIte, hi, quo4 _ (show i < 2 ^ 62 by omega), rem4, hw1, hw2, hg, h8, hgo, bytesAV_length, hl, outB, wrap_succ (show i < 2 ^ 62 by omega), out32_refs]
theorem end33c (F : Ev.Cl) (s : Sm) : isEx (evC (gl w) F L33c (S33c s 32)) = true := by
  simp only [L33c, m33, S33c, go_sem, reduceIte, Nat.reduceEqDiff, Nat.reduceAdd, Nat.reduceSub, Nat.reduceMul, Nat.reduceDiv, Nat.reduceMod, Nat.reduceLT, Nat.reduceLeDiff, Nat.reduceBEq, Nat.reduceBNe, Int.reduceLE, Int.reduceLT, Int.reduceToNat, Int.reduceEq, Int.reduceBEq, Int.reduceBNe, Int.reduceNeg, Int.reduceSub, Int.reduceMul, Int.reduceAdd, BitVec.reduceOfInt, reduceCtorEq, ↓reduceIte]
/-- The hash of a message. -/
def hashL (m : List UInt8) : List UInt8 := outL (blocksF (m ++ padF m.length) ((m.length + (padF m.length).length) / 64)) 32
theorem sum33_F (F : Ev.Cl) (s : Sm) (m : List UInt8) (hs : Reps s m) (hm : m.length < 2 ^ 59)
    (c32 : ∀ t : List UInt8, m.length + t.length < 2 ^ 60 → ∃ s', Reps s' (m ++ t) ∧ F 32 [s.av, .str t] [] = some (s'.av, [], [])) :
    finK fd33.res fd33.pk (evC (gl w) F fd33.body { fr := frOf 0 [s.av], hp := [] }) = some (.agg (bytesAV (hashL m)), [], []) := by
  have hn := hs.1
  have hpl : (pad1 (padZ s.n)).length < 100 := by rw [pad1_len]; have : padZ s.n < 64 := Nat.mod_lt _ (by omega); omega
  have hpF : (padF m.length).length < 200 := by unfold padF; rw [List.length_append, lenB_len, ← hn]; omega
  obtain ⟨s', hr, e32⟩ := c32 (padF m.length) (by omega)
  have hX : (BitVec.ofNat 64 8 * BitVec.ofNat 64 s.n) = BitVec.ofNat 64 (8 * s.n) := by rw [BitVec.ofNat_mul]
  have e1 : ∀ st, clean K33 st = some (S33 s (BitVec.ofNat 64 (8 * s.n)).toNat (pad1 0)) → iter (evC (gl w) F L33) K33 LF st = evC (gl w) F L33 (S33 s (BitVec.ofNat 64 (8 * s.n)).toNat (pad1 (padZ s.n))) := fun st h0 =>
    iter_to (fun i => S33 s (BitVec.ofNat 64 (8 * s.n)).toNat (pad1 i)) (padZ s.n) (by have : padZ s.n < 64 := Nat.mod_lt _ (by omega); unfold LF; omega) h0 (fun i hi => step33 F s _ i (by omega) hi) (end33 F s _ (by omega))
  have e2 : ∀ st, clean K33b st = some (S33b s (BitVec.ofNat 64 (8 * s.n)) (pad1 (padZ s.n) ++ lenB s.n 0) 0) → iter (evC (gl w) F L33b) K33b LF st = evC (gl w) F L33b (S33b s (BitVec.ofNat 64 (8 * s.n)) (pad1 (padZ s.n) ++ lenB s.n 8) 8) := fun st h0 =>
    iter_to (fun i => S33b s (BitVec.ofNat 64 (8 * s.n)) (pad1 (padZ s.n) ++ lenB s.n i) i) 8 (by unfold LF; omega) h0 (fun i hi => step33b F s s.n i _ hpl hi) (end33b F s _ _)
  have e3 : ∀ st, clean K33c st = some (S33c s' 0) → iter (evC (gl w) F L33c) K33c LF st = evC (gl w) F L33c (S33c s' 32) := fun st h0 =>
    iter_to (S33c s') 32 (by unfold LF; omega) h0 (fun i hi => step33c F s' i hi) (end33c F s')
  have hend : outL s'.h 32 = hashL m := by
    unfold hashL; rw [hr.2.2.2, List.length_append]
  have hpad : pad1 (padZ s.n) ++ lenB s.n 8 = padF m.length := by rw [hn]; rfl
  have hol : (hashL m).length = 32 := outL_len _ 32 (by omega)
  have hbl := hs.2.1
  have hbl' := hr.2.1
  simp only [L33, m33, K33] at e1
  simp only [L33b, m33, K33b] at e2
  simp only [L33c, m33, K33c] at e3
  have hz0 : lenB s.n 0 = [] := rfl
  have hp0 : bytesAV (pad1 0) = [.int .u8 128] := rfl
  have hq0 : bytesAV (outL s'.h 0) = List.replicate 32 (.int .u8 0) := rfl
  simp only [fd33, m33, Sm.av, H8.av, go_sem, reduceIte, Nat.reduceEqDiff, Nat.reduceAdd, Nat.reduceSub, Nat.reduceMul, Nat.reduceDiv, Nat.reduceMod, Nat.reduceLT, Nat.reduceLeDiff, Nat.reduceBEq, Nat.reduceBNe, Int.reduceLE, Int.reduceLT, Int.reduceToNat, Int.reduceEq, Int.reduceBEq, Int.reduceBNe, Int.reduceNeg, Int.reduceSub, Int.reduceMul, Int.reduceAdd, BitVec.reduceOfInt, reduceCtorEq, ↓reduceIte, bytesAV_length, bytes_all, hbl, hX]
  rw [e1 _ (by simp only [S33, Sm.av, H8.av, go_sem, reduceIte, Nat.reduceEqDiff, Nat.reduceAdd, Nat.reduceSub, Nat.reduceMul, Nat.reduceDiv, Nat.reduceMod, Nat.reduceLT, Nat.reduceLeDiff, Nat.reduceBEq, Nat.reduceBNe, Int.reduceLE, Int.reduceLT, Int.reduceToNat, Int.reduceEq, Int.reduceBEq, Int.reduceBNe, Int.reduceNeg, Int.reduceSub, Int.reduceMul, Int.reduceAdd, BitVec.reduceOfInt, reduceCtorEq, ↓reduceIte, hp0, pad1_len]; rfl)]
  have hne : (s.n + (padZ s.n + 1)) % 64 = 56 := by unfold padZ; omega
  have hw1 : IntKind.wrap .i64 ((s.n : Nat) : Int) = ((s.n : Nat) : Int) := wrap_i64 (by omega) (by omega)
  have hw2 : IntKind.wrap .i64 (((s.n : Nat) : Int) + ((padZ s.n + 1 : Nat) : Int)) = ((s.n + (padZ s.n + 1) : Nat) : Int) := by have : padZ s.n < 64 := Nat.mod_lt _ (by omega); rw [wrap_i64 (by omega) (by omega)]; omega
  have hrem : binInt .rem .i64 ((s.n + (padZ s.n + 1) : Nat) : Int) 64 = some (.int .i64 (((s.n + (padZ s.n + 1)) % 64 : Nat) : Int)) := rem_nat _ 64 (by omega)
  have hb : ((((s.n + (padZ s.n + 1)) % 64 : Nat) : Int) != 56) = false := by rw [hne]; rfl
  simp only [S33, Sm.av, H8.av, go_sem, reduceIte, Nat.reduceEqDiff, Nat.reduceAdd, Nat.reduceSub, Nat.reduceMul, Nat.reduceDiv, Nat.reduceMod, Nat.reduceLT, Nat.reduceLeDiff, Nat.reduceBEq, Nat.reduceBNe, Int.reduceLE, Int.reduceLT, Int.reduceToNat, Int.reduceEq, Int.reduceBEq, Int.reduceBNe, Int.reduceNeg, Int.reduceSub, Int.reduceMul, Int.reduceAdd, BitVec.reduceOfInt, reduceCtorEq, ↓reduceIte, hw1, hw2, hrem, hb, pad1_len]
  rw [e2 _ (by simp only [S33b, Sm.av, H8.av, go_sem, reduceIte, Nat.reduceEqDiff, Nat.reduceAdd, Nat.reduceSub, Nat.reduceMul, Nat.reduceDiv, Nat.reduceMod, Nat.reduceLT, Nat.reduceLeDiff, Nat.reduceBEq, Nat.reduceBNe, Int.reduceLE, Int.reduceLT, Int.reduceToNat, Int.reduceEq, Int.reduceBEq, Int.reduceBNe, Int.reduceNeg, Int.reduceSub, Int.reduceMul, Int.reduceAdd, BitVec.reduceOfInt, reduceCtorEq, ↓reduceIte, hz0, pad1_len, List.append_nil, out32_refs])]
  rw [hpad]
  simp only [Sm.av, H8.av] at e32
  have hlim : (padF m.length).length ≤ LIM := by unfold LIM; omega
  simp only [S33b, Sm.av, H8.av, go_sem, reduceIte, Nat.reduceEqDiff, Nat.reduceAdd, Nat.reduceSub, Nat.reduceMul, Nat.reduceDiv, Nat.reduceMod, Nat.reduceLT, Nat.reduceLeDiff, Nat.reduceBEq, Nat.reduceBNe, Int.reduceLE, Int.reduceLT, Int.reduceToNat, Int.reduceEq, Int.reduceBEq, Int.reduceBNe, Int.reduceNeg, Int.reduceSub, Int.reduceMul, Int.reduceAdd, BitVec.reduceOfInt, reduceCtorEq, ↓reduceIte, e32, bytesAV_length, bytes_all, hbl']
  rw [e3 _ (by simp only [S33c, Sm.av, H8.av, go_sem, reduceIte, Nat.reduceEqDiff, Nat.reduceAdd, Nat.reduceSub, Nat.reduceMul, Nat.reduceDiv, Nat.reduceMod, Nat.reduceLT, Nat.reduceLeDiff, Nat.reduceBEq, Nat.reduceBNe, Int.reduceLE, Int.reduceLT, Int.reduceToNat, Int.reduceEq, Int.reduceBEq, Int.reduceBNe, Int.reduceNeg, Int.reduceSub, Int.reduceMul, Int.reduceAdd, BitVec.reduceOfInt, reduceCtorEq, ↓reduceIte, hq0, out32_refs])]
  simp only [S33c, Sm.av, H8.av, go_sem, reduceIte, Nat.reduceEqDiff, Nat.reduceAdd, Nat.reduceSub, Nat.reduceMul, Nat.reduceDiv, Nat.reduceMod, Nat.reduceLT, Nat.reduceLeDiff, Nat.reduceBEq, Nat.reduceBNe, Int.reduceLE, Int.reduceLT, Int.reduceToNat, Int.reduceEq, Int.reduceBEq, Int.reduceBNe, Int.reduceNeg, Int.reduceSub, Int.reduceMul, Int.reduceAdd, BitVec.reduceOfInt, reduceCtorEq, ↓reduceIte, hend, bytesAV_length, bytes_all, hol]
theorem ssum_at {n : Nat} (h : 5 ≤ n) (s : Sm) (m : List UInt8) (hs : Reps s m) (hm : m.length < 2 ^ 59) : call (gl w) tab n 33 [s.av] [] = some (.agg (bytesAV (hashL m)), [], []) := by
  obtain ⟨d, rfl⟩ := Nat.exists_eq_add_of_le' h
  exact (call_go (n := d + 4) (fd := fd33) rfl).trans (sum33_F (call (gl w) tab (d + 4)) s m hs hm fun t ht => sadd_at (by omega) s m t hs ht)
theorem hashL_len (m : List UInt8) : (hashL m).length = 32 := outL_len _ 32 (by omega)
theorem hsum_ok {n : Nat} (h : 5 ≤ n) (nb : Bool) (m : List UInt8) (hm : m.length < 2 ^ 36) : call (gl w) tab (n + 1) 29 [.lst nb .sc (bytesAV m)] [] = some (.agg (bytesAV (hashL m)), [], []) := by
  obtain ⟨s', hr, ha⟩ := sadd_at (w := w) (n := n) (by omega) s0 [] m reps0 (by simp; omega)
  have hb := @sbegin_at w n (by omega)
  rw [List.nil_append] at hr
  have hs := @ssum_at w n h s' m hr (by omega)
  have hl := hashL_len m
  simp only [Sm.av, H8.av] at hb ha hs
  rw [call_go (fd := fd29) rfl]
  simp only [fd29, m29, go_sem, reduceIte, Nat.reduceEqDiff, Nat.reduceAdd, Nat.reduceSub, Nat.reduceMul, Nat.reduceDiv, Nat.reduceMod, Nat.reduceLT, Nat.reduceLeDiff, Nat.reduceBEq, Nat.reduceBNe, Int.reduceLE, Int.reduceLT, Int.reduceToNat, Int.reduceEq, Int.reduceBEq, Int.reduceBNe, Int.reduceNeg, Int.reduceSub, Int.reduceMul, Int.reduceAdd, BitVec.reduceOfInt, reduceCtorEq, ↓reduceIte, hb, ha, hs, bytesAV_length, bytes_all, noImms_bytesAV, hl]
end Go.Proofs.S02
