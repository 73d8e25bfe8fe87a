/-
  Chapter 8: which numbers are powers of two. No condition.
-/
import Derived.Test.YtjpfinklpodhnaaDoorW08XX
import Derived.Test.YtjpfinklpodhnaaDoorW08MM
import Derived.Test.YtjpfinklpodhnaaDoorW08PP
set_option linter.unusedVariables false
set_option linter.unusedSimpArgs false
set_option linter.unusedSectionVars false
namespace Go.Proofs.S08
open Go Go.Ev Go.Proofs
set_option linter.unusedSimpArgs false
set_option linter.unusedVariables false
theorem pc0 : ∀ b : Fin 256, pcb b.val = 0 → b.val = 0 := by decide +kernel
theorem pc1 : ∀ b : Fin 256, pcb b.val = 1 → ∃ i : Fin 8, b.val = 2 ^ i.val := by decide +kernel
theorem sw2 : ∀ k : Fin 63, (sw (BitVec.ofNat 64 (2 ^ k.val)) &&& 127#64).toNat = 1 := by decide +kernel
theorem pc_0 {b : Nat} (h : b < 256) (h0 : pcb b = 0) : b = 0 := pc0 ⟨b, h⟩ h0
theorem pc_1 {b : Nat} (h : b < 256) (h0 : pcb b = 1) : ∃ i, i < 8 ∧ b = 2 ^ i := by
  obtain ⟨i, hi⟩ := pc1 ⟨b, h⟩ h0
  exact ⟨i.val, i.isLt, hi⟩
theorem isP_of {w j i : Nat} (h : w = 2 ^ (8 * j) * 2 ^ i) (hw : w < 2 ^ 63) : isP (w : Int) := by
  rw [← Nat.pow_add] at h
  have hk : 8 * j + i < 63 := by
    rw [h] at hw
    exact (Nat.pow_lt_pow_iff_right (by decide)).1 hw
  exact ⟨8 * j + i, hk, by rw [pw_lo hk, h]⟩
theorem one8 {p0 p1 p2 p3 p4 p5 p6 p7 : Nat} (h : p0 + p1 + (p2 + p3) + (p4 + p5 + (p6 + p7)) = 1) :
    (p0 = 1 ∧ p1 = 0 ∧ p2 = 0 ∧ p3 = 0 ∧ p4 = 0 ∧ p5 = 0 ∧ p6 = 0 ∧ p7 = 0) ∨ (p0 = 0 ∧ p1 = 1 ∧ p2 = 0 ∧ p3 = 0 ∧ p4 = 0 ∧ p5 = 0 ∧ p6 = 0 ∧ p7 = 0) ∨
    (p0 = 0 ∧ p1 = 0 ∧ p2 = 1 ∧ p3 = 0 ∧ p4 = 0 ∧ p5 = 0 ∧ p6 = 0 ∧ p7 = 0) ∨ (p0 = 0 ∧ p1 = 0 ∧ p2 = 0 ∧ p3 = 1 ∧ p4 = 0 ∧ p5 = 0 ∧ p6 = 0 ∧ p7 = 0) ∨
    (p0 = 0 ∧ p1 = 0 ∧ p2 = 0 ∧ p3 = 0 ∧ p4 = 1 ∧ p5 = 0 ∧ p6 = 0 ∧ p7 = 0) ∨ (p0 = 0 ∧ p1 = 0 ∧ p2 = 0 ∧ p3 = 0 ∧ p4 = 0 ∧ p5 = 1 ∧ p6 = 0 ∧ p7 = 0) ∨
    (p0 = 0 ∧ p1 = 0 ∧ p2 = 0 ∧ p3 = 0 ∧ p4 = 0 ∧ p5 = 0 ∧ p6 = 1 ∧ p7 = 0) ∨ (p0 = 0 ∧ p1 = 0 ∧ p2 = 0 ∧ p3 = 0 ∧ p4 = 0 ∧ p5 = 0 ∧ p6 = 0 ∧ p7 = 1) := by omega
/-- One bit is set: a power of two. -/
theorem sw_one {w : Nat} (hw : w < 2 ^ 63) : (sw (BitVec.ofNat 64 w) &&& 127#64).toNat = 1 ↔ isP (w : Int) := by
  have hx : (BitVec.ofNat 64 w).toNat = w := by rw [BitVec.toNat_ofNat, Nat.mod_eq_of_lt (by omega)]
  constructor
  · intro h
    obtain ⟨b0, b1, b2, b3, b4, b5, b6, b7, l0, l1, l2, l3, l4, l5, l6, l7, he, hz⟩ := Z_8 (x := w) (by omega)
    have hn := Z_nat (BitVec.ofNat 64 w)
    rw [hx, hz] at hn
    have ht := tail_nat (pcb_le _ l0) (pcb_le _ l1) (pcb_le _ l2) (pcb_le _ l3) (pcb_le _ l4) (pcb_le _ l5) (pcb_le _ l6) (pcb_le _ l7) hn
    have h' : (a6 (a5 (a4 (a3 (a2 (a1 (BitVec.ofNat 64 w)))))) &&& 127#64).toNat = 1 := h
    rw [ht] at h'
    clear hn ht hz h hx
    rcases one8 h' with ⟨e0, e1, e2, e3, e4, e5, e6, e7⟩ | ⟨e0, e1, e2, e3, e4, e5, e6, e7⟩ | ⟨e0, e1, e2, e3, e4, e5, e6, e7⟩ | ⟨e0, e1, e2, e3, e4, e5, e6, e7⟩ | ⟨e0, e1, e2, e3, e4, e5, e6, e7⟩ | ⟨e0, e1, e2, e3, e4, e5, e6, e7⟩ | ⟨e0, e1, e2, e3, e4, e5, e6, e7⟩ | ⟨e0, e1, e2, e3, e4, e5, e6, e7⟩
    · obtain ⟨i, hi, e0⟩ := pc_1 l0 e0
      have e1 := pc_0 l1 e1; have e2 := pc_0 l2 e2; have e3 := pc_0 l3 e3; have e4 := pc_0 l4 e4; have e5 := pc_0 l5 e5; have e6 := pc_0 l6 e6; have e7 := pc_0 l7 e7
      exact isP_of (j := 0) (i := i) (by rw [he, ← e0, e1, e2, e3, e4, e5, e6, e7]; simp) hw
    · obtain ⟨i, hi, e1⟩ := pc_1 l1 e1
      have e0 := pc_0 l0 e0; have e2 := pc_0 l2 e2; have e3 := pc_0 l3 e3; have e4 := pc_0 l4 e4; have e5 := pc_0 l5 e5; have e6 := pc_0 l6 e6; have e7 := pc_0 l7 e7
      exact isP_of (j := 1) (i := i) (by rw [he, ← e1, e0, e2, e3, e4, e5, e6, e7]; simp) hw
    · obtain ⟨i, hi, e2⟩ := pc_1 l2 e2
      have e0 := pc_0 l0 e0; have e1 := pc_0 l1 e1; have e3 := pc_0 l3 e3; have e4 := pc_0 l4 e4; have e5 := pc_0 l5 e5; have e6 := pc_0 l6 e6; have e7 := pc_0 l7 e7
      exact isP_of (j := 2) (i := i) (by rw [he, ← e2, e0, e1, e3, e4, e5, e6, e7]; simp; omega) hw
    · obtain ⟨i, hi, e3⟩ := pc_1 l3 e3
      have e0 := pc_0 l0 e0; have e1 := pc_0 l1 e1; have e2 := pc_0 l2 e2; have e4 := pc_0 l4 e4; have e5 := pc_0 l5 e5; have e6 := pc_0 l6 e6; have e7 := pc_0 l7 e7
      exact isP_of (j := 3) (i := i) (by rw [he, ← e3, e0, e1, e2, e4, e5, e6, e7]; simp; omega) hw
    · obtain ⟨i, hi, e4⟩ := pc_1 l4 e4
      have e0 := pc_0 l0 e0; have e1 := pc_0 l1 e1; have e2 := pc_0 l2 e2; have e3 := pc_0 l3 e3; have e5 := pc_0 l5 e5; have e6 := pc_0 l6 e6; have e7 := pc_0 l7 e7
      exact isP_of (j := 4) (i := i) (by rw [he, ← e4, e0, e1, e2, e3, e5, e6, e7]; simp; omega) hw
    · obtain ⟨i, hi, e5⟩ := pc_1 l5 e5
      have e0 := pc_0 l0 e0; have e1 := pc_0 l1 e1; have e2 := pc_0 l2 e2; have e3 := pc_0 l3 e3; have e4 := pc_0 l4 e4; have e6 := pc_0 l6 e6; have e7 := pc_0 l7 e7
      exact isP_of (j := 5) (i := i) (by rw [he, ← e5, e0, e1, e2, e3, e4, e6, e7]; simp; omega) hw
    · obtain ⟨i, hi, e6⟩ := pc_1 l6 e6
      have e0 := pc_0 l0 e0; have e1 := pc_0 l1 e1; have e2 := pc_0 l2 e2; have e3 := pc_0 l3 e3; have e4 := pc_0 l4 e4; have e5 := pc_0 l5 e5; have e7 := pc_0 l7 e7
      exact isP_of (j := 6) (i := i) (by rw [he, ← e6, e0, e1, e2, e3, e4, e5, e7]; simp; omega) hw
    · obtain ⟨i, hi, e7⟩ := pc_1 l7 e7
      have e0 := pc_0 l0 e0; have e1 := pc_0 l1 e1; have e2 := pc_0 l2 e2; have e3 := pc_0 l3 e3; have e4 := pc_0 l4 e4; have e5 := pc_0 l5 e5; have e6 := pc_0 l6 e6
      exact isP_of (j := 7) (i := i) (by rw [he, ← e7, e0, e1, e2, e3, e4, e5, e6]; simp; omega) hw
  · rintro ⟨k, hk, e⟩
    rw [pw_lo hk] at e
    have e2 : w = 2 ^ k := by omega
    rw [e2]
    exact sw2 ⟨k, hk⟩
variable {gl : Gl} {n : Nat}
theorem power_at (h : 4 ≤ n) {w : Int} (hw : w ≤ 9223372036854775807) : ∃ b : Bool, (b = true ↔ isP w) ∧ call gl tab n 35 [i64 w] [] = some (.bool b, [], []) := by
  obtain ⟨d, rfl⟩ := Nat.exists_eq_add_of_le' h
  by_cases h0 : 0 < w
  case neg =>
    refine ⟨false, ⟨(fun h => by cases h), fun ⟨i, hi, e⟩ => absurd (pw_bd hi).1 (by omega)⟩, ?_⟩
    rw [call_go (fd := fd35) rfl]
    simp (disch := ((fail_if_success (intro _)); omega)) only [go_sem, simprocAttr, ↓reduceIte, ↓Nat.reduceEqDiff, xx, fd35, m35]
  obtain ⟨w, rfl⟩ : ∃ v : Nat, w = v := ⟨w.toNat, by omega⟩
  have hs := sw_one (w := w) (by omega)
  have c53 := @ones_at gl (d + 2) (by omega) (BitVec.ofNat 64 w)
  have hlt : (sw (BitVec.ofNat 64 w) &&& 127#64).toNat ≤ 127 := by rw [BitVec.toNat_and]; exact Nat.and_le_right
  generalize sw (BitVec.ofNat 64 w) &&& 127#64 = y at *
  have hi : y.toInt = (y.toNat : Int) := BitVec.toInt_eq_toNat_of_lt (by omega)
  rw [hi] at c53
  have hx : (BitVec.ofNat 64 w).toNat = w := by rw [BitVec.toNat_ofNat, Nat.mod_eq_of_lt (by omega)]
  rw [hx] at c53
  have c44 : call gl tab (d + 3) 44 [.int .u64 (w : Int)] [] = some (.int .i64 (y.toNat : Int), [], []) := by
    rw [call_go (fd := fd44) rfl]
    simp (disch := ((fail_if_success (intro _)); omega)) only [go_sem, simprocAttr, ↓reduceIte, ↓Nat.reduceEqDiff, xx, fd44, m44, c53]
  have hcv : IntKind.wrap .u64 (w : Int) = (w : Int) := by rw [wrap_u64, BitVec.ofInt_natCast, hx]
  have hcv2 : ((BitVec.ofInt 64 (w : Int)).toNat : Int) = (w : Int) := by rw [BitVec.ofInt_natCast, hx]
  refine ⟨(y.toNat : Int) == 1, ?_, ?_⟩
  · rw [← hs, beq_iff_eq]; omega
  · rw [call_go (fd := fd35) rfl]
    simp (disch := ((fail_if_success (intro _)); omega)) only [go_sem, simprocAttr, ↓reduceIte, ↓Nat.reduceEqDiff, xx, fd35, m35, c44, hcv, hcv2, hx]
end Go.Proofs.S08
namespace Go.Proofs.S08
open Go Go.Ev Go.Proofs
set_option linter.unusedSimpArgs false
set_option linter.unusedVariables false
variable {gl : Gl} {n : Nat}
abbrev cpS (w s a : Int) (f : Bool) (l : List Int) : AV := .cp (.st [.sc, .sc, .sc, .sc]) (.agg [i64 w, i64 s, i64 a, .lst f .sc (ns l)])
theorem bad_no (h : 1 ≤ n) {w s a : Int} {f : Bool} {l : List Int} {x : Int} (hx : 0 ≤ x ∧ x ≤ 15 ∧ x ≤ a) : call gl tab n 40 [i64 x, cpS w s a f l] [] = some (.bool false, [], []) := by
  obtain ⟨d, rfl⟩ := Nat.exists_eq_add_of_le' h
  rw [call_go (fd := fd40) rfl]
  simp (disch := ((fail_if_success (intro _)); omega)) only [go_sem, simprocAttr, ↓reduceIte, ↓Nat.reduceEqDiff, xx, fd40, m40]
theorem bad_yes (h : 1 ≤ n) {w s a : Int} {f : Bool} {l : List Int} {x : Int} (hx : ¬ (0 ≤ x ∧ x ≤ 15 ∧ x ≤ a)) : call gl tab n 40 [i64 x, cpS w s a f l] [] = some (.bool true, [], []) := by
  obtain ⟨d, rfl⟩ := Nat.exists_eq_add_of_le' h
  rw [call_go (fd := fd40) rfl]
  by_cases g1 : 0 ≤ x
  case neg => simp (disch := ((fail_if_success (intro _)); omega)) only [go_sem, simprocAttr, ↓reduceIte, ↓Nat.reduceEqDiff, xx, fd40, m40]
  by_cases g2 : x ≤ 15
  case neg => simp (disch := ((fail_if_success (intro _)); omega)) only [go_sem, simprocAttr, ↓reduceIte, ↓Nat.reduceEqDiff, xx, fd40, m40]
  simp (disch := ((fail_if_success (intro _)); omega)) only [go_sem, simprocAttr, ↓reduceIte, ↓Nat.reduceEqDiff, xx, fd40, m40]
def L45 : MC := match m45 with | .seq _ (.seq (.seq _ (.block _ (.loop _ b))) _) => b | _ => .skip
def S45 (w s a : Int) (f : Bool) (l : List Int) (i : Nat) : St := ⟨[.set 8 (i64 i), .set 7 (i64 l.length), .set 1 (.fn 40 [cpS w s a f l]), .set 0 (.lst f .sc (ns l))], []⟩
theorem index_at (h : 2 ≤ n) {w s a : Int} {f : Bool} {l : List Int} (hl : l.length < 2 ^ 20) :
    ∃ b : Bool, (b = true ↔ ∀ i, i < l.length → CO a l i) ∧ ∃ k : Int, (b = true → k = -1) ∧ (b = false → 0 ≤ k ∧ k ≤ 1048576) ∧ call gl tab n 45 [.lst f .sc (ns l), .fn 40 [cpS w s a f l]] [] = some (i64 k, [], []) := by
  obtain ⟨d, rfl⟩ := Nat.exists_eq_add_of_le' h
  have hs : ∀ i, i < l.length → CO a l i → contK [.slot 0, .slot 1, .slot 7, .slot 8] (evC gl (call gl tab (d + 1)) L45 (S45 w s a f l i)) = some (S45 w s a f l (i + 1)) := fun i hi hp => by
    have hx := ns_at hi
    have c := @bad_no gl (d + 1) (by omega) w s a f l (nat l i) hp
    simp (disch := ((fail_if_success (intro _)); omega)) only [go_sem, simprocAttr, ↓reduceIte, ↓Nat.reduceEqDiff, xx, L45, m45, S45, ns_length, hx, c]
  have hf : ∀ i, i < l.length → ¬ CO a l i → out1 4 (evC gl (call gl tab (d + 1)) L45 (S45 w s a f l i)) = some (.ret, i64 i) := fun i hi hp => by
    have hx := ns_at hi
    have c := @bad_yes gl (d + 1) (by omega) w s a f l (nat l i) hp
    simp (disch := ((fail_if_success (intro _)); omega)) only [go_sem, simprocAttr, ↓reduceIte, ↓Nat.reduceEqDiff, xx, L45, m45, S45, ns_length, hx, c]
  rw [call_go (fd := fd45) rfl]
  rcases first_fail (CO a l) l.length with ha | ⟨k, hk, hb', he⟩
  · refine ⟨true, ⟨fun _ => ha, fun _ => rfl⟩, -1, fun _ => rfl, (fun h => by cases h), ?_⟩
    have hs2 := fun i hi => hs i hi (ha i hi)
    simp only [L45, m45] at hs2
    simp (disch := ((fail_if_success (intro _)); omega)) only [go_sem, simprocAttr, ↓reduceIte, ↓Nat.reduceEqDiff, xx, fd45, m45, ns_length]
    rw [iter_to (S45 w s a f l) l.length (by unfold LF; omega)]
    · simp (disch := ((fail_if_success (intro _)); omega)) only [go_sem, simprocAttr, ↓reduceIte, ↓Nat.reduceEqDiff, xx, S45, ns_length]
    · simp (disch := ((fail_if_success (intro _)); omega)) only [go_sem, simprocAttr, ↓reduceIte, ↓Nat.reduceEqDiff, xx, S45, ns_length]
    · exact hs2
    · simp (disch := ((fail_if_success (intro _)); omega)) only [go_sem, simprocAttr, ↓reduceIte, ↓Nat.reduceEqDiff, xx, S45, ns_length]
  · obtain ⟨st, hst, hg⟩ := out1_get (hf k hk he)
    have hs2 := fun i (hi : i < k) => hs i (by omega) (hb' i hi)
    simp only [L45, m45] at hs2 hst
    refine ⟨false, ⟨(fun h => by cases h), fun h => absurd (h k hk) he⟩, k, (fun h => by cases h), fun _ => by omega, ?_⟩
    simp (disch := ((fail_if_success (intro _)); omega)) only [go_sem, simprocAttr, ↓reduceIte, ↓Nat.reduceEqDiff, xx, fd45, m45, ns_length]
    rw [iter_to (S45 w s a f l) k (by unfold LF; omega), hst]
    · simp (disch := ((fail_if_success (intro _)); omega)) only [go_sem, simprocAttr, ↓reduceIte, ↓Nat.reduceEqDiff, xx, hg]
    · simp (disch := ((fail_if_success (intro _)); omega)) only [go_sem, simprocAttr, ↓reduceIte, ↓Nat.reduceEqDiff, xx, S45, ns_length]
    · exact hs2
    · rw [hst]; rfl
theorem cont_at (h : 3 ≤ n) {w s a : Int} {f : Bool} {l : List Int} (hl : l.length < 2 ^ 20) :
    ∃ b : Bool, (b = true ↔ ∀ i, i < l.length → CO a l i) ∧ call gl tab n 39 [.lst f .sc (ns l), .fn 40 [cpS w s a f l]] [] = some (.bool (!b), [], []) := by
  obtain ⟨d, rfl⟩ := Nat.exists_eq_add_of_le' h
  obtain ⟨b, hb, k, h1, h2, c⟩ := @index_at gl (d + 2) (by omega) w s a f l hl
  refine ⟨b, hb, ?_⟩
  rw [call_go (fd := fd39) rfl]
  cases b with
  | true =>
    have := h1 rfl
    simp (disch := ((fail_if_success (intro _)); omega)) only [go_sem, simprocAttr, ↓reduceIte, ↓Nat.reduceEqDiff, xx, fd39, m39, c]
  | false =>
    have := h2 rfl
    simp (disch := ((fail_if_success (intro _)); omega)) only [go_sem, simprocAttr, ↓reduceIte, ↓Nat.reduceEqDiff, xx, fd39, m39, c]
set_option maxHeartbeats 4000000 in
theorem valid_at (h : 6 ≤ n) {f : Bool} {w s a : Int} {l : List Int} (hl : l.length < 2 ^ 20) (hw : w ≤ 9223372036854775807) :
    ∃ b : Bool, (b = true ↔ VS w s a l) ∧ call gl tab n 25 [.agg [i64 w, i64 s, i64 a, .lst f .sc (ns l)]] [] = some (.bool b, [], []) := by
  obtain ⟨d, rfl⟩ := Nat.exists_eq_add_of_le' h
  obtain ⟨bp, hbp, c30⟩ := @power_at gl (d + 5) (by omega) w hw
  rw [call_go (fd := fd25) rfl]
  cases bp with
  | false =>
    refine ⟨false, ⟨(fun h => by cases h), fun h => by have := hbp.2 h.vp; cases this⟩, ?_⟩
    simp (disch := ((fail_if_success (intro _)); omega)) only [go_sem, simprocAttr, ↓reduceIte, ↓Nat.reduceEqDiff, xx, fd25, m25, c30]
  | true =>
  have hP := hbp.1 rfl
  have hw1 := isP_pos hP
  by_cases h1 : w ≤ 4096
  case neg =>
    refine ⟨false, ⟨(fun h => by cases h), fun h => absurd h.vw h1⟩, ?_⟩
    simp (disch := ((fail_if_success (intro _)); omega)) only [go_sem, simprocAttr, ↓reduceIte, ↓Nat.reduceEqDiff, xx, fd25, m25, c30]
  by_cases h2 : 1 ≤ s
  case neg =>
    refine ⟨false, ⟨(fun h => by cases h), fun h => absurd h.vs.1 h2⟩, ?_⟩
    simp (disch := ((fail_if_success (intro _)); omega)) only [go_sem, simprocAttr, ↓reduceIte, ↓Nat.reduceEqDiff, xx, fd25, m25, c30]
  by_cases h3 : s ≤ 1048576
  case neg =>
    refine ⟨false, ⟨(fun h => by cases h), fun h => absurd h.vs.2 h3⟩, ?_⟩
    simp (disch := ((fail_if_success (intro _)); omega)) only [go_sem, simprocAttr, ↓reduceIte, ↓Nat.reduceEqDiff, xx, fd25, m25, c30]
  by_cases h4 : 0 ≤ a
  case neg =>
    refine ⟨false, ⟨(fun h => by cases h), fun h => absurd h.va.1 h4⟩, ?_⟩
    simp (disch := ((fail_if_success (intro _)); omega)) only [go_sem, simprocAttr, ↓reduceIte, ↓Nat.reduceEqDiff, xx, fd25, m25, c30]
  by_cases h5 : a < s
  case neg =>
    refine ⟨false, ⟨(fun h => by cases h), fun h => absurd h.va.2 h5⟩, ?_⟩
    simp (disch := ((fail_if_success (intro _)); omega)) only [go_sem, simprocAttr, ↓reduceIte, ↓Nat.reduceEqDiff, xx, fd25, m25, c30]
  by_cases h6 : (l.length : Int) = 4 * w
  case neg =>
    refine ⟨false, ⟨(fun h => by cases h), fun h => absurd h.vn h6⟩, ?_⟩
    have h7 : ((l.length : Int) != 4 * w) = true := by rw [bne_iff_ne]; exact h6
    simp (disch := ((fail_if_success (intro _)); omega)) only [go_sem, simprocAttr, ↓reduceIte, ↓Nat.reduceEqDiff, xx, fd25, m25, c30, ns_length, h7]
  have h7 : ((l.length : Int) != 4 * w) = false := by rw [h6]; simp
  obtain ⟨b, hb, c39⟩ := @cont_at gl (d + 5) (by omega) w s a f l hl
  refine ⟨b, ⟨fun h => ⟨hP, h1, ⟨h2, h3⟩, ⟨h4, h5⟩, h6, hb.1 h⟩, fun h => hb.2 h.vc⟩, ?_⟩
  simp (disch := ((fail_if_success (intro _)); omega)) only [go_sem, simprocAttr, ↓reduceIte, ↓Nat.reduceEqDiff, xx, fd25, m25, c30, ns_length, h7, c39, Bool.not_not]
/-! ### New as specified -/
theorem rnew_ok (h : 2 ≤ n) {w : Nat} {s : Int} (hw : 1 ≤ w ∧ w ≤ 4096) (hs : 1 ≤ s ∧ s ≤ 1048576) (c30 : call gl tab (n - 1) 30 [i64 w] [] = some (.bool true, [], [])) :
    call gl tab n 24 [i64 w, i64 s] [] = some (.agg [.agg [i64 w, i64 s, i64 0, .lst false .sc (ns (List.replicate (4 * w) 0))], i64 0], [], []) := by
  obtain ⟨d, rfl⟩ := Nat.exists_eq_add_of_le' h
  rw [show d + 2 - 1 = d + 1 from rfl] at c30
  have hr := ns_rep (4 * w)
  have hL : 4 * w ≤ LIM := by unfold LIM; omega
  rw [call_go (fd := fd24) rfl]
  have hz : (ns (List.replicate (4 * w) 0)).length = 4 * w := by rw [ns_length, rep_len]
  have hft : List.take (4 * w) (ns (List.replicate (4 * w) 0)) = ns (List.replicate (4 * w) 0) := List.take_of_length_le (by omega)
  generalize ns (List.replicate (4 * w) 0) = z at *
  simp (disch := ((fail_if_success (intro _)); omega)) only [go_sem, simprocAttr, ↓reduceIte, ↓Nat.reduceEqDiff, xx, fd24, m24, c30, hr, hL, hz, hft]
theorem rnew_arg (h : 2 ≤ n) {w s : Int} {b : Bool} (hb : b = false ∨ s < 1) (c30 : call gl tab (n - 1) 30 [i64 w] [] = some (.bool b, [], [])) :
    call gl tab n 24 [i64 w, i64 s] [] = some (.agg [.agg [i64 0, i64 0, i64 0, .lst true .sc []], i64 1], [], []) := by
  obtain ⟨d, rfl⟩ := Nat.exists_eq_add_of_le' h
  rw [show d + 2 - 1 = d + 1 from rfl] at c30
  rw [call_go (fd := fd24) rfl]
  cases b with
  | false => simp (disch := ((fail_if_success (intro _)); omega)) only [go_sem, simprocAttr, ↓reduceIte, ↓Nat.reduceEqDiff, xx, fd24, m24, c30]
  | true =>
    have h1 : s < 1 := by rcases hb with h | h; cases h; exact h
    simp (disch := ((fail_if_success (intro _)); omega)) only [go_sem, simprocAttr, ↓reduceIte, ↓Nat.reduceEqDiff, xx, fd24, m24, c30]
theorem rnew_lim (h : 2 ≤ n) {w s : Int} (hs : 1 ≤ s) (hw : 4096 < w ∨ 1048576 < s) (c30 : call gl tab (n - 1) 30 [i64 w] [] = some (.bool true, [], [])) :
    call gl tab n 24 [i64 w, i64 s] [] = some (.agg [.agg [i64 0, i64 0, i64 0, .lst true .sc []], i64 2], [], []) := by
  obtain ⟨d, rfl⟩ := Nat.exists_eq_add_of_le' h
  rw [show d + 2 - 1 = d + 1 from rfl] at c30
  rw [call_go (fd := fd24) rfl]
  by_cases h1 : 4096 < w
  · simp (disch := ((fail_if_success (intro _)); omega)) only [go_sem, simprocAttr, ↓reduceIte, ↓Nat.reduceEqDiff, xx, fd24, m24, c30]
  · simp (disch := ((fail_if_success (intro _)); omega)) only [go_sem, simprocAttr, ↓reduceIte, ↓Nat.reduceEqDiff, xx, fd24, m24, c30]
end Go.Proofs.S08
