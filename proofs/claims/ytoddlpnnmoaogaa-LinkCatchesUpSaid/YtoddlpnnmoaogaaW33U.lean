/-
  Chapter 33: the receiver catches up. No condition.
-/
import Derived.Test.YtoddlpnnmoaogaaW33L4
set_option linter.unusedVariables false
set_option linter.unusedSimpArgs false
set_option linter.unusedSectionVars false
namespace Go.Proofs.S33
open Go Go.Ev Go.Proofs
set_option linter.unusedSimpArgs false
set_option linter.unusedVariables false
variable {gl : Gl} {n : Nat}
def L5 : MC := match m5 with | .seq _ (.seq _ (.seq _ (.seq (.seq _ (.block _ (.loop _ b))) _))) => b | _ => .skip
set_option maxHeartbeats 4000000 in
theorem step5 (h : 8 ≤ n) {l : List Act} (hl : l.length ≤ 100) (hb : ∀ i, i < l.length → (0 ≤ (aat l i).k ∧ (aat l i).k ≤ 255) ∧ (aat l i).v ≤ 255) {i : Nat} (hi : i < l.length) {w : Ln} (hw : LI i w) :
    ∃ w', LI (i + 1) w' ∧ contK k4 (evC gl (call gl tab n) L5 (S4 l w i)) = some (S4 l w' (i + 1)) := by
  obtain ⟨hb1, hb2⟩ := hb i hi
  have hx := acs_at hi
  obtain ⟨w', hw', har⟩ := @act_at gl n h i w hw (by omega) (aat l i).k (aat l i).v hb1 hb2
  refine ⟨w', hw', ?_⟩
  have hc : w.c = 0 ∨ w.c = 1 ∨ w.c = 2 := by
    by_cases h2 : 2 ≤ w.c
    · exact .inr (.inr (hw.c2 h2).2.2)
    · omega
  generalize aat l i = x at *
  cases har with
  | same h1 h2 h3 h4 c =>
    rcases hc with h0 | h0 | h0
    · rw [h0] at h1
      simp only [avL, impL, h0, h1] at c
      simp only [Ln.O, Ln.I] at c
      simp only [S4, hL, avL, h0, h1, Ln.O, Ln.I]
      simp (disch := ((fail_if_success (intro _)); omega)) only [go_sem, simprocAttr, ↓reduceIte, ↓Nat.reduceEqDiff, xx, L5, m5, acs_length, hx, c]
    · rw [h0] at h1
      simp only [avL, impL, h0, h1, iB, h2] at c
      simp only [Ln.O, Ln.I, h2] at c
      simp only [S4, hL, avL, h0, h1, Ln.O, Ln.I, h2]
      simp (disch := ((fail_if_success (intro _)); omega)) only [go_sem, simprocAttr, ↓reduceIte, ↓Nat.reduceEqDiff, xx, L5, m5, acs_length, hx, c, fm_length]
    · rw [h0] at h1
      simp only [avL, impL, h0, h1, iC, h2, h3, h4] at c
      simp only [Ln.O, Ln.I, h2, h3, h4] at c
      simp only [S4, hL, avL, h0, h1, Ln.O, Ln.I, h2, h3, h4]
      simp (disch := ((fail_if_success (intro _)); omega)) only [go_sem, simprocAttr, ↓reduceIte, ↓Nat.reduceEqDiff, xx, L5, m5, acs_length, hx, c, fm_length, tn_length]
  | sent h1 h3 h4 c =>
    rcases hc with h0 | h0 | h0
    · rw [h0, if_pos rfl] at h1
      simp only [avL, impL, h0, h1] at c
      simp only [Ln.O, Ln.I] at c
      simp only [S4, hL, avL, h0, h1, Ln.O, Ln.I]
      simp (disch := ((fail_if_success (intro _)); omega)) only [go_sem, simprocAttr, ↓reduceIte, ↓Nat.reduceEqDiff, xx, L5, m5, acs_length, hx, c, fm_length]
    · rw [h0, if_neg (by decide)] at h1
      simp only [avL, impL, h0, h1, iB] at c
      simp only [Ln.O, Ln.I] at c
      simp only [S4, hL, avL, h0, h1, Ln.O, Ln.I]
      simp (disch := ((fail_if_success (intro _)); omega)) only [go_sem, simprocAttr, ↓reduceIte, ↓Nat.reduceEqDiff, xx, L5, m5, acs_length, hx, c, fm_length]
    · rw [h0, if_neg (by decide)] at h1
      simp only [avL, impL, h0, h1, iC, h3, h4] at c
      simp only [Ln.O, Ln.I, h3, h4] at c
      simp only [S4, hL, avL, h0, h1, Ln.O, Ln.I, h3, h4]
      simp (disch := ((fail_if_success (intro _)); omega)) only [go_sem, simprocAttr, ↓reduceIte, ↓Nat.reduceEqDiff, xx, L5, m5, acs_length, hx, c, fm_length, tn_length]
  | rcvd h0' h1 h2 c =>
    rcases hc with h0 | h0 | h0
    · exact absurd h0 h0'
    · simp only [avL, impL, h0, h1, iB, h2] at c
      simp only [Ln.O, Ln.I, h2] at c
      simp only [S4, hL, avL, h0, h1, Ln.O, Ln.I, h2]
      simp (disch := ((fail_if_success (intro _)); omega)) only [go_sem, simprocAttr, ↓reduceIte, ↓Nat.reduceEqDiff, xx, L5, m5, acs_length, hx, c, fm_length, tn_length]
    · simp only [avL, impL, h0, h1, iC, h2] at c
      simp only [Ln.O, Ln.I, h2] at c
      simp only [S4, hL, avL, h0, h1, Ln.O, Ln.I, h2]
      simp (disch := ((fail_if_success (intro _)); omega)) only [go_sem, simprocAttr, ↓reduceIte, ↓Nat.reduceEqDiff, xx, L5, m5, acs_length, hx, c, fm_length, tn_length]
/-! ### What the receiver takes -/
structure CI (w : Ln) (nx : Int) (mi : Sh) (ah de : List Fm) : Prop where
  vi : VI nx ah
  mi : Mk ah mi
  ah : ∀ i, i < ah.length → Gd w.e (fat ah i)
  de : Ord w.e de nx
theorem CI.rcv {w : Ln} {nx : Int} {mi : Sh} {ah de : List Fm} (h : CI w nx mi ah de) (hk : w.e ≤ 100) {x : Fm} (hx : Gd w.e x) (hlb : x.q ≤ nx ∨ x.s = true) {nx' : Int} {l' o : List Fm} {e : Int} (hr : RO nx ah x nx' l' o e) {mi' : Sh} (hm : Mk l' mi') :
    e = 0 ∧ aft x ≤ nx' ∧ CI w nx' mi' l' (de ++ o) := by
  have hb := hx.len
  have hvi := ro_vi h.vi (show x.b.length ≤ 65536 by omega) hr
  have hlo := hx.lo
  have hnn := hx.nn
  have key : (∀ i, i < l'.length → Gd w.e (fat l' i)) ∧ Ord w.e (de ++ o) nx' ∧ e = 0 ∧ aft x ≤ nx' := by
    cases hr with
    | arg h1 => exact absurd ⟨hnn, by omega⟩ h1
    | old h1 h2 =>
      rw [List.append_nil]; refine ⟨h.ah, h.de, rfl, ?_⟩
      unfold aft
      rcases h2 with h2 | ⟨h2, h3⟩
      · split <;> omega
      · rw [if_pos h2]; omega
    | keep h1 h2 h3 => rcases hlb with h4 | h4; omega; rw [h2.1] at h4; cases h4
    | ins h1 h2 h3 h4 q h5 => rcases hlb with h4 | h4; omega; rw [h2.1] at h4; cases h4
    | now h1 h2 d a h3 =>
      have hal := h3.al
      refine ⟨fun j hj => ?_, ?_, rfl, by omega⟩
      · rw [fat_drop]; simp only [List.length_drop] at hj; exact h.ah (a + j) (by omega)
      · have ho : Ord w.e (de ++ [x]) (aft x) := h.de.snoc (by rcases h2 with ⟨g1, g2⟩ | ⟨g1, g2⟩; exact .inr ⟨g1, g2.symm⟩; exact .inl ⟨g1, g2⟩) hx
        have h4 := ho.run h3 (fun j hj => ⟨h.ah j hj, (h.vi.ok j hj).s⟩) (a - d) (Nat.le_refl _)
        rw [oA, show eN d a ah.length = a - d by unfold eN; omega]; exact h4
  obtain ⟨k1, k2, k3, k4⟩ := key
  exact ⟨k3, k4, ⟨hvi.1, hm, k1, k2⟩⟩
end Go.Proofs.S33
namespace Go.Proofs.S33
open Go Go.Ev Go.Proofs
set_option linter.unusedSimpArgs false
set_option linter.unusedVariables false
variable {gl : Gl} {n : Nat}
def Fw (w : Ln) : List Fm := frs w.b w.a w.s w.q w.q.length
def lb (w : Ln) (i : Nat) : Int := if w.a < w.b then (if i = 0 then 0 else w.b + (i : Int) - 1) else w.b + i
theorem Fw_len {w : Ln} : (Fw w).length = if w.a < w.b then w.q.length + 1 else w.q.length := by
  unfold Fw
  split
  · rw [frs_lt (by omega)]
  · rw [frs_eq (by omega)]
theorem fat_mfs {b : Int} {l : List (List UInt8)} {k i : Nat} (h : i < k) : fat (mfs b l k) i = mfr b l i := by simp [fat, mfs, h]
theorem Fw_step {w : Ln} {i : Nat} (hi : i < (Fw w).length) {nx : Int} (hl : lb w i ≤ nx) : ((fat (Fw w) i).q ≤ nx ∨ (fat (Fw w) i).s = true) ∧ aft (fat (Fw w) i) = lb w (i + 1) := by
  rw [Fw_len] at hi
  by_cases hab : w.a < w.b
  · rw [if_pos hab] at hi
    have e : Fw w = [⟨true, w.b, w.s⟩] ++ mfs w.b w.q w.q.length := by rw [Fw, frs, sfr, if_pos (by omega)]
    cases i with
    | zero =>
      have e2 : fat (Fw w) 0 = ⟨true, w.b, w.s⟩ := by rw [e, fat_app_lt (by simp)]; rfl
      rw [e2]; exact ⟨.inr rfl, by unfold aft lb; simp [hab]⟩
    | succ i =>
      have e2 : fat (Fw w) (i + 1) = mfr w.b w.q i := by rw [e, fat_app_ge (by simp), List.length_singleton, Nat.add_sub_cancel, fat_mfs (by omega)]
      rw [e2]
      unfold lb at *
      rw [if_pos hab, if_neg (by omega)] at hl
      rw [if_pos hab, if_neg (by omega)]
      unfold aft mfr
      simp only [Bool.false_eq_true, if_false, or_false]
      omega
  · rw [if_neg hab] at hi
    have e : Fw w = mfs w.b w.q w.q.length := by rw [Fw, frs, sfr, if_neg (by omega), List.nil_append]
    rw [e, fat_mfs hi]
    unfold lb at *
    rw [if_neg hab] at hl ⊢
    unfold aft mfr
    simp only [Bool.false_eq_true, if_false, or_false]
    omega
theorem lb_0 {k : Nat} {w : Ln} (h : LI k w) : lb w 0 ≤ w.nx := by
  have := h.vi.pos
  have := h.anx
  have := h.ab
  unfold lb; split
  · simp; omega
  · simp; omega
theorem lb_end {w : Ln} : lb w (Fw w).length = w.e := by
  rw [Fw_len]; unfold lb Ln.e
  split
  · rw [if_neg (by omega)]; omega
  · omega
/-! ### The loop -/
def cellD (w : Ln) (I : AV) (de : List Fm) (own : Bool) : AV :=
  match w.c, own with
  | 0, false => lwA w.O I
  | 0, true => .aggR [w.O, I, nilL, nilL, .sl 6034 [] 0 de.length, .bool false]
  | 1, false => lwB w.O I 6032 w.se.length
  | 1, true => .aggR [w.O, I, .sl 6032 [] 0 w.se.length, nilL, .sl 6034 [] 0 de.length, .bool false]
  | _, _ => lwC w.O I 6032 w.se.length 6033 w.to.length 6034 de.length
def hD (w : Ln) (I : AV) (de : List Fm) (own : Bool) : Hp :=
  match w.c, own with
  | 0, false => [(3, .fix shW (cellD w I de own))]
  | 0, true => [(6034, .grow sF (fm de)), (3, .fix shW (cellD w I de own))]
  | 1, false => [(6032, .grow sF (fm w.se)), (3, .fix shW (cellD w I de own))]
  | 1, true => [(6034, .grow sF (fm de)), (6032, .grow sF (fm w.se)), (3, .fix shW (cellD w I de own))]
  | _, _ => [(6034, .grow sF (fm de)), (6033, .grow .sc (tn w.to)), (6032, .grow sF (fm w.se)), (3, .fix shW (cellD w I de own))]
def L5b : MC := match m5 with | .seq _ (.seq _ (.seq _ (.seq _ (.seq _ (.seq _ (.seq (.seq _ (.block _ (.loop _ b))) _)))))) => b | _ => .skip
abbrev k5 : List Kp := [.slot 3, .slot 5, .slot 7, .key 3, .mv 3 [2] 6032, .mv 3 [3] 6033, .mv 3 [4] 6034]
def S5 (w : Ln) (F : List Fm) (f : Bool) (m : Sh) (I : AV) (de : List Fm) (own : Bool) (i : Nat) : St := ⟨[.set 7 (i64 i), .set 5 (.lst f m (fm F)), .set 3 (.ptr 3 [])], hD w I de own⟩
set_option maxHeartbeats 8000000 in
theorem step5b (h : 8 ≤ n) {k : Nat} {w : Ln} (hw : LI k w) (hk : k ≤ 100) {f : Bool} {m : Sh} (hm : Mk (Fw w) m) {i : Nat} (hi : i < (Fw w).length) {nx : Int} {fi : Bool} {mi : Sh} {ah de : List Fm} (hc : CI w nx mi ah de) (hl : lb w i ≤ nx)
    {own : Bool} (hd : own = false → de = []) :
    ∃ (nx' : Int) (fi' : Bool) (mi' : Sh) (ah' de' : List Fm), CI w nx' mi' ah' de' ∧ lb w (i + 1) ≤ nx' ∧ contK k5 (evC gl (call gl tab n) L5b (S5 w (Fw w) f m (ib nx fi mi ah) de own i)) = some (S5 w (Fw w) f m (ib nx' fi' mi' ah') de' true (i + 1)) := by
  have hen := hw.en
  have hx := fm_at hi
  obtain rfl := hm.eq hi
  have hg := gd_frs hw (Nat.le_refl _) i hi
  obtain ⟨g1, g2⟩ := Fw_step hi hl
  rw [← Fw] at hg
  have hgl := hg.len
  have hfl : (Fw w).length ≤ 201 := by rw [Fw_len]; have := (hw.vo hk).pn; split <;> omega
  obtain ⟨nx', l', o, f', f'', m', m'', e, hro, hm', hm'', c8⟩ := @rcv_at gl n (by omega) fi mi nx ah hc.mi hc.vi (fat (Fw w) i) (by omega)
  obtain ⟨rfl, h2, h3⟩ := hc.rcv (by omega) hg g1 hro hm'
  refine ⟨nx', f', m', l', de ++ o, h3, by omega, ?_⟩
  have hdl := hc.de.len
  have hdl2 := h3.de.len
  have hde := hc.de.le
  have hde2 := h3.de.le
  rw [List.length_append] at hdl2
  have ha := fm_app2 de o
  have hla : (de ++ o).length = de.length + o.length := by simp
  have hL1 : o.length ≤ LIM := by unfold LIM; omega
  have hL2 : de.length + o.length ≤ LIM := by unfold LIM; omega
  have hL3 : de.length ≤ LIM := by unfold LIM; omega
  have hct : w.c = 0 ∨ w.c = 1 ∨ w.c = 2 := by
    by_cases h2 : 2 ≤ w.c
    · exact .inr (.inr (hw.c2 h2).2.2)
    · omega
  clear hg g1 g2 hro h3 hc
  generalize Fw w = F at *
  generalize fat F i = x at *
  rcases hm'' with rfl | rfl
  · rcases hct with h0 | h0 | h0 <;> cases own
    · have hd0 := hd rfl
      subst hd0
      simp only [S5, hD, cellD, h0, Ln.O]
      simp (disch := ((fail_if_success (intro _)); omega)) only [go_sem, simprocAttr, ↓reduceIte, ↓Nat.reduceEqDiff, xx, L5b, m5, fm_length, hx, c8, fm_nil, List.append_nil, List.nil_append]
    · simp only [S5, hD, cellD, h0, Ln.O]
      simp (disch := ((fail_if_success (intro _)); omega)) only [go_sem, simprocAttr, ↓reduceIte, ↓Nat.reduceEqDiff, xx, L5b, m5, fm_length, hx, c8, fm_nil, List.append_nil, List.nil_append, hL3]
    · have hd0 := hd rfl
      subst hd0
      simp only [S5, hD, cellD, h0, Ln.O]
      simp (disch := ((fail_if_success (intro _)); omega)) only [go_sem, simprocAttr, ↓reduceIte, ↓Nat.reduceEqDiff, xx, L5b, m5, fm_length, hx, c8, fm_nil, List.append_nil, List.nil_append]
    · simp only [S5, hD, cellD, h0, Ln.O]
      simp (disch := ((fail_if_success (intro _)); omega)) only [go_sem, simprocAttr, ↓reduceIte, ↓Nat.reduceEqDiff, xx, L5b, m5, fm_length, hx, c8, fm_nil, List.append_nil, List.nil_append, hL3]
    · have hd0 := hd rfl
      subst hd0
      simp only [S5, hD, cellD, h0, Ln.O]
      simp (disch := ((fail_if_success (intro _)); omega)) only [go_sem, simprocAttr, ↓reduceIte, ↓Nat.reduceEqDiff, xx, L5b, m5, fm_length, tn_length, hx, c8, fm_nil, List.append_nil, List.nil_append]
    · simp only [S5, hD, cellD, h0, Ln.O]
      simp (disch := ((fail_if_success (intro _)); omega)) only [go_sem, simprocAttr, ↓reduceIte, ↓Nat.reduceEqDiff, xx, L5b, m5, fm_length, tn_length, hx, c8, fm_nil, List.append_nil, List.nil_append, hL3]
  · rcases hct with h0 | h0 | h0 <;> cases own
    · have hd0 := hd rfl
      subst hd0
      simp only [S5, hD, cellD, h0, Ln.O, List.nil_append]
      simp (disch := ((fail_if_success (intro _)); omega)) only [go_sem, simprocAttr, ↓reduceIte, ↓Nat.reduceEqDiff, xx, L5b, m5, fm_length, hx, c8, hL1]
    · simp only [S5, hD, cellD, h0, Ln.O]
      simp (disch := ((fail_if_success (intro _)); omega)) only [go_sem, simprocAttr, ↓reduceIte, ↓Nat.reduceEqDiff, xx, L5b, m5, fm_length, hx, c8, hL2, ha, hla]
    · have hd0 := hd rfl
      subst hd0
      simp only [S5, hD, cellD, h0, Ln.O, List.nil_append]
      simp (disch := ((fail_if_success (intro _)); omega)) only [go_sem, simprocAttr, ↓reduceIte, ↓Nat.reduceEqDiff, xx, L5b, m5, fm_length, hx, c8, hL1]
    · simp only [S5, hD, cellD, h0, Ln.O]
      simp (disch := ((fail_if_success (intro _)); omega)) only [go_sem, simprocAttr, ↓reduceIte, ↓Nat.reduceEqDiff, xx, L5b, m5, fm_length, hx, c8, hL2, ha, hla]
    · have hd0 := hd rfl
      subst hd0
      simp only [S5, hD, cellD, h0, Ln.O, List.nil_append]
      simp (disch := ((fail_if_success (intro _)); omega)) only [go_sem, simprocAttr, ↓reduceIte, ↓Nat.reduceEqDiff, xx, L5b, m5, fm_length, tn_length, hx, c8, hL1, fm_nil, List.nil_append, List.length_nil]
    · simp only [S5, hD, cellD, h0, Ln.O]
      simp (disch := ((fail_if_success (intro _)); omega)) only [go_sem, simprocAttr, ↓reduceIte, ↓Nat.reduceEqDiff, xx, L5b, m5, fm_length, tn_length, hx, c8, hL2, ha, hla]
end Go.Proofs.S33
