/-
  Chapter 33: what is delivered is in order. No condition.
-/
import Derived.Test.YtoddlpnnmoaogaaW33Y
set_option linter.unusedVariables false
set_option linter.unusedSimpArgs false
set_option linter.unusedSectionVars false
namespace Go.Proofs.S33
open Go Go.Ev Go.Proofs
set_option linter.unusedSimpArgs false
set_option linter.unusedVariables false
variable {gl : Gl} {n : Nat}
structure Act where
  k : Int
  v : Nat
def acs (l : List Act) : List AV := l.map fun a => .agg [.int .u8 a.k, .int .u8 a.v]
def aat (l : List Act) (i : Nat) : Act := l.getD i ⟨0, 0⟩
abbrev sAc : Sh := .st [.sc, .sc]
abbrev kAct : Kd := .st [.int .u8, .int .u8]
theorem acs_length (l : List Act) : (acs l).length = l.length := by simp [acs]
theorem acs_at {l : List Act} {i : Nat} (h : i < l.length) : (acs l)[i]? = some (.agg [.int .u8 (aat l i).k, .int .u8 (aat l i).v]) := by simp [acs, aat, h]
theorem kAct_sh : kAct.sh = sAc := rfl
theorem kd_acs : ∀ {l : List AV}, (∀ x ∈ l, HasKd kAct x) → ∃ r : List Act, l = acs r ∧ ∀ i, i < r.length → (0 ≤ (aat r i).k ∧ (aat r i).k ≤ 255) ∧ (aat r i).v ≤ 255
  | [], _ => ⟨[], rfl, fun i hi => by simp at hi⟩
  | x :: l, h => by
    obtain ⟨k, rfl, hx⟩ := h x (by simp)
    simp only [HasKds] at hx
    obtain ⟨_, _, rfl, ⟨a, rfl, ha1, ha2⟩, _, _, rfl, ⟨b, rfl, hb1, hb2⟩, rfl⟩ := hx
    obtain ⟨r, rfl, hr⟩ := kd_acs (l := l) fun y hy => h y (by simp [hy])
    have e1 : IntKind.min .u8 = 0 := rfl
    have e2 : IntKind.max .u8 = 255 := rfl
    rw [e1] at ha1 hb1
    rw [e2] at ha2 hb2
    obtain ⟨v, rfl⟩ : ∃ v : Nat, b = v := ⟨b.toNat, by omega⟩
    refine ⟨⟨a, v⟩ :: r, rfl, fun i hi => ?_⟩
    cases i with
    | zero => exact ⟨⟨ha1, ha2⟩, by simp [aat]; omega⟩
    | succ i => exact hr i (by simpa using hi)
/-- The line in the law's cell, with its lists. -/
def hL (w : Ln) : Hp :=
  match w.c with
  | 0 => [(3, .fix shW (avL w 6032 6033 6034))]
  | 1 => [(6032, .grow sF (fm w.se)), (3, .fix shW (avL w 6032 6033 6034))]
  | _ => [(6034, .grow sF (fm w.de)), (6033, .grow .sc (tn w.to)), (6032, .grow sF (fm w.se)), (3, .fix shW (avL w 6032 6033 6034))]
def L4 : MC := match m4 with | .seq _ (.seq _ (.seq _ (.seq (.seq _ (.block _ (.loop _ b))) _))) => b | _ => .skip
abbrev k4 : List Kp := [.slot 0, .slot 3, .slot 4, .key 3, .mv 3 [2] 6032, .mv 3 [3] 6033, .mv 3 [4] 6034]
def S4 (l : List Act) (w : Ln) (i : Nat) : St := ⟨[.set 4 (i64 i), .set 3 (.ptr 3 []), .set 0 (.lst false sAc (acs l))], hL w⟩
def w0 : Ln := ⟨0, 0, [], true, .sc, [], 0, true, .sc, [], [], [], [], 0⟩
theorem w0_ok : LI 0 w0 :=
  ⟨by simp [w0, Ln.e], by simp [w0], fun i hi => by simp [w0] at hi, fun h => by simp [w0] at h, by simp [w0], .inl rfl, ⟨by simp [w0], by simp [w0], fun i hi => by simp [w0] at hi⟩, .inl rfl, by simp [w0, Ln.e], by simp [w0],
    fun i hi => by simp [w0] at hi, fun i hi => by simp [w0] at hi, by simp [w0], fun i hi => by simp [w0] at hi, by simp [w0], Ord.nil _, fun _ => ⟨rfl, rfl, rfl⟩, fun h => by simp [w0] at h, fun h => by simp [w0] at h⟩
theorem ordL (h : 4 ≤ n) {k : Nat} {w : Ln} (hw : LI k w) (hk : k ≤ 100) {f1 f2 f3 : Bool} {m1 m2 m3 : Sh} {l1 l2 : List AV} (hm : Mk w.de m3) :
    call gl tab n 12 [.agg [w.O, w.I, .lst f1 m1 l1, .lst f2 m2 l2, .lst f3 m3 (fm w.de), .bool false]] [] = some (.bool true, [], []) :=
  ordered_at h hm (e := w.e) (by have := hw.en; omega) hw.de hw.nx
set_option maxHeartbeats 4000000 in
theorem step4 (h : 8 ≤ n) {l : List Act} (hl : l.length ≤ 100) (hb : ∀ i, i < l.length → (0 ≤ (aat l i).k ∧ (aat l i).k ≤ 255) ∧ (aat l i).v ≤ 255) {i : Nat} (hi : i < l.length) {w : Ln} (hw : LI i w) :
    ∃ w', LI (i + 1) w' ∧ contK k4 (evC gl (call gl tab n) L4 (S4 l w i)) = some (S4 l w' (i + 1)) := by
  obtain ⟨hb1, hb2⟩ := hb i hi
  have hx := acs_at hi
  obtain ⟨w', hw', har⟩ := @act_at gl n h i w hw (by omega) (aat l i).k (aat l i).v hb1 hb2
  refine ⟨w', hw', ?_⟩
  have hc : w.c = 0 ∨ w.c = 1 ∨ w.c = 2 := by
    by_cases h2 : 2 ≤ w.c
    · exact .inr (.inr (hw.c2 h2).2.2)
    · omega
  have co := fun (f1 f2 f3 : Bool) (m1 m2 m3 : Sh) (l1 l2 : List AV) (hm : Mk w'.de m3) => @ordL gl n (by omega) (i + 1) w' hw' (by omega) f1 f2 f3 m1 m2 m3 l1 l2 hm
  have hs1 := fm_take' w'.se
  have hs3 := fm_take' w'.de
  have hs2 : (tn w'.to).take w'.to.length = tn w'.to := by rw [← tn_length]; exact List.take_length
  generalize aat l i = x at *
  cases har with
  | same h1 h2 h3 h4 c =>
    rcases hc with h0 | h0 | h0
    · rw [h0] at h1
      obtain ⟨z1, z2, z3⟩ := hw'.c0 h1
      have co2 := co true true true .sc .sc .sc [] [] (.inl z3)
      simp only [avL, impL, h0, h1] at c
      simp only [Ln.O, Ln.I] at c co2
      rw [z3, fm_nil] at co2
      simp only [S4, hL, avL, h0, h1, Ln.O, Ln.I]
      simp (disch := ((fail_if_success (intro _)); omega)) only [go_sem, simprocAttr, ↓reduceIte, ↓Nat.reduceEqDiff, xx, L4, m4, acs_length, hx, c, co2]
    · rw [h0] at h1
      obtain ⟨z2, z3⟩ := hw'.c1 h1
      have co2 := co false true true sF .sc .sc (fm w'.se) [] (.inl z3)
      simp only [avL, impL, h0, h1, iB, h2] at c
      simp only [Ln.O, Ln.I, h2] at c co2
      rw [z3, fm_nil] at co2
      rw [h2] at hs1
      simp only [S4, hL, avL, h0, h1, Ln.O, Ln.I, h2]
      simp (disch := ((fail_if_success (intro _)); omega)) only [go_sem, simprocAttr, ↓reduceIte, ↓Nat.reduceEqDiff, xx, L4, m4, acs_length, hx, c, co2, fm_length, hs1]
    · rw [h0] at h1
      have co2 := co false false false sF .sc sF (fm w'.se) (tn w'.to) (.inr rfl)
      simp only [avL, impL, h0, h1, iC, h2, h3, h4] at c
      simp only [Ln.O, Ln.I, h2, h3, h4] at c co2
      rw [h2] at hs1
      rw [h3] at hs2
      rw [h4] at hs3
      simp only [S4, hL, avL, h0, h1, Ln.O, Ln.I, h2, h3, h4]
      simp (disch := ((fail_if_success (intro _)); omega)) only [go_sem, simprocAttr, ↓reduceIte, ↓Nat.reduceEqDiff, xx, L4, m4, acs_length, hx, c, co2, fm_length, tn_length, hs1, hs2, hs3]
  | sent h1 h3 h4 c =>
    rcases hc with h0 | h0 | h0
    · rw [h0, if_pos rfl] at h1
      obtain ⟨z2, z3⟩ := hw'.c1 h1
      have co2 := co false true true sF .sc .sc (fm w'.se) [] (.inl z3)
      simp only [avL, impL, h0, h1] at c
      simp only [Ln.O, Ln.I] at c co2
      rw [z3, fm_nil] at co2
      simp only [S4, hL, avL, h0, h1, Ln.O, Ln.I]
      simp (disch := ((fail_if_success (intro _)); omega)) only [go_sem, simprocAttr, ↓reduceIte, ↓Nat.reduceEqDiff, xx, L4, m4, acs_length, hx, c, co2, fm_length, hs1]
    · rw [h0, if_neg (by decide)] at h1
      obtain ⟨z2, z3⟩ := hw'.c1 h1
      have co2 := co false true true sF .sc .sc (fm w'.se) [] (.inl z3)
      simp only [avL, impL, h0, h1, iB] at c
      simp only [Ln.O, Ln.I] at c co2
      rw [z3, fm_nil] at co2
      simp only [S4, hL, avL, h0, h1, Ln.O, Ln.I]
      simp (disch := ((fail_if_success (intro _)); omega)) only [go_sem, simprocAttr, ↓reduceIte, ↓Nat.reduceEqDiff, xx, L4, m4, acs_length, hx, c, co2, fm_length, hs1]
    · rw [h0, if_neg (by decide)] at h1
      have co2 := co false false false sF .sc sF (fm w'.se) (tn w'.to) (.inr rfl)
      simp only [avL, impL, h0, h1, iC, h3, h4] at c
      simp only [Ln.O, Ln.I, h3, h4] at c co2
      rw [h3] at hs2
      rw [h4] at hs3
      simp only [S4, hL, avL, h0, h1, Ln.O, Ln.I, h3, h4]
      simp (disch := ((fail_if_success (intro _)); omega)) only [go_sem, simprocAttr, ↓reduceIte, ↓Nat.reduceEqDiff, xx, L4, m4, acs_length, hx, c, co2, fm_length, tn_length, hs1, hs2, hs3]
  | rcvd h0' h1 h2 c =>
    rcases hc with h0 | h0 | h0
    · exact absurd h0 h0'
    · have co2 := co false false false sF .sc sF (fm w'.se) (tn w'.to) (.inr rfl)
      simp only [avL, impL, h0, h1, iB, h2] at c
      simp only [Ln.O, Ln.I, h2] at c co2
      rw [h2] at hs1
      simp only [S4, hL, avL, h0, h1, Ln.O, Ln.I, h2]
      simp (disch := ((fail_if_success (intro _)); omega)) only [go_sem, simprocAttr, ↓reduceIte, ↓Nat.reduceEqDiff, xx, L4, m4, acs_length, hx, c, co2, fm_length, tn_length, hs1, hs2, hs3]
    · have co2 := co false false false sF .sc sF (fm w'.se) (tn w'.to) (.inr rfl)
      simp only [avL, impL, h0, h1, iC, h2] at c
      simp only [Ln.O, Ln.I, h2] at c co2
      rw [h2] at hs1
      simp only [S4, hL, avL, h0, h1, Ln.O, Ln.I, h2]
      simp (disch := ((fail_if_success (intro _)); omega)) only [go_sem, simprocAttr, ↓reduceIte, ↓Nat.reduceEqDiff, xx, L4, m4, acs_length, hx, c, co2, fm_length, tn_length, hs1, hs2, hs3]
set_option maxHeartbeats 4000000 in
theorem law4 (hn : 20 ≤ n) (c7 : call gl tab n 7 [] [] = some (.bool true, [], [])) (ar : List AV) (h : HasKds [.sl kAct] ar) : call gl tab (n + 1) 4 ar [] = some (.bool true, [], []) := by
  simp only [HasKds] at h
  obtain ⟨_, _, rfl, ⟨d1, rfl, hd1, h1⟩, rfl⟩ := h
  obtain ⟨l, rfl, hb⟩ := kd_acs h1
  rw [kAct_sh]
  rw [acs_length] at hd1
  have hd2 : l.length ≤ 9223372036854775807 := by simp [Go.maxLen] at hd1; omega
  clear hd1
  by_cases hl : l.length ≤ 100
  case neg =>
    rw [call_go (fd := fd4) rfl]
    simp (disch := ((fail_if_success (intro _)); omega)) only [go_sem, simprocAttr, ↓reduceIte, ↓Nat.reduceEqDiff, xx, fd4, m4, acs_length, c7]
  obtain ⟨st, ⟨w, hw, rfl⟩, hit⟩ := iter_inv (f := evC gl (call gl tab n) L4) (ks := k4) (s0 := S4 l w0 0) (fun i st => ∃ w, LI i w ∧ st = S4 l w i) l.length (by unfold LF; omega) ⟨w0, w0_ok, rfl⟩
    (fun i st hi ⟨w, hw, he⟩ => by
      subst he
      obtain ⟨w', hw', hs⟩ := @step4 gl n (by omega) l hl hb i hi w hw
      exact ⟨S4 l w' (i + 1), hs, w', hw', rfl⟩)
    (fun st ⟨w, hw, he⟩ => by
      subst he
      simp (disch := ((fail_if_success (intro _)); omega)) only [go_sem, simprocAttr, ↓reduceIte, ↓Nat.reduceEqDiff, xx, L4, m4, S4, acs_length])
  simp only [L4, m4] at hit
  rw [call_go (fd := fd4) rfl]
  simp (disch := ((fail_if_success (intro _)); omega)) only [go_sem, simprocAttr, ↓reduceIte, ↓Nat.reduceEqDiff, xx, fd4, m4, acs_length]
  have e0 : S4 l w0 0 = ⟨[.set 4 (.int .i64 0), .set 3 (.ptr 3 []), .set 0 (.lst false sAc (acs l))], [(3, .fix shW (.agg [.agg [.int .i64 0, .int .i64 0, .str [], .lst true .sc []], .agg [.int .i64 0, .lst true .sc []], .lst true .sc [], .lst true .sc [], .lst true .sc [], .bool false]))]⟩ := rfl
  rw [e0] at hit
  rw [hit _ (by simp (disch := ((fail_if_success (intro _)); omega)) only [go_sem, simprocAttr, ↓reduceIte, ↓Nat.reduceEqDiff, xx])]
  simp (disch := ((fail_if_success (intro _)); omega)) only [go_sem, simprocAttr, ↓reduceIte, ↓Nat.reduceEqDiff, xx, S4, acs_length, c7]
end Go.Proofs.S33
