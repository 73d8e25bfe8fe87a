/-
  Chapter 33: the receiver has everything. No condition.
-/
import Derived.Test.YtoddlpnnmoaogaaW33U
set_option linter.unusedVariables false
set_option linter.unusedSimpArgs false
set_option linter.unusedSectionVars false
namespace Go.Proofs.S33
open Go Go.Ev Go.Proofs
set_option linter.unusedSimpArgs false
set_option linter.unusedVariables false
variable {gl : Gl} {n : Nat}
theorem restE (h : 6 ≤ n) {b : Nat} {s : List UInt8} {f : Bool} {m : Sh} {q : List (List UInt8)} (hv : VO b b s m q) (hq : q.length = 0) :
    ∃ (f3 : Bool) (m3 : Sh), call gl tab n 13 [ob (b : Int) (b : Int) s f m q, i64 1000] [] = some (.tup [.lst f3 m3 [], i64 0], [], []) := by
  obtain ⟨N, f', m', hN, _, _, hmk, c13⟩ := @frames_at gl n h 1000 b b s f m q hv (Int.le_refl _) (by omega)
  have e : frs (b : Int) b s q N = [] := List.eq_nil_of_length_eq_zero (by rw [frs_eq (by omega)]; omega)
  rw [e] at c13
  simp only [Int.cast_ofNat_Int] at c13
  exact ⟨f', m', c13⟩
/-- The receiver has told that it has everything. -/
theorem ackE (h : 6 ≤ n) {k : Nat} {w : Ln} (hw : LI k w) (hk : k ≤ 100) (hnx : w.a ≤ w.e) :
    ∃ (b2 : Nat) (s2 : List UInt8) (f2 f3 : Bool) (m2 m3 : Sh) (q2 : List (List UInt8)), call gl tab n 14 [ob w.b w.a w.s w.f w.m w.q, i64 ((w.b : Int) + w.q.length)] [] = some (.tup [ob b2 b2 s2 f2 m2 q2, i64 0], [], []) ∧
      call gl tab n 13 [ob (b2 : Int) (b2 : Int) s2 f2 m2 q2, i64 1000] [] = some (.tup [.lst f3 m3 [], i64 0], [], []) := by
  have hv := hw.vo hk
  have hab := hw.ab
  unfold Ln.e at hnx
  by_cases h1 : (w.b : Int) + w.q.length ≤ w.a
  · have e : w.a = w.b := by omega
    have c := @ack_old gl n h w.b w.a w.s w.f w.m w.q hv ((w.b : Int) + w.q.length) (by omega) h1
    rw [e] at c hv ⊢
    obtain ⟨f3, m3, c3⟩ := @restE gl n h w.b w.s w.f w.m w.q hv (by omega)
    exact ⟨_, _, _, _, _, _, _, c, c3⟩
  by_cases h2 : w.q.length = 0
  · have c := @ack_low gl n h w.b w.a w.s w.f w.m w.q hv ((w.b : Int) + w.q.length) (by omega) (by omega) (by omega)
    have e : (w.b : Int) + w.q.length = w.b := by omega
    rw [e] at c ⊢
    have hv2 : VO w.b w.b w.s w.m w.q := ⟨hv.pb, by omega, hv.pn, hv.ps, hv.pm, hv.pl⟩
    obtain ⟨f3, m3, c3⟩ := @restE gl n h w.b w.s w.f w.m w.q hv2 h2
    exact ⟨_, _, _, _, _, _, _, c, c3⟩
  · have c := @ack_new gl n h w.b w.a w.s w.f w.m w.q hv w.q.length (Nat.le_refl _) (by omega) (by omega)
    have e : (w.b : Int) + w.q.length = ((w.b + w.q.length : Nat) : Int) := by omega
    have hb := hv.pb
    have hn := hv.pn
    have hen := hw.en
    unfold Ln.e at hen
    have hv2 : VO ((w.b + w.q.length : Nat) : Int) ((w.b + w.q.length : Nat) : Int) [] w.m (w.q.drop w.q.length) := ⟨by omega, by omega, by simp, by simp, hv.pm.drop _, fun i hi => absurd hi (by simp)⟩
    obtain ⟨f3, m3, c3⟩ := @restE gl n h (w.b + w.q.length) [] w.f w.m (w.q.drop w.q.length) hv2 (by simp)
    rw [e] at c ⊢
    exact ⟨_, _, _, _, _, _, _, c, c3⟩
theorem hL_hD (w : Ln) (hc : w.c = 0 ∨ w.c = 1 ∨ w.c = 2) : hL w = hD w w.I w.de (decide (w.c = 2)) := by
  rcases hc with h0 | h0 | h0 <;> simp [hL, hD, cellD, avL, h0]
set_option maxHeartbeats 8000000 in
theorem law5 (hn : 20 ≤ n) (c7 : call gl tab n 7 [] [] = some (.bool true, [], [])) (ar : List AV) (h : HasKds [.sl kAct] ar) : call gl tab (n + 1) 5 ar [] = some (.bool true, [], []) := by
  simp only [HasKds] at h
  obtain ⟨_, _, rfl, ⟨d1, rfl, hd1, h1⟩, rfl⟩ := h
  obtain ⟨l, rfl, hb⟩ := kd_acs h1
  rw [kAct_sh]
  rw [acs_length] at hd1
  have hd2 : l.length ≤ 9223372036854775807 := by simp [Go.maxLen] at hd1; omega
  clear hd1
  by_cases hl : l.length ≤ 100
  case neg =>
    rw [call_go (fd := fd5) rfl]
    simp (disch := ((fail_if_success (intro _)); omega)) only [go_sem, simprocAttr, ↓reduceIte, ↓Nat.reduceEqDiff, xx, fd5, m5, acs_length, c7]
  obtain ⟨st, ⟨w, hw, rfl⟩, hit⟩ := iter_inv (f := evC gl (call gl tab n) L5) (ks := k4) (s0 := S4 l w0 0) (fun i st => ∃ w, LI i w ∧ st = S4 l w i) l.length (by unfold LF; omega) ⟨w0, w0_ok, rfl⟩
    (fun i st hi ⟨w, hw, he⟩ => by
      subst he
      obtain ⟨w', hw', hs⟩ := @step5 gl n (by omega) l hl hb i hi w hw
      exact ⟨S4 l w' (i + 1), hs, w', hw', rfl⟩)
    (fun st ⟨w, hw, he⟩ => by
      subst he
      simp (disch := ((fail_if_success (intro _)); omega)) only [go_sem, simprocAttr, ↓reduceIte, ↓Nat.reduceEqDiff, xx, L5, m5, S4, acs_length])
  have hvo := hw.vo hl
  have hen := hw.en
  have hpn := hvo.pn
  have hpb := hvo.pb
  have hct : w.c = 0 ∨ w.c = 1 ∨ w.c = 2 := by
    by_cases h2 : 2 ≤ w.c
    · exact .inr (.inr (hw.c2 h2).2.2)
    · omega
  have hFl : (Fw w).length ≤ 201 := by rw [Fw_len]; split <;> omega
  obtain ⟨N, f, m, hN, hN2, _, hmk, c13⟩ := @frames_at gl n (by omega) 1000 w.b w.a w.s w.f w.m w.q hvo (by have := hw.ab; omega) (by omega)
  obtain rfl := hN2 (by rw [← Fw]; omega)
  rw [← Fw] at hmk c13
  simp only [Int.cast_ofNat_Int] at c13
  have hnx0 := hw.nx
  have hanx := hw.anx
  obtain ⟨b2, s2, f2, f3, m2, m3, q2, c14, c13b⟩ := @ackE gl n (by omega) l.length w hw hl (by omega)
  have hci : CI w w.nx w.mi w.ah w.de := ⟨hw.vi, hw.mi, hw.ah, hw.de⟩
  obtain ⟨st2, ⟨nx, fi, mi, ah, de, own, hc2, hlb, hd, hown, rfl⟩, hit2⟩ := iter_inv (f := evC gl (call gl tab n) L5b) (ks := k5) (s0 := S5 w (Fw w) f m w.I w.de (decide (w.c = 2)) 0)
    (fun i st => ∃ nx fi mi ah de own, CI w nx mi ah de ∧ lb w i ≤ nx ∧ (own = false → de = []) ∧ (w.c = 2 → own = true) ∧ st = S5 w (Fw w) f m (ib nx fi mi ah) de own i) (Fw w).length (by unfold LF; omega)
    ⟨w.nx, w.fi, w.mi, w.ah, w.de, _, hci, lb_0 hw, fun hf => by
      have h2 : ¬ w.c = 2 := of_decide_eq_false hf
      rcases hct with h0 | h0 | h0
      · exact (hw.c0 h0).2.2
      · exact (hw.c1 h0).2
      · exact absurd h0 h2, fun h => decide_eq_true h, rfl⟩
    (fun i st hi ⟨nx, fi, mi, ah, de, own, hc2, hlb, hd, hown, he⟩ => by
      subst he
      obtain ⟨nx', fi', mi', ah', de', h3, h4, h5⟩ := @step5b gl n (by omega) l.length w hw hl f m hmk i hi nx fi mi ah de hc2 hlb own hd
      exact ⟨_, h5, nx', fi', mi', ah', de', true, h3, h4, fun h => (by cases h), fun _ => rfl, rfl⟩)
    (fun st ⟨nx, fi, mi, ah, de, own, hc2, hlb, hd, hown, he⟩ => by
      subst he
      generalize Fw w = F at *
      simp (disch := ((fail_if_success (intro _)); omega)) only [go_sem, simprocAttr, ↓reduceIte, ↓Nat.reduceEqDiff, xx, L5b, m5, S5, fm_length])
  have hend : nx = (w.b : Int) + w.q.length := by
    have h2 := hc2.de.le
    rw [lb_end] at hlb
    unfold Ln.e at h2 hlb
    omega
  subst hend
  have hdl := hc2.de.len
  have co := fun (f1 f2 f3 : Bool) (m1 m2 m3 : Sh) (l1 l2 : List AV) (hm : Mk de m3) => @ordered_at gl n (by omega) w.b w.a w.s w.f w.m w.q ((w.b : Int) + w.q.length) fi mi ah f1 f2 f3 m1 m2 m3 l1 l2 de hm w.e (by omega) hc2.de hc2.de.le
  simp only [W12] at co
  have hs1 := fm_take' w.se
  have hs3 := fm_take' de
  have hs2 : (tn w.to).take w.to.length = tn w.to := by rw [← tn_length]; exact List.take_length
  simp only [L5, m5] at hit
  simp only [L5b, m5] at hit2
  have e0 : S4 l w0 0 = ⟨[.set 4 (.int .i64 0), .set 3 (.ptr 3 []), .set 0 (.lst false sAc (acs l))], [(3, .fix shW (.agg [.agg [.int .i64 0, .int .i64 0, .str [], .lst true .sc []], .agg [.int .i64 0, .lst true .sc []], .lst true .sc [], .lst true .sc [], .lst true .sc [], .bool false]))]⟩ := rfl
  rw [e0] at hit
  rw [call_go (fd := fd5) rfl]
  simp (disch := ((fail_if_success (intro _)); omega)) only [go_sem, simprocAttr, ↓reduceIte, ↓Nat.reduceEqDiff, xx, fd5, m5, acs_length]
  rw [hit _ (by simp (disch := ((fail_if_success (intro _)); omega)) only [go_sem, simprocAttr, ↓reduceIte, ↓Nat.reduceEqDiff, xx])]
  generalize Fw w = F at *
  rcases hct with h0 | h0 | h0
  · simp only [S4, hL, avL, h0, Ln.O, Ln.I]
    simp only [S5, hD, cellD, h0, Ln.O, Ln.I, show (decide ((0 : Nat) = 2)) = false from rfl] at hit2
    simp (disch := ((fail_if_success (intro _)); omega)) only [go_sem, simprocAttr, ↓reduceIte, ↓Nat.reduceEqDiff, xx, fm_length, tn_length, acs_length, c13]
    rw [hit2 _ (by simp (disch := ((fail_if_success (intro _)); omega)) only [go_sem, simprocAttr, ↓reduceIte, ↓Nat.reduceEqDiff, xx, fm_length, tn_length])]
    cases own
    · have co2 := co true true true .sc .sc .sc [] [] (.inl (hd rfl))
      have hd0 := hd rfl
      subst hd0
      rw [fm_nil] at co2
      simp (disch := ((fail_if_success (intro _)); omega)) only [go_sem, simprocAttr, ↓reduceIte, ↓Nat.reduceEqDiff, xx, fm_length, tn_length, hs1, hs2, hs3, c14, c13b, c7, co2, ss_length, beq_self_eq_true]
    · have co2 := co true true false .sc .sc sF [] [] (.inr rfl)
      simp (disch := ((fail_if_success (intro _)); omega)) only [go_sem, simprocAttr, ↓reduceIte, ↓Nat.reduceEqDiff, xx, fm_length, tn_length, hs1, hs2, hs3, c14, c13b, c7, co2, ss_length, beq_self_eq_true]
  · simp only [S4, hL, avL, h0, Ln.O, Ln.I]
    simp only [S5, hD, cellD, h0, Ln.O, Ln.I, show (decide ((1 : Nat) = 2)) = false from rfl] at hit2
    simp (disch := ((fail_if_success (intro _)); omega)) only [go_sem, simprocAttr, ↓reduceIte, ↓Nat.reduceEqDiff, xx, fm_length, tn_length, acs_length, c13]
    rw [hit2 _ (by simp (disch := ((fail_if_success (intro _)); omega)) only [go_sem, simprocAttr, ↓reduceIte, ↓Nat.reduceEqDiff, xx, fm_length, tn_length])]
    cases own
    · have co2 := co false true true sF .sc .sc (fm w.se) [] (.inl (hd rfl))
      have hd0 := hd rfl
      subst hd0
      rw [fm_nil] at co2
      simp (disch := ((fail_if_success (intro _)); omega)) only [go_sem, simprocAttr, ↓reduceIte, ↓Nat.reduceEqDiff, xx, fm_length, tn_length, hs1, hs2, hs3, c14, c13b, c7, co2, ss_length, beq_self_eq_true]
    · have co2 := co false true false sF .sc sF (fm w.se) [] (.inr rfl)
      simp (disch := ((fail_if_success (intro _)); omega)) only [go_sem, simprocAttr, ↓reduceIte, ↓Nat.reduceEqDiff, xx, fm_length, tn_length, hs1, hs2, hs3, c14, c13b, c7, co2, ss_length, beq_self_eq_true]
  · simp only [S4, hL, avL, h0, Ln.O, Ln.I]
    simp only [S5, hD, cellD, h0, Ln.O, Ln.I, show (decide ((2 : Nat) = 2)) = true from rfl] at hit2
    simp (disch := ((fail_if_success (intro _)); omega)) only [go_sem, simprocAttr, ↓reduceIte, ↓Nat.reduceEqDiff, xx, fm_length, tn_length, acs_length, c13]
    rw [hit2 _ (by simp (disch := ((fail_if_success (intro _)); omega)) only [go_sem, simprocAttr, ↓reduceIte, ↓Nat.reduceEqDiff, xx, fm_length, tn_length])]
    cases own
    · cases hown h0
    · have co2 := co false false false sF .sc sF (fm w.se) (tn w.to) (.inr rfl)
      simp (disch := ((fail_if_success (intro _)); omega)) only [go_sem, simprocAttr, ↓reduceIte, ↓Nat.reduceEqDiff, xx, fm_length, tn_length, hs1, hs2, hs3, c14, c13b, c7, co2, ss_length, beq_self_eq_true]
end Go.Proofs.S33
