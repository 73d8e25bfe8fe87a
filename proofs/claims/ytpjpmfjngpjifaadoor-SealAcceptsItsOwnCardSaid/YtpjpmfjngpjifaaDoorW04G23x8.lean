/-
  Chapter 4: short records; texts are the same. No condition.
-/
import Derived.Test.YtpjpmfjngpjifaaDoorW04G22x8
set_option linter.unusedVariables false
set_option linter.unusedSimpArgs false
set_option linter.unusedSectionVars false
namespace Go.Proofs.S04
open Go Go.Ev Go.Proofs
open Go.Proofs.S04.H (strsAV strsAV_length strsAV_get GlK GlR)
variable {gl : Gl} {n : Nat}
theorem shSp_at (h : 2 ≤ n) (x : Sp) (hx : SpOk x) (hb : SpB x) : ∃ b : Bool, (b = true → SpSh x) ∧ call gl tab n 27 [spAV x] [] = some (.bool b, [], []) := by
  obtain ⟨d, rfl⟩ := Nat.exists_eq_add_of_le' h
  obtain ⟨b, hbb, c⟩ := @short_at gl (d + 1) (by omega) [x.addr, x.var, x.tags] 3 (show 3 ≤ ML by decide) (fun i hi => by
    match i, hi with
    | 0, _ => exact hb.a
    | 1, _ => exact hb.v
    | 2, _ => exact hb.t)
  have q0 := H.bytes_all x.sgn
  have q1 := H.bytes_all x.body
  refine ⟨b, fun hh => ?_, ?_⟩
  · have h1 := (hbb.1 hh).1
    have a1 : x.addr.length ≤ 200 := h1 0 (by simp)
    have a2 : x.var.length ≤ 200 := h1 1 (by simp)
    have a3 : x.tags.length ≤ 200 := h1 2 (by simp)
    exact ⟨by omega, by omega, by omega⟩
  · simp only [H.strsAV, List.map_cons, List.map_nil] at c
    rw [call_go (fd := fd27) rfl]
    simp (disch := ((fail_if_success (intro _)); omega)) only [go_sem, simprocAttr, ↓reduceIte, ↓Nat.reduceEqDiff, xx, fd27, m27, c, hx.s, hx.r, q0, q1]
def L28 : MC := match m28 with | .seq _ (.seq (.seq _ (.block _ (.loop _ b))) _) => b | _ => .skip
def S28 (x : Ep) (i : Nat) : St := ⟨[.set 3 (i64 i), .set 1 (.ptr 1 [])], [(1, .fix sEp (epAV false false x))]⟩
theorem shEp_at (h : 1 ≤ n) (x : Ep) (hx : EpB x) : ∃ b : Bool, (b = true → EpOk x ∧ EpSh x) ∧ call gl tab n 28 [epAV false false x] [] = some (.bool b, [], []) := by
  obtain ⟨d, rfl⟩ := Nat.exists_eq_add_of_le' h
  have hpl := hx.pl
  have hrl := hx.rl
  unfold ML at *
  have q0 := H.bytes_all x.sgn
  have q1 := H.bytes_all x.prev
  have hs : ∀ i, i < x.pur.length → (puA x.pur i).what.length ≤ 200 → contK [.slot 1, .slot 3, .key 1] (evC gl (call gl tab d) L28 (S28 x i)) = some (S28 x (i + 1)) := fun i hi hp => by
    have hy := puL_at hi
    simp (disch := ((fail_if_success (intro _)); omega)) only [go_sem, simprocAttr, ↓reduceIte, ↓Nat.reduceEqDiff, xx, L28, m28, S28, puL_length, hy]
  have hf : ∀ i, i < x.pur.length → ¬ (puA x.pur i).what.length ≤ 200 → out1 2 (evC gl (call gl tab d) L28 (S28 x i)) = some (.ret, .bool false) := fun i hi hp => by
    have hy := puL_at hi
    have := (hx.pk i hi).2
    unfold ML at this
    simp (disch := ((fail_if_success (intro _)); omega)) only [go_sem, simprocAttr, ↓reduceIte, ↓Nat.reduceEqDiff, xx, L28, m28, S28, puL_length, hy]
  rw [call_go (fd := fd28) rfl]
  rcases first_fail (fun i => (puA x.pur i).what.length ≤ 200) x.pur.length with ha | ⟨q, hq, hb', he⟩
  · refine ⟨decide (x.pur.length ≤ 10 ∧ x.rev.length ≤ 10), fun hb => ?_, ?_⟩
    · rw [decide_eq_true_eq] at hb
      exact ⟨⟨hx.i, hx.p, hx.s, hb.1, fun i hi => (hx.pk i hi).1, hb.2, hx.r⟩, fun i hi => by have := ha i hi; omega⟩
    have hs2 := fun i hi => hs i hi (ha i hi)
    simp only [L28, m28] at hs2
    simp (disch := ((fail_if_success (intro _)); omega)) only [go_sem, simprocAttr, ↓reduceIte, ↓Nat.reduceEqDiff, xx, fd28, m28, hx.s, hx.p, q0, q1]
    rw [iter_to (S28 x) x.pur.length (by unfold LF; omega)]
    · by_cases h1 : x.pur.length ≤ 10
      · by_cases h2 : x.rev.length ≤ 10
        · rw [decide_eq_true ⟨h1, h2⟩]; simp (disch := ((fail_if_success (intro _)); omega)) only [go_sem, simprocAttr, ↓reduceIte, ↓Nat.reduceEqDiff, xx, S28, puL_length, dgL_length]
        · rw [decide_eq_false fun h => h2 h.2]; simp (disch := ((fail_if_success (intro _)); omega)) only [go_sem, simprocAttr, ↓reduceIte, ↓Nat.reduceEqDiff, xx, S28, puL_length, dgL_length]
      · rw [decide_eq_false fun h => h1 h.1]; simp (disch := ((fail_if_success (intro _)); omega)) only [go_sem, simprocAttr, ↓reduceIte, ↓Nat.reduceEqDiff, xx, S28, puL_length, dgL_length]
    · simp (disch := ((fail_if_success (intro _)); omega)) only [go_sem, simprocAttr, ↓reduceIte, ↓Nat.reduceEqDiff, xx, S28, puL_length]
    · exact hs2
    · simp (disch := ((fail_if_success (intro _)); omega)) only [go_sem, simprocAttr, ↓reduceIte, ↓Nat.reduceEqDiff, xx, S28, puL_length]
  · obtain ⟨st, hst, hg⟩ := out1_get (hf q hq he)
    have hs2 := fun i (hi : i < q) => hs i (by omega) (hb' i hi)
    simp only [L28, m28] at hs2 hst
    refine ⟨false, (fun h => by cases h), ?_⟩
    simp (disch := ((fail_if_success (intro _)); omega)) only [go_sem, simprocAttr, ↓reduceIte, ↓Nat.reduceEqDiff, xx, fd28, m28, hx.s, hx.p, q0, q1]
    rw [iter_to (S28 x) q (by unfold LF; omega), hst]
    · simp (disch := ((fail_if_success (intro _)); omega)) only [go_sem, simprocAttr, ↓reduceIte, ↓Nat.reduceEqDiff, xx, hg]
    · simp (disch := ((fail_if_success (intro _)); omega)) only [go_sem, simprocAttr, ↓reduceIte, ↓Nat.reduceEqDiff, xx, S28]
    · exact hs2
    · rw [hst]; rfl
def L69 : MC := match m69 with | .seq _ (.seq _ (.seq (.seq _ (.block _ (.loop _ b))) _)) => b | _ => .skip
def S69 (f g : Bool) (l : List (List UInt8)) (i : Nat) : St := ⟨[.set 5 (i64 i), .set 1 (.lst g .sc (strsAV l)), .set 0 (.lst f .sc (strsAV l))], []⟩
theorem texts_at (h : 2 ≤ n) (f g : Bool) (l : List (List UInt8)) (hl : l.length ≤ 1000) : call gl tab n 37 [.lst f .sc (strsAV l), .lst g .sc (strsAV l)] [] = some (.bool true, [], []) := by
  obtain ⟨d, rfl⟩ := Nat.exists_eq_add_of_le' h
  have hs : ∀ i, i < l.length → contK [.slot 0, .slot 1, .slot 5] (evC gl (call gl tab d) L69 (S69 f g l i)) = some (S69 f g l (i + 1)) := fun i hi => by
    have hx := strs_at hi
    simp (disch := ((fail_if_success (intro _)); omega)) only [go_sem, simprocAttr, ↓reduceIte, ↓Nat.reduceEqDiff, xx, L69, m69, S69, strsAV_length, hx, beq_self_eq_true]
  simp only [L69, m69] at hs
  have c : call gl tab (d + 1) 69 [.lst f .sc (strsAV l), .lst g .sc (strsAV l)] [] = some (.bool true, [], []) := by
    rw [call_go (fd := fd69) rfl]
    simp (disch := ((fail_if_success (intro _)); omega)) only [go_sem, simprocAttr, ↓reduceIte, ↓Nat.reduceEqDiff, xx, fd69, m69, strsAV_length, bne_self_eq_false]
    rw [iter_to (S69 f g l) l.length (by unfold LF; omega)]
    · simp (disch := ((fail_if_success (intro _)); omega)) only [go_sem, simprocAttr, ↓reduceIte, ↓Nat.reduceEqDiff, xx, S69, strsAV_length]
    · simp (disch := ((fail_if_success (intro _)); omega)) only [go_sem, simprocAttr, ↓reduceIte, ↓Nat.reduceEqDiff, xx, S69, strsAV_length]
    · exact hs
    · simp (disch := ((fail_if_success (intro _)); omega)) only [go_sem, simprocAttr, ↓reduceIte, ↓Nat.reduceEqDiff, xx, S69, strsAV_length]
  rw [call_go (fd := fd37) rfl]
  simp (disch := ((fail_if_success (intro _)); omega)) only [go_sem, simprocAttr, ↓reduceIte, ↓Nat.reduceEqDiff, xx, fd37, m37, c]
end Go.Proofs.S04
namespace Go.Proofs.S04
open Go Go.Ev Go.Proofs
open Go.Proofs.S04.H (strsAV strsAV_length strsAV_get GlK GlR)
variable {gl : Gl} {n : Nat}
theorem eqB' {b : List UInt8} (h : b.length = 16) : eqAV (.ar 16 .it) (bAV b) (bAV b) = some true := by
  have := eqB h h
  rw [decide_eq_true rfl] at this
  exact this
set_option maxHeartbeats 2000000 in
theorem sameEp_at (h : 6 ≤ n) (f g f' g' : Bool) (x : Ep) (hx : EpOk x) : call gl tab n 48 [epAV f g x, epAV f' g' x] [] = some (.bool true, [], []) := by
  obtain ⟨d, rfl⟩ := Nat.exists_eq_add_of_le' h
  have q3 := H.bytes_all x.sgn
  have q4 := H.bytes_all x.prev
  have hpl := hx.pl
  have hrl := hx.rl
  have c1 := @repP_at gl (d + 5) (by omega) f g x hx
  have c2 := @repP_at gl (d + 5) (by omega) f' g' x hx
  have c3 := @texts_at gl (d + 5) (by omega) false false (epP x) (by have := epL2_len x x.rev.length; unfold epP; omega)
  have e1 := eqB' hx.s
  have e2 := eqB' hx.p
  generalize strsAV (epP x) = w at *
  rw [call_go (fd := fd48) rfl]
  simp (implicitDefEqProofs := false) (disch := ((fail_if_success (intro _)); omega)) only [go_sem, simprocAttr, ↓reduceIte, ↓Nat.reduceEqDiff, xx, fd48, m48, c1, c2, c3, hx.s, hx.p, q3, q4, e1, e2, puL_length, beq_self_eq_true, eqAV, eqAVs]
theorem eqAll' (b : List UInt8) : eqAll ((bytesAV b).zip (bytesAV b)) (fun p => eqAV .it p.1 p.2) = some true := by
  have := eqB_all b b rfl
  rw [decide_eq_true rfl] at this
  exact this
theorem eqSp {x : Sp} (h : SpOk x) : eqAV (.st [.sg, .sg, .it, .it, .ar 16 .it, .sg, .st [.it, .it], .it, .it, .ar 16 .it]) (spAV x) (spAV x) = some true := by
  simp [eqAV, eqAVs, eqAll', bytesAV_length, h.s, h.r]
theorem eqLe {x : Le} (h : LeOk x) : eqAV (.st [.it, .it, .it, .it, .ar 16 .it]) (leAV x) (leAV x) = some true := by
  simp [eqAV, eqAVs, eqAll', bytesAV_length, h.s]
theorem eqHd {x : Hd} (h : HdOk x) : eqAV (.st [.it, .it, .ar 16 .it, .st [.it, .it], .it, .ar 16 .it]) (hdAV x) (hdAV x) = some true := by
  simp [eqAV, eqAVs, eqAll', bytesAV_length, h.s, h.r]
set_option maxHeartbeats 4000000 in
theorem law7 [Nonempty (GlK gl)] [Nonempty (GlR gl)] (hn : 20 ≤ n) (ar : List AV) (h : HasKds [kKy, kSp, kEp, kLe, kHd] ar) : call gl tab (n + 1) 7 ar [] = some (.bool true, [], []) := by
  simp only [HasKds] at h
  obtain ⟨_, _, rfl, h1, _, _, rfl, h2, _, _, rfl, h3, _, _, rfl, h4, _, _, rfl, h5, rfl⟩ := h
  obtain ⟨k, rfl, hk⟩ := kd_ky h1
  obtain ⟨a, rfl, ha, ha2⟩ := kd_sp h2
  obtain ⟨b, rfl, hb'⟩ := kd_ep h3
  obtain ⟨c, rfl, hc⟩ := kd_le h4
  obtain ⟨e, rfl, he⟩ := kd_hd h5
  have c12 := @sanity_at gl n _ (by omega)
  have c10 := @rvalid_at gl n (by omega) k hk.k
  have q1 := H.bytes_all a.sgn
  have q2 := H.bytes_all a.body
  have q3 := H.bytes_all b.sgn
  have q4 := H.bytes_all b.prev
  have q5 := H.bytes_all c.sgn
  have q6 := H.bytes_all e.sgn
  have q7 := H.bytes_all e.root
  by_cases hv : VK k
  case neg =>
    rw [decide_eq_false hv] at c10
    rw [call_go (fd := fd7) rfl]
    simp (disch := ((fail_if_success (intro _)); omega)) only [go_sem, simprocAttr, ↓reduceIte, ↓Nat.reduceEqDiff, xx, fd7, m7, c12, c10, ha.s, ha.r, hb'.s, hb'.p, hc.s, he.s, he.r, q1, q2, q3, q4, q5, q6, q7]
  rw [decide_eq_true hv] at c10
  have hk := hv.ok
  obtain ⟨b2, hb2, c27⟩ := @shSp_at gl n (by omega) a ha ha2
  cases b2 with
  | false =>
    rw [call_go (fd := fd7) rfl]
    simp (disch := ((fail_if_success (intro _)); omega)) only [go_sem, simprocAttr, ↓reduceIte, ↓Nat.reduceEqDiff, xx, fd7, m7, c12, c10, c27, ha.s, ha.r, hb'.s, hb'.p, hc.s, he.s, he.r, q1, q2, q3, q4, q5, q6, q7]
  | true =>
  obtain ⟨b3, hb3, c28⟩ := @shEp_at gl n (by omega) b hb'
  cases b3 with
  | false =>
    rw [call_go (fd := fd7) rfl]
    simp (disch := ((fail_if_success (intro _)); omega)) only [go_sem, simprocAttr, ↓reduceIte, ↓Nat.reduceEqDiff, xx, fd7, m7, c12, c10, c27, c28, ha.s, ha.r, hb'.s, hb'.p, hc.s, he.s, he.r, q1, q2, q3, q4, q5, q6, q7]
  | true =>
  have hsa := hb2 rfl
  obtain ⟨hbo, hsb⟩ := hb3 rfl
  have p1 := @spP_at gl n (by omega) a ha
  have p2 := @rspP_at gl n (by omega) a ha
  have p3 := @epP_at gl n (by omega) false false b hbo
  have p4 := @repP_at gl n (by omega) false false b hbo
  have p5 := @leP_at gl n (by omega) c hc
  have p6 := @rleP_at gl n (by omega) c hc
  have p7 := @hdP_at gl n (by omega) e he
  have p8 := @rhdP_at gl n (by omega) e he
  have t1 := @texts_at gl n (by omega) false false (spP a) (by simp [spP])
  have t2 := @texts_at gl n (by omega) false false (epP b) (by have := epL2_len b b.rev.length; have := hbo.pl; have := hbo.rl; unfold epP; omega)
  have t3 := @texts_at gl n (by omega) false false (leP c) (by simp [leP])
  have t4 := @texts_at gl n (by omega) false false (hdP e) (by simp [hdP])
  generalize strsAV (spP a) = w1 at *
  generalize strsAV (epP b) = w2 at *
  generalize strsAV (leP c) = w3 at *
  generalize strsAV (hdP e) = w4 at *
  have s1 := @spS_at gl n _ (by omega) k hk a ha hsa
  have s2 := @sprS_at gl n _ (by omega) k hk a ha hsa
  have s3 := @epS_at gl n _ (by omega) false false k hk b hbo hsb
  have s4 := @eprS_at gl n _ (by omega) false false k hk b hbo hsb
  have s5 := @leS_at gl n _ (by omega) k hk c hc
  have s6 := @lerS_at gl n _ (by omega) k hk c hc
  have s7 := @hdS_at gl n _ (by omega) k hk e he
  have s8 := @hdrS_at gl n _ (by omega) k hk e he
  have g1 := spS_ok hk ha
  have g2 := epS_ok hk hbo
  have g3 := leS_ok hk hc
  have g4 := hdS_ok hk he
  have t5 := @sameEp_at gl n (by omega) false false false false _ g2
  have r1 := H.bytes_all (spS k a).sgn
  have r2 := H.bytes_all (spS k a).body
  have r3 := H.bytes_all (epS k b).sgn
  have r4 := H.bytes_all (epS k b).prev
  have r5 := H.bytes_all (leS k c).sgn
  have r6 := H.bytes_all (hdS k e).sgn
  have r7 := H.bytes_all (hdS k e).root
  generalize spS k a = A at *
  generalize epS k b = B at *
  generalize leS k c = C at *
  generalize hdS k e = E at *
  have e1 := eqSp g1
  have e2 := eqLe g3
  have e3 := eqHd g4
  rw [call_go (fd := fd7) rfl]
  simp (maxSteps := 1000000) (implicitDefEqProofs := false) (disch := ((fail_if_success (intro _)); omega)) only [go_sem, simprocAttr, ↓reduceIte, ↓Nat.reduceEqDiff, xx, fd7, m7, c12, c10, c27, c28, ha.s, ha.r, hb'.s, hb'.p, hc.s, he.s, he.r, q1, q2, q3, q4, q5, q6, q7, p1, p2, p3, p4, p5, p6, p7, p8, t1, t2, t3, t4, t5, s1, s2, s3, s4, s5, s6, s7, s8, g1.s, g1.r, g2.s, g2.p, g3.s, g4.s, g4.r, r1, r2, r3, r4, r5, r6, r7, e1, e2, e3, beq_self_eq_true]
end Go.Proofs.S04
