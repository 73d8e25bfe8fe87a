/-
  Chapter 4: a key's own records are accepted. No condition.
-/
import Derived.Test.YtpjpmfjngpjifaaDoorW04G23x8
set_option linter.unusedVariables false
set_option linter.unusedSimpArgs false
set_option linter.unusedSectionVars false
namespace Go.Proofs.S04
open Go Go.Ev Go.Proofs
open Go.Proofs.S04.H (strsAV strsAV_length strsAV_get GlK GlR)
variable {gl : Gl} {n : Nat}
theorem ck_own {l : List Ky} (hv : VR l) {i : Nat} (hi : i < l.length) {tag : Int} {ps : List (List UInt8)} {sl : List UInt8} {lo hi' : Int} (hc : cnt (yat l i) lo hi' = true) :
    ckE l (yat l i).p (yat l i).s tag ps sl lo hi' = if sea (yat l i).k tag ps = sl then 0 else 8 := by
  unfold ckE
  rw [fnK_is hv ⟨hi, rfl, rfl⟩]
  simp only
  rw [if_pos hc]
theorem own_sp {l : List Ky} (hv : VR l) {i : Nat} (hi : i < l.length) (a : Sp) : (cnt (yat l i) a.lo a.hi && (spC l (spS (yat l i) a) != 0)) = false := by
  cases hc : cnt (yat l i) a.lo a.hi with
  | false => rfl
  | true =>
    have : spC l (spS (yat l i) a) = 0 := (ck_own hv hi hc).trans (if_pos rfl)
    rw [this]; rfl
theorem epL1_seal (a p c d u r e s s') : ∀ i, epL1 ⟨a, p, c, d, u, r, e, s⟩ i = epL1 ⟨a, p, c, d, u, r, e, s'⟩ i
  | 0 => rfl
  | i + 1 => by rw [epL1, epL1, epL1_seal a p c d u r e s s' i]
theorem epL2_seal (a p c d u r e s s') : ∀ i, epL2 ⟨a, p, c, d, u, r, e, s⟩ i = epL2 ⟨a, p, c, d, u, r, e, s'⟩ i
  | 0 => epL1_seal a p c d u r e s s' _
  | i + 1 => by rw [epL2, epL2, epL2_seal a p c d u r e s s' i]
theorem epP_seal (k : Ky) (b : Ep) : epP (epS k b) = epP (epK k b) := epL2_seal _ _ _ _ _ _ _ _ _ _
theorem own_ep {l : List Ky} (hv : VR l) {i : Nat} (hi : i < l.length) (hp : (yat l i).p = 1) (b : Ep) : (cnt (yat l i) b.lo b.hi && (epC l (epS (yat l i) b) != 0)) = false := by
  cases hc : cnt (yat l i) b.lo b.hi with
  | false => rfl
  | true =>
    have : epC l (epS (yat l i) b) = 0 := by
      have h := @ck_own l hv i hi 42 (epP (epS (yat l i) b)) (epS (yat l i) b).sgn b.lo b.hi hc
      rw [hp] at h
      exact h.trans (if_pos (by rw [epP_seal]; rfl))
    rw [this]; rfl
theorem own_le {l : List Ky} (hv : VR l) {i : Nat} (hi : i < l.length) (hp : (yat l i).p = 1) (c : Le) :
    ((((decide (0 ≤ c.site) && decide (c.site < 64)) && decide ((yat l i).f < c.til)) && decide (c.til ≤ (yat l i).t)) && (leC l (leS (yat l i) c) != 0)) = false := by
  by_cases h1 : 0 ≤ c.site ∧ c.site < 64 ∧ (yat l i).f < c.til ∧ c.til ≤ (yat l i).t
  · obtain ⟨h1, h2, h3, h4⟩ := h1
    have v := (hv.ok i hi).v
    have vf := v.f
    have vt := v.t
    have hc : cnt (yat l i) (c.til - 1) (c.til - 1) = true := by unfold cnt; rw [decide_eq_true_eq]; omega
    have : leC l (leS (yat l i) c) = 0 := by
      have h := @ck_own l hv i hi 43 (leP (leS (yat l i) c)) (leS (yat l i) c).sgn _ _ hc
      rw [hp] at h
      unfold leC
      rw [if_pos (by unfold isSite; rw [decide_eq_true_eq]; exact ⟨h1, h2⟩), if_pos (by show 1 ≤ c.til; omega)]
      exact h.trans (if_pos rfl)
    rw [this]
    exact Bool.and_false _
  · rw [Bool.and_eq_false_iff]; left
    rw [← Bool.decide_and, ← Bool.decide_and, ← Bool.decide_and, decide_eq_false_iff_not]
    omega
def hdP0 (k : Ky) (e : Hd) : Hd := ⟨k.p - 1000, e.size, e.root, e.lo, e.hi, e.ser, e.sgn⟩
theorem own_hd {l : List Ky} (hv : VR l) {i : Nat} (hi : i < l.length) (e : Hd) (h1 : 0 ≤ (yat l i).p - 1000 ∧ (yat l i).p - 1000 < 64) : (cnt (yat l i) e.lo e.hi && (hdC l (hdS (yat l i) (hdP0 (yat l i) e)) != 0)) = false := by
  cases hc : cnt (yat l i) e.lo e.hi with
  | false => rfl
  | true =>
    have : hdC l (hdS (yat l i) (hdP0 (yat l i) e)) = 0 := by
      have h := @ck_own l hv i hi 44 (hdP (hdS (yat l i) (hdP0 (yat l i) e))) (hdS (yat l i) (hdP0 (yat l i) e)).sgn _ _ hc
      unfold hdC
      rw [if_pos (by unfold isSite; rw [decide_eq_true_eq]; exact h1)]
      rw [show 1000 + (hdS (yat l i) (hdP0 (yat l i) e)).site = (yat l i).p by show 1000 + ((yat l i).p - 1000) = _; omega]
      exact h.trans (if_pos rfl)
    rw [this]; rfl
def stK (l : List Ky) (i : Nat) (o : List UInt8) : List Ky := l.set i ⟨(yat l i).p, (yat l i).s, o, (yat l i).f, (yat l i).t⟩
theorem stK_length (l : List Ky) (i : Nat) (o : List UInt8) : (stK l i o).length = l.length := List.length_set
theorem stK_eq {l : List Ky} {i : Nat} {o : List UInt8} (h : i < l.length) : yat (stK l i o) i = ⟨(yat l i).p, (yat l i).s, o, (yat l i).f, (yat l i).t⟩ := by
  unfold stK
  rw [yat, List.getD_eq_getElem?_getD, List.getElem?_set_self h]; rfl
theorem ks_stK (l : List Ky) (i : Nat) (o : List UInt8) : (ks l).set i (.agg [i64 (yat l i).p, i64 (yat l i).s, .str o, i64 (yat l i).f, i64 (yat l i).t]) = ks (stK l i o) := ks_set l i ⟨(yat l i).p, (yat l i).s, o, (yat l i).f, (yat l i).t⟩
theorem stK_B {l : List Ky} {i : Nat} {o : List UInt8} (hb : ∀ j, j < l.length → KyB (yat l j)) (ho : o.length ≤ ML) : ∀ j, j < (stK l i o).length → KyB (yat (stK l i o) j) := fun j hj => by
  rw [stK_length] at hj
  by_cases e : j = i
  · subst e; rw [stK_eq hj]; exact ⟨(hb j hj).p, (hb j hj).s, ho⟩
  · rw [show yat (stK l i o) j = yat l j by
      unfold yat stK
      rw [List.getD_eq_getElem?_getD, List.getD_eq_getElem?_getD, List.getElem?_set_ne (fun h => e h.symm)]]
    exact hb j hj
theorem other_sp {l : List Ky} {i : Nat} {o : List UInt8} (hi : i < l.length) (hv : VR (stK l i o)) (a : Sp) (hc : cnt (yat l i) a.lo a.hi = true) :
    (spC (stK l i o) (spS (yat l i) a) == 8) = !decide ((spS (yat (stK l i o) i) (spS (yat l i) a)).sgn = (spS (yat l i) a).sgn) := by
  have e := @stK_eq l i o hi
  have hc' : cnt (yat (stK l i o) i) a.lo a.hi = true := by rw [e]; exact hc
  have h := @ck_own (stK l i o) hv i (by rw [stK_length]; exact hi) 41 (spP (spS (yat l i) a)) (spS (yat l i) a).sgn _ _ hc'
  have h2 : spC (stK l i o) (spS (yat l i) a) = if sea o 41 (spP (spS (yat l i) a)) = (spS (yat l i) a).sgn then 0 else 8 := by
    rw [e] at h; exact h
  have h3 : (spS (yat (stK l i o) i) (spS (yat l i) a)).sgn = sea o 41 (spP (spS (yat l i) a)) := by rw [e]; rfl
  rw [h2, h3]
  by_cases hq : sea o 41 (spP (spS (yat l i) a)) = (spS (yat l i) a).sgn
  · rw [if_pos hq, decide_eq_true hq]; rfl
  · rw [if_neg hq, decide_eq_false hq]; rfl
def kAV (k : Ky) : AV := .agg [i64 k.p, i64 k.s, .str k.k, i64 k.f, i64 k.t]
set_option maxHeartbeats 8000000 in
theorem law8 [Nonempty (GlK gl)] (hn : 20 ≤ n) (ar : List AV) (h : HasKds [.sl kKy, .int .u8, .str, kSp, kEp, kLe, kHd] ar) : call gl tab (n + 1) 8 ar [] = some (.bool true, [], []) := by
  simp only [HasKds] at h
  obtain ⟨_, _, rfl, h1, _, _, rfl, h2, _, _, rfl, h3, _, _, rfl, h4, _, _, rfl, h5, _, _, rfl, h6, _, _, rfl, h7, rfl⟩ := h
  obtain ⟨l, rfl, hl0, h1⟩ := h1
  obtain ⟨l, rfl, hb⟩ := kd_ks h1
  obtain ⟨w, rfl⟩ := byte_of h2
  obtain ⟨o, rfl, ho⟩ := kd_str h3
  obtain ⟨a, rfl, ha, ha2⟩ := kd_sp h4
  obtain ⟨b, rfl, hb'⟩ := kd_ep h5
  obtain ⟨c, rfl, hc⟩ := kd_le h6
  obtain ⟨e, rfl, he⟩ := kd_hd h7
  rw [kKy_sh]
  rw [ks_length] at hl0
  have hl1 := ml_le hl0
  clear hl0
  have c12 := @sanity_at gl n _ (by omega)
  have q1 := H.bytes_all a.sgn
  have q2 := H.bytes_all a.body
  have q3 := H.bytes_all b.sgn
  have q4 := H.bytes_all b.prev
  have q5 := H.bytes_all c.sgn
  have q6 := H.bytes_all e.sgn
  have q7 := H.bytes_all e.root
  by_cases hl' : l.length = 0
  · rw [call_go (fd := fd8) rfl]
    simp (disch := ((fail_if_success (intro _)); omega)) only [go_sem, simprocAttr, ↓reduceIte, ↓Nat.reduceEqDiff, xx, fd8, m8, c12, ks_length, ha.s, ha.r, hb'.s, hb'.p, hc.s, he.s, he.r, q1, q2, q3, q4, q5, q6, q7]
  by_cases hl : l.length ≤ 30
  case neg =>
    rw [call_go (fd := fd8) rfl]
    simp (disch := ((fail_if_success (intro _)); omega)) only [go_sem, simprocAttr, ↓reduceIte, ↓Nat.reduceEqDiff, xx, fd8, m8, c12, ks_length, ha.s, ha.r, hb'.s, hb'.p, hc.s, he.s, he.r, q1, q2, q3, q4, q5, q6, q7]
  obtain ⟨b1, hb1, c11⟩ := @ring_at gl n (by omega) false sY l (.inr rfl) (sm_of (by omega) hb)
  cases b1 with
  | false =>
    rw [call_go (fd := fd8) rfl]
    simp (disch := ((fail_if_success (intro _)); omega)) only [go_sem, simprocAttr, ↓reduceIte, ↓Nat.reduceEqDiff, xx, fd8, m8, c12, c11, ks_length, ha.s, ha.r, hb'.s, hb'.p, hc.s, he.s, he.r, q1, q2, q3, q4, q5, q6, q7]
  | true =>
  obtain ⟨b2, hb2, c27⟩ := @shSp_at gl n (by omega) a ha ha2
  cases b2 with
  | false =>
    rw [call_go (fd := fd8) rfl]
    simp (disch := ((fail_if_success (intro _)); omega)) only [go_sem, simprocAttr, ↓reduceIte, ↓Nat.reduceEqDiff, xx, fd8, m8, c12, c11, c27, ks_length, ha.s, ha.r, hb'.s, hb'.p, hc.s, he.s, he.r, q1, q2, q3, q4, q5, q6, q7]
  | true =>
  obtain ⟨b3, hb3, c28⟩ := @shEp_at gl n (by omega) b hb'
  cases b3 with
  | false =>
    rw [call_go (fd := fd8) rfl]
    simp (disch := ((fail_if_success (intro _)); omega)) only [go_sem, simprocAttr, ↓reduceIte, ↓Nat.reduceEqDiff, xx, fd8, m8, c12, c11, c27, c28, ks_length, ha.s, ha.r, hb'.s, hb'.p, hc.s, he.s, he.r, q1, q2, q3, q4, q5, q6, q7]
  | true =>
  have hv := hb1.1 rfl
  have hsa := hb2 rfl
  obtain ⟨hbo, hsb⟩ := hb3 rfl
  obtain ⟨i, hi, tm⟩ : ∃ i : Nat, i < l.length ∧ Int.tmod (w.toNat : Int) (l.length : Int) = i := ⟨w.toNat % l.length, Nat.mod_lt _ (by omega), Int.ofNat_tmod w.toNat l.length |>.symm⟩
  have hw := w.toNat_lt
  have rm : binInt .rem .i64 (w.toNat : Int) (l.length : Int) = some (.int .i64 (i : Int)) := by
    show (if (l.length : Int) = 0 then none else some (AV.int .i64 (Int.tmod (w.toNat : Int) (l.length : Int)))) = _
    rw [if_neg (by omega), tm]
  have hx := ks_at hi
  have hvk := (hv.ok i hi).v
  have hk := hvk.ok
  -- what is known of the calls
  have s1 := @spS_at gl n _ (by omega) (yat l i) hk a ha hsa
  have s3 := @epS_at gl n _ (by omega) false false (yat l i) hk b hbo hsb
  have s5 := @leS_at gl n _ (by omega) (yat l i) hk c hc
  have u1 := @rcounts_at gl n (by omega) (yat l i) (spS (yat l i) a).lo (spS (yat l i) a).hi
  have u2 := @rcounts_at gl n (by omega) (yat l i) (epS (yat l i) b).lo (epS (yat l i) b).hi
  have u3 := @rcounts_at gl n (by omega) (yat l i) e.lo e.hi
  have g1 := spS_ok hk ha
  have g2 := epS_ok hk hbo
  have g3 := leS_ok hk hc
  have d1 := @spC_at gl n false sY l _ (by omega) (.inr rfl) hv _ g1 hsa
  have d2 := @epC_at gl n false sY l _ (by omega) (.inr rfl) hv false false _ g2 hsb
  have d3 := @leC_at gl n false sY l _ (by omega) (.inr rfl) hv _ g3
  have f1 : (cnt (yat l i) (spS (yat l i) a).lo (spS (yat l i) a).hi && (spC l (spS (yat l i) a) != 0)) = false := own_sp hv hi a
  have hLen := stK_length l i o
  obtain ⟨B, hB, c11b⟩ := @ring_at gl n (by omega) false sY (stK l i o) (.inr rfl) (sm_of (by omega) (stK_B hb ho))
  have hset := ks_stK l i o
  have r1 := H.bytes_all (spS (yat l i) a).sgn
  have r2 := H.bytes_all (spS (yat l i) a).body
  have r3 := H.bytes_all (epS (yat l i) b).sgn
  have r4 := H.bytes_all (epS (yat l i) b).prev
  have r5 := H.bytes_all (leS (yat l i) c).sgn
  have hL1 : l.length ≤ LIM := by unfold LIM; omega
  have v1 := @spC_at gl n false sY (stK l i o) _ (by omega) (.inr rfl)
  have v2 := @spS_at gl n _ (by omega) (yat (stK l i o) i)
  have v3 : VR (stK l i o) → cnt (yat l i) (spS (yat l i) a).lo (spS (yat l i) a).hi = true → (spC (stK l i o) (spS (yat l i) a) == 8) = !decide ((spS (yat (stK l i o) i) (spS (yat l i) a)).sgn = (spS (yat l i) a).sgn) := fun h1 h2 => other_sp hi h1 a h2
  have e1 := @stK_eq l i o hi
  have t1 := ks_take' (stK l i o)
  have hxb := @ks_at (stK l i o) i (by omega)
  rw [hLen] at t1
  have tl : List.take l.length (ks l) = ks l := ks_take' l
  have hvp := hvk.p
  have v4 : VR (stK l i o) → cnt (yat l i) (spS (yat l i) a).lo (spS (yat l i) a).hi = true → ∃ A2 : Sp, call gl tab n 46 [ky (yat (stK l i o) i), spAV (spS (yat l i) a)] [] = some (spAV A2, [], []) ∧ SpOk A2 ∧ (spC (stK l i o) (spS (yat l i) a) == 8) = !decide (A2.sgn = (spS (yat l i) a).sgn) := fun h1 h2 =>
    ⟨_, v2 (h1.ok i (by omega)).v.ok _ g1 hsa, spS_ok (h1.ok i (by omega)).v.ok g1, v3 h1 h2⟩
  have v5 := fun h1 => v1 h1 _ g1 hsa
  clear v1 v2 v3
  clear hb1 hb2 hb3 hb hk
  by_cases hp : (yat l i).p = 1
  · have f2 : (cnt (yat l i) (epS (yat l i) b).lo (epS (yat l i) b).hi && (epC l (epS (yat l i) b) != 0)) = false := own_ep hv hi hp b
    have f3 : ((((decide (0 ≤ (leS (yat l i) c).site) && decide ((leS (yat l i) c).site < 64)) && decide ((yat l i).f < (leS (yat l i) c).til)) && decide ((leS (yat l i) c).til ≤ (yat l i).t)) && (leC l (leS (yat l i) c) != 0)) = false := own_le hv hi hp c
    have hp' : ((yat l i).p == 1) = true := by rw [beq_iff_eq]; exact hp
    generalize spS (yat l i) a = A at *
    generalize epS (yat l i) b = B' at *
    generalize leS (yat l i) c = C at *
    cases B with
    | false =>
      rw [call_go (fd := fd8) rfl]
      simp (maxSteps := 1000000) (implicitDefEqProofs := false) (disch := ((fail_if_success (intro _)); omega)) only [go_sem, simprocAttr, ↓reduceIte, ↓Nat.reduceEqDiff, xx, fd8, m8, c12, c11, c27, c28, ks_length, ha.s, ha.r, hb'.s, hb'.p, hc.s, he.s, he.r, q1, q2, q3, q4, q5, q6, q7, rm, hx, s1, s3, s5, u1, u2, u3, d1, d2, d3, g1.s, g1.r, g2.s, g2.p, g3.s, r1, r2, r3, r4, r5, f1, hp', List.nil_append, hL1, tl, t1, hset, hLen, c11b, Bool.false_and, Bool.true_and, f2, f3]
    | true =>
      have hvb := hB.1 rfl
      have v5 := v5 hvb
      cases hcn : cnt (yat l i) A.lo A.hi with
      | false =>
        rw [hcn] at u1 f1
        rw [call_go (fd := fd8) rfl]
        simp (maxSteps := 1000000) (implicitDefEqProofs := false) (disch := ((fail_if_success (intro _)); omega)) only [go_sem, simprocAttr, ↓reduceIte, ↓Nat.reduceEqDiff, xx, fd8, m8, c12, c11, c27, c28, ks_length, ha.s, ha.r, hb'.s, hb'.p, hc.s, he.s, he.r, q1, q2, q3, q4, q5, q6, q7, rm, hx, s1, s3, s5, u1, u2, u3, d1, d2, d3, g1.s, g1.r, g2.s, g2.p, g3.s, r1, r2, r3, r4, r5, f1, hp', List.nil_append, hL1, tl, t1, hset, hLen, c11b, Bool.false_and, Bool.true_and, f2, f3]
      | true =>
        obtain ⟨A2, s9, l9, e9⟩ := v4 hvb hcn
        have r9 := H.bytes_all A2.sgn
        have r10 := H.bytes_all A2.body
        have eq := eqB l9.s g1.s
        rw [hcn, Bool.true_and] at f1
        rw [hcn] at u1
        rw [call_go (fd := fd8) rfl]
        simp (maxSteps := 1000000) (implicitDefEqProofs := false) (disch := ((fail_if_success (intro _)); omega)) only [go_sem, simprocAttr, ↓reduceIte, ↓Nat.reduceEqDiff, xx, fd8, m8, c12, c11, c27, c28, ks_length, ha.s, ha.r, hb'.s, hb'.p, hc.s, he.s, he.r, q1, q2, q3, q4, q5, q6, q7, rm, hx, s1, s3, s5, u1, u2, u3, d1, d2, d3, g1.s, g1.r, g2.s, g2.p, g3.s, r1, r2, r3, r4, r5, f1, hp', List.nil_append, hL1, tl, t1, hset, hLen, c11b, Bool.false_and, Bool.true_and, f2, f3, v5, s9, l9.s, l9.r, e9, r9, r10, hxb, eq, beq_self_eq_true]
  have hp' : ((yat l i).p == 1) = false := by rw [beq_eq_false_iff_ne]; exact hp
  have f4 := own_hd hv hi e
  have s7 := @hdS_at gl n _ (by omega) (yat l i) hvk.ok (hdP0 (yat l i) e)
  have d4 := @hdC_at gl n false sY l _ (by omega) (.inr rfl) hv (hdS (yat l i) (hdP0 (yat l i) e))
  have g4 : HdOk (hdP0 (yat l i) e) := by
    obtain ⟨a1, h1⟩ := few_cons he.i
    exact ⟨few_mk (show R64 ((yat l i).p - 1000) by unfold R64; omega) h1 (by simp), he.r, he.s⟩
  have s7 := s7 g4
  have d4 := d4 (hdS_ok hvk.ok g4)
  have u3 : call gl tab n 55 [ky (yat l i), .agg [i64 (hdS (yat l i) (hdP0 (yat l i) e)).lo, i64 (hdS (yat l i) (hdP0 (yat l i) e)).hi]] [] = some (.bool (cnt (yat l i) e.lo e.hi), [], []) := u3
  have g5 := hdS_ok hvk.ok g4
  have r6 := H.bytes_all (hdS (yat l i) (hdP0 (yat l i) e)).sgn
  have r7 := H.bytes_all (hdS (yat l i) (hdP0 (yat l i) e)).root
  simp only [hdAV, bAV, hdP0] at s7
  have s7 : call gl tab n 53 [.agg [i64 (yat l i).p, i64 (yat l i).s, .str (yat l i).k, i64 (yat l i).f, i64 (yat l i).t], .agg [i64 ((yat l i).p - 1000), i64 e.size, .agg (bytesAV e.root), .agg [i64 e.lo, i64 e.hi], i64 e.ser, .agg (bytesAV e.sgn)]] [] = some (hdAV (hdS (yat l i) (hdP0 (yat l i) e)), [], []) := s7
  generalize spS (yat l i) a = A at *
  generalize epS (yat l i) b = B' at *
  generalize leS (yat l i) c = C at *
  generalize hdS (yat l i) (hdP0 (yat l i) e) = E at *
  by_cases h1 : (yat l i).p < 1000
  · have h1' : (yat l i).p - 1000 < 0 := by omega
    cases B with
    | false =>
      rw [call_go (fd := fd8) rfl]
      simp (maxSteps := 1000000) (implicitDefEqProofs := false) (disch := ((fail_if_success (intro _)); omega)) only [go_sem, simprocAttr, ↓reduceIte, ↓Nat.reduceEqDiff, xx, fd8, m8, c12, c11, c27, c28, ks_length, ha.s, ha.r, hb'.s, hb'.p, hc.s, he.s, he.r, q1, q2, q3, q4, q5, q6, q7, rm, hx, s1, s3, s5, u1, u2, u3, d1, d2, d3, g1.s, g1.r, g2.s, g2.p, g3.s, r1, r2, r3, r4, r5, f1, hp', List.nil_append, hL1, tl, t1, hset, hLen, c11b, Bool.false_and, Bool.true_and]
    | true =>
      have hvb := hB.1 rfl
      have v5 := v5 hvb
      cases hcn : cnt (yat l i) A.lo A.hi with
      | false =>
        rw [hcn] at u1 f1
        rw [call_go (fd := fd8) rfl]
        simp (maxSteps := 1000000) (implicitDefEqProofs := false) (disch := ((fail_if_success (intro _)); omega)) only [go_sem, simprocAttr, ↓reduceIte, ↓Nat.reduceEqDiff, xx, fd8, m8, c12, c11, c27, c28, ks_length, ha.s, ha.r, hb'.s, hb'.p, hc.s, he.s, he.r, q1, q2, q3, q4, q5, q6, q7, rm, hx, s1, s3, s5, u1, u2, u3, d1, d2, d3, g1.s, g1.r, g2.s, g2.p, g3.s, r1, r2, r3, r4, r5, f1, hp', List.nil_append, hL1, tl, t1, hset, hLen, c11b, Bool.false_and, Bool.true_and]
      | true =>
        obtain ⟨A2, s9, l9, e9⟩ := v4 hvb hcn
        have r9 := H.bytes_all A2.sgn
        have r10 := H.bytes_all A2.body
        have eq := eqB l9.s g1.s
        rw [hcn, Bool.true_and] at f1
        rw [hcn] at u1
        rw [call_go (fd := fd8) rfl]
        simp (maxSteps := 1000000) (implicitDefEqProofs := false) (disch := ((fail_if_success (intro _)); omega)) only [go_sem, simprocAttr, ↓reduceIte, ↓Nat.reduceEqDiff, xx, fd8, m8, c12, c11, c27, c28, ks_length, ha.s, ha.r, hb'.s, hb'.p, hc.s, he.s, he.r, q1, q2, q3, q4, q5, q6, q7, rm, hx, s1, s3, s5, u1, u2, u3, d1, d2, d3, g1.s, g1.r, g2.s, g2.p, g3.s, r1, r2, r3, r4, r5, f1, hp', List.nil_append, hL1, tl, t1, hset, hLen, c11b, Bool.false_and, Bool.true_and, v5, s9, l9.s, l9.r, e9, r9, r10, hxb, eq, beq_self_eq_true]
  by_cases h2 : (yat l i).p < 1064
  · have h3 : 0 ≤ (yat l i).p - 1000 := by omega
    have h4 : (yat l i).p - 1000 < 64 := by omega
    have f4 := f4 ⟨h3, h4⟩
    cases B with
    | false =>
      rw [call_go (fd := fd8) rfl]
      simp (maxSteps := 1000000) (implicitDefEqProofs := false) (disch := ((fail_if_success (intro _)); omega)) only [go_sem, simprocAttr, ↓reduceIte, ↓Nat.reduceEqDiff, xx, fd8, m8, c12, c11, c27, c28, ks_length, ha.s, ha.r, hb'.s, hb'.p, hc.s, he.s, he.r, q1, q2, q3, q4, q5, q6, q7, rm, hx, s1, s3, s5, u1, u2, u3, d1, d2, d3, g1.s, g1.r, g2.s, g2.p, g3.s, r1, r2, r3, r4, r5, f1, hp', List.nil_append, hL1, tl, t1, hset, hLen, c11b, Bool.false_and, Bool.true_and, f4, s7, d4, g5.s, g5.r, r6, r7]
    | true =>
      have hvb := hB.1 rfl
      have v5 := v5 hvb
      cases hcn : cnt (yat l i) A.lo A.hi with
      | false =>
        rw [hcn] at u1 f1
        rw [call_go (fd := fd8) rfl]
        simp (maxSteps := 1000000) (implicitDefEqProofs := false) (disch := ((fail_if_success (intro _)); omega)) only [go_sem, simprocAttr, ↓reduceIte, ↓Nat.reduceEqDiff, xx, fd8, m8, c12, c11, c27, c28, ks_length, ha.s, ha.r, hb'.s, hb'.p, hc.s, he.s, he.r, q1, q2, q3, q4, q5, q6, q7, rm, hx, s1, s3, s5, u1, u2, u3, d1, d2, d3, g1.s, g1.r, g2.s, g2.p, g3.s, r1, r2, r3, r4, r5, f1, hp', List.nil_append, hL1, tl, t1, hset, hLen, c11b, Bool.false_and, Bool.true_and, f4, s7, d4, g5.s, g5.r, r6, r7]
      | true =>
        obtain ⟨A2, s9, l9, e9⟩ := v4 hvb hcn
        have r9 := H.bytes_all A2.sgn
        have r10 := H.bytes_all A2.body
        have eq := eqB l9.s g1.s
        rw [hcn, Bool.true_and] at f1
        rw [hcn] at u1
        rw [call_go (fd := fd8) rfl]
        simp (maxSteps := 1000000) (implicitDefEqProofs := false) (disch := ((fail_if_success (intro _)); omega)) only [go_sem, simprocAttr, ↓reduceIte, ↓Nat.reduceEqDiff, xx, fd8, m8, c12, c11, c27, c28, ks_length, ha.s, ha.r, hb'.s, hb'.p, hc.s, he.s, he.r, q1, q2, q3, q4, q5, q6, q7, rm, hx, s1, s3, s5, u1, u2, u3, d1, d2, d3, g1.s, g1.r, g2.s, g2.p, g3.s, r1, r2, r3, r4, r5, f1, hp', List.nil_append, hL1, tl, t1, hset, hLen, c11b, Bool.false_and, Bool.true_and, f4, s7, d4, g5.s, g5.r, r6, r7, v5, s9, l9.s, l9.r, e9, r9, r10, hxb, eq, beq_self_eq_true]
  have h3 : 0 ≤ (yat l i).p - 1000 := by omega
  have h4 : 64 ≤ (yat l i).p - 1000 := by omega
  cases B with
  | false =>
    rw [call_go (fd := fd8) rfl]
    simp (maxSteps := 1000000) (implicitDefEqProofs := false) (disch := ((fail_if_success (intro _)); omega)) only [go_sem, simprocAttr, ↓reduceIte, ↓Nat.reduceEqDiff, xx, fd8, m8, c12, c11, c27, c28, ks_length, ha.s, ha.r, hb'.s, hb'.p, hc.s, he.s, he.r, q1, q2, q3, q4, q5, q6, q7, rm, hx, s1, s3, s5, u1, u2, u3, d1, d2, d3, g1.s, g1.r, g2.s, g2.p, g3.s, r1, r2, r3, r4, r5, f1, hp', List.nil_append, hL1, tl, t1, hset, hLen, c11b, Bool.false_and, Bool.true_and]
  | true =>
    have hvb := hB.1 rfl
    have v5 := v5 hvb
    cases hcn : cnt (yat l i) A.lo A.hi with
    | false =>
      rw [hcn] at u1 f1
      rw [call_go (fd := fd8) rfl]
      simp (maxSteps := 1000000) (implicitDefEqProofs := false) (disch := ((fail_if_success (intro _)); omega)) only [go_sem, simprocAttr, ↓reduceIte, ↓Nat.reduceEqDiff, xx, fd8, m8, c12, c11, c27, c28, ks_length, ha.s, ha.r, hb'.s, hb'.p, hc.s, he.s, he.r, q1, q2, q3, q4, q5, q6, q7, rm, hx, s1, s3, s5, u1, u2, u3, d1, d2, d3, g1.s, g1.r, g2.s, g2.p, g3.s, r1, r2, r3, r4, r5, f1, hp', List.nil_append, hL1, tl, t1, hset, hLen, c11b, Bool.false_and, Bool.true_and]
    | true =>
      obtain ⟨A2, s9, l9, e9⟩ := v4 hvb hcn
      have r9 := H.bytes_all A2.sgn
      have r10 := H.bytes_all A2.body
      have eq := eqB l9.s g1.s
      rw [hcn, Bool.true_and] at f1
      rw [hcn] at u1
      rw [call_go (fd := fd8) rfl]
      simp (maxSteps := 1000000) (implicitDefEqProofs := false) (disch := ((fail_if_success (intro _)); omega)) only [go_sem, simprocAttr, ↓reduceIte, ↓Nat.reduceEqDiff, xx, fd8, m8, c12, c11, c27, c28, ks_length, ha.s, ha.r, hb'.s, hb'.p, hc.s, he.s, he.r, q1, q2, q3, q4, q5, q6, q7, rm, hx, s1, s3, s5, u1, u2, u3, d1, d2, d3, g1.s, g1.r, g2.s, g2.p, g3.s, r1, r2, r3, r4, r5, f1, hp', List.nil_append, hL1, tl, t1, hset, hLen, c11b, Bool.false_and, Bool.true_and, v5, s9, l9.s, l9.r, e9, r9, r10, hxb, eq, beq_self_eq_true]
end Go.Proofs.S04
