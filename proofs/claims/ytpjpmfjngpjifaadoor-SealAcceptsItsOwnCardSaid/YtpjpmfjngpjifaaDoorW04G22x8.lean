/-
  Chapter 4: rings are kept as specified. No condition.
-/
import Derived.Test.YtpjpmfjngpjifaaDoorW04G21x8
set_option linter.unusedVariables false
set_option linter.unusedSimpArgs false
set_option linter.unusedSectionVars false
namespace Go.Proofs.S04
open Go Go.Ev Go.Proofs
open Go.Proofs.S04.H (GlK GlR)
variable {gl : Gl} {n : Nat}
theorem sm_of {l : List Ky} (h : l.length ≤ 1000) (hb : ∀ i, i < l.length → KyB (yat l i)) : Sm l := ⟨by omega, fun i hi => (hb i hi).k⟩
theorem VR.sm {l : List Ky} (h : VR l) : Sm l := ⟨by have := h.n; omega, fun i hi => by have := (h.ok i hi).v.k; omega⟩
theorem ring_nil (h : 2 ≤ n) : call gl tab n 11 [.lst true .sc []] [] = some (.bool true, [], []) := by
  obtain ⟨b, hb, c⟩ := @ring_at gl n h true .sc [] (.inl rfl) ⟨by decide, fun i hi => absurd hi (by simp)⟩
  rw [hb.2 ⟨by decide, fun i hi => absurd hi (by simp)⟩] at c
  exact c
theorem ring_vr (h : 2 ≤ n) {f : Bool} {m : Sh} {l : List Ky} (hm : Mk l m) (hv : VR l) : call gl tab n 11 [.lst f m (ks l)] [] = some (.bool true, [], []) := by
  obtain ⟨b, hb, c⟩ := @ring_at gl n h f m l hm hv.sm
  rw [hb.2 hv] at c
  exact c
set_option maxHeartbeats 4000000 in
theorem law3 [Nonempty (GlK gl)] (hn : 20 ≤ n) (ar : List AV) (h : HasKds [.sl kKy, kKy, kI, kI, kPe] ar) : call gl tab (n + 1) 3 ar [] = some (.bool true, [], []) := by
  simp only [HasKds] at h
  obtain ⟨_, _, rfl, h1, _, _, rfl, h2, _, _, rfl, h3, _, _, rfl, h4, _, _, rfl, h5, rfl⟩ := h
  obtain ⟨l, rfl, hl0, h1⟩ := h1
  obtain ⟨l, rfl, hb⟩ := kd_ks h1
  obtain ⟨x, rfl, hx⟩ := kd_ky h2
  obtain ⟨p, rfl, hp⟩ := kd_i h3
  obtain ⟨s, rfl, hs⟩ := kd_i h4
  obtain ⟨lo, hi, rfl, hlo, hhi⟩ := kd_Pe h5
  rw [kKy_sh]
  rw [ks_length] at hl0
  have hl1 := ml_le hl0
  clear hl0
  have c12 := @sanity_at gl n _ (by omega)
  have c9 := @valid_at gl n (by omega) x hx.k
  have c10 := @rvalid_at gl n (by omega) x hx.k
  generalize hvx : decide (VK x) = bx at *
  have hbx : (!(bx == bx)) = false := by cases bx <;> rfl
  by_cases hl : l.length ≤ 30
  case neg =>
    rw [call_go (fd := fd3) rfl]
    cases bx with
    | true => simp (disch := ((fail_if_success (intro _)); omega)) only [go_sem, simprocAttr, ↓reduceIte, ↓Nat.reduceEqDiff, xx, fd3, m3, c12, c9, c10, ks_length]
    | false => simp (disch := ((fail_if_success (intro _)); omega)) only [go_sem, simprocAttr, ↓reduceIte, ↓Nat.reduceEqDiff, xx, fd3, m3, c12, c9, c10, ks_length]
  obtain ⟨b1, hb1, c11⟩ := @ring_at gl n (by omega) false sY l (.inr rfl) (sm_of (by omega) hb)
  cases b1 with
  | false =>
    rw [call_go (fd := fd3) rfl]
    cases bx with
    | true => simp (disch := ((fail_if_success (intro _)); omega)) only [go_sem, simprocAttr, ↓reduceIte, ↓Nat.reduceEqDiff, xx, fd3, m3, c12, c9, c10, c11, ks_length]
    | false => simp (disch := ((fail_if_success (intro _)); omega)) only [go_sem, simprocAttr, ↓reduceIte, ↓Nat.reduceEqDiff, xx, fd3, m3, c12, c9, c10, c11, ks_length]
  | true =>
  have hv := hb1.1 rfl
  have c18 := @cur_at gl n (by omega) false sY l (.inr rfl) (by omega) p lo hi
  have c19 := @rcur_at gl n (by omega) false sY l (.inr rfl) (by omega) p lo hi
  generalize fC l p lo hi l.length = q at *
  have hfin : ∀ (y : Ky) (e : Int) (A1 A2 : AV) (r1 : call gl tab n 13 [.lst false sY (ks l), ky x] [] = some (A1, [], [])) (r2 : call gl tab n 14 [.lst false sY (ks l), ky x] [] = some (A2, [], [])),
      (∃ v e0, A1 = .tup [v, i64 e0] ∧ A2 = .agg [v, i64 e0] ∧ (∃ g m w, v = .lst g m w) ∧ call gl tab n 15 [v, v] [] = some (.bool true, [], []) ∧ call gl tab n 11 [v] [] = some (.bool true, [], [])) →
      call gl tab n 16 [.lst false sY (ks l), i64 p, i64 s] [] = some (.tup [ky y, i64 e], [], []) → call gl tab n 17 [.lst false sY (ks l), i64 p, i64 s] [] = some (.agg [ky y, i64 e], [], []) →
      call gl tab (n + 1) 3 [.lst false sY (ks l), ky x, i64 p, i64 s, .agg [i64 lo, i64 hi]] [] = some (.bool true, [], []) := by
    rintro y e A1 A2 r1 r2 ⟨v, e0, rfl, rfl, ⟨g, m, w, rfl⟩, c15, c11'⟩ c16 c17
    rw [call_go (fd := fd3) rfl]
    cases bx with
    | true => simp (disch := ((fail_if_success (intro _)); omega)) only [go_sem, simprocAttr, ↓reduceIte, ↓Nat.reduceEqDiff, xx, fd3, m3, c12, c9, c10, c11, ks_length, r1, r2, c15, c11', c16, c17, c18, c19, bne_self_eq_false, beq_self_eq_true, eqAV, eqAVs]
    | false => simp (disch := ((fail_if_success (intro _)); omega)) only [go_sem, simprocAttr, ↓reduceIte, ↓Nat.reduceEqDiff, xx, fd3, m3, c12, c9, c10, c11, ks_length, r1, r2, c15, c11', c16, c17, c18, c19, bne_self_eq_false, beq_self_eq_true, eqAV, eqAVs]
  have hadd : ∃ A1 A2, call gl tab n 13 [.lst false sY (ks l), ky x] [] = some (A1, [], []) ∧ call gl tab n 14 [.lst false sY (ks l), ky x] [] = some (A2, [], []) ∧
      (∃ v e0, A1 = .tup [v, i64 e0] ∧ A2 = .agg [v, i64 e0] ∧ (∃ g m w, v = .lst g m w) ∧ call gl tab n 15 [v, v] [] = some (.bool true, [], []) ∧ call gl tab n 11 [v] [] = some (.bool true, [], [])) := by
    rcases @adds gl n (by omega) false sY l (.inr rfl) hv (by omega) x hx.k with ⟨e, he, a1, a2⟩ | ⟨k, hvr, a1, a2⟩
    · exact ⟨_, _, a1, a2, _, e, rfl, rfl, ⟨_, _, _, rfl⟩, same_nil (by omega), ring_nil (by omega)⟩
    · exact ⟨_, _, a1, a2, _, 0, rfl, rfl, ⟨_, _, _, rfl⟩, same_at (by omega) (.inr rfl) (.inr rfl) hvr.sm.1, ring_vr (by omega) (.inr rfl) hvr⟩
  obtain ⟨A1, A2, r1, r2, hA⟩ := hadd
  rcases @finds gl n (by omega) false sY l (.inr rfl) hv p s hp hs with ⟨k, hk, c16, c17⟩ | ⟨hno, c16, c17⟩
  · exact hfin _ _ A1 A2 r1 r2 hA c16 c17
  · exact hfin ⟨0, 0, [], 0, 0⟩ _ A1 A2 r1 r2 hA c16 c17
end Go.Proofs.S04
namespace Go.Proofs.S04
open Go Go.Ev Go.Proofs
open Go.Proofs.S04.H (strsAV strsAV_length strsAV_get GlK GlR)
variable {gl : Gl} {n : Nat}
def L22 : MC := match m22 with | .seq _ (.seq (.seq _ (.block _ (.loop _ b))) _) => b | _ => .skip
def S22 (l : List (List UInt8)) (k : Int) (i : Nat) : St := ⟨[.set 5 (i64 i), .set 1 (i64 k), .set 0 (.lst false .sc (strsAV l))], []⟩
theorem strs_at {l : List (List UInt8)} {i : Nat} (h : i < l.length) : (strsAV l)[i]? = some (.str (sat l i)) := by simp [H.strsAV, sat, h]
def Few (l : List (List UInt8)) (k : Int) : Prop := (∀ i, i < l.length → (sat l i).length ≤ 200) ∧ (l.length : Int) ≤ k
theorem short_at (h : 1 ≤ n) {l : List (List UInt8)} {k : Int} (hl : l.length ≤ ML) (hb : ∀ i, i < l.length → (sat l i).length ≤ ML) :
    ∃ b : Bool, (b = true ↔ Few l k) ∧ call gl tab n 22 [.lst false .sc (strsAV l), i64 k] [] = some (.bool b, [], []) := by
  obtain ⟨d, rfl⟩ := Nat.exists_eq_add_of_le' h
  unfold ML at *
  have hs : ∀ i, i < l.length → (sat l i).length ≤ 200 → contK [.slot 0, .slot 1, .slot 5] (evC gl (call gl tab d) L22 (S22 l k i)) = some (S22 l k (i + 1)) := fun i hi hp => by
    have hx := strs_at hi
    simp (disch := ((fail_if_success (intro _)); omega)) only [go_sem, simprocAttr, ↓reduceIte, ↓Nat.reduceEqDiff, xx, L22, m22, S22, strsAV_length, hx]
  have hf : ∀ i, i < l.length → ¬ (sat l i).length ≤ 200 → out1 4 (evC gl (call gl tab d) L22 (S22 l k i)) = some (.ret, .bool false) := fun i hi hp => by
    have hx := strs_at hi
    have := hb i hi
    simp (disch := ((fail_if_success (intro _)); omega)) only [go_sem, simprocAttr, ↓reduceIte, ↓Nat.reduceEqDiff, xx, L22, m22, S22, strsAV_length, hx]
  rw [call_go (fd := fd22) rfl]
  rcases first_fail (fun i => (sat l i).length ≤ 200) l.length with ha | ⟨q, hq, hb', he⟩
  · refine ⟨decide ((l.length : Int) ≤ k), ?_, ?_⟩
    · rw [decide_eq_true_eq]; exact ⟨fun h => ⟨ha, h⟩, fun h => h.2⟩
    have hs2 := fun i hi => hs i hi (ha i hi)
    simp only [L22, m22] at hs2
    simp (disch := ((fail_if_success (intro _)); omega)) only [go_sem, simprocAttr, ↓reduceIte, ↓Nat.reduceEqDiff, xx, fd22, m22]
    rw [iter_to (S22 l k) l.length (by unfold LF; omega)]
    · simp (disch := ((fail_if_success (intro _)); omega)) only [go_sem, simprocAttr, ↓reduceIte, ↓Nat.reduceEqDiff, xx, S22, strsAV_length]
    · simp (disch := ((fail_if_success (intro _)); omega)) only [go_sem, simprocAttr, ↓reduceIte, ↓Nat.reduceEqDiff, xx, S22, strsAV_length]
    · exact hs2
    · simp (disch := ((fail_if_success (intro _)); omega)) only [go_sem, simprocAttr, ↓reduceIte, ↓Nat.reduceEqDiff, xx, S22, strsAV_length]
  · obtain ⟨st, hst, hg⟩ := out1_get (hf q hq he)
    have hs2 := fun i (hi : i < q) => hs i (by omega) (hb' i hi)
    simp only [L22, m22] at hs2 hst
    refine ⟨false, ⟨(fun h => by cases h), fun h => absurd (h.1 q hq) he⟩, ?_⟩
    simp (disch := ((fail_if_success (intro _)); omega)) only [go_sem, simprocAttr, ↓reduceIte, ↓Nat.reduceEqDiff, xx, fd22, m22]
    rw [iter_to (S22 l k) q (by unfold LF; omega), hst]
    · simp (disch := ((fail_if_success (intro _)); omega)) only [go_sem, simprocAttr, ↓reduceIte, ↓Nat.reduceEqDiff, xx, hg]
    · simp (disch := ((fail_if_success (intro _)); omega)) only [go_sem, simprocAttr, ↓reduceIte, ↓Nat.reduceEqDiff, xx, S22]
    · exact hs2
    · rw [hst]; rfl
theorem few_pts {l : List (List UInt8)} {k : Int} (h : Few l k) (hk : k ≤ 50) : Pts l := ⟨by have := h.2; omega, fun x hx => by
  obtain ⟨i, hi, rfl⟩ := List.getElem_of_mem hx
  have := h.1 i hi
  rw [sat, List.getD_eq_getElem?_getD, List.getElem?_eq_getElem hi, Option.getD_some] at this
  omega⟩
def L5 : MC := match m5 with | .seq _ (.seq _ (.seq (.seq _ (.block _ (.loop _ b))) _)) => b | _ => .skip
def S5 (l : List Ky) (p s tag : Int) (ps : List (List UInt8)) (sl : List UInt8) (lo hi : Int) (i : Nat) : St :=
  ⟨[.set 33 (i64 i), .set 32 (i64 l.length), .set 31 (.lst false sY (ks l)), .set 13 (.ptr 13 []), .set 12 (.ptr 12 []), .set 4 (.lst false .sc (strsAV ps)), .set 3 (i64 tag), .set 2 (i64 s), .set 1 (i64 p), .set 0 (.lst false sY (ks l))],
   [(13, .fix sP (.agg [i64 lo, i64 hi])), (12, .fix sB (bAV sl))]⟩
set_option maxHeartbeats 4000000 in
theorem law5 [Nonempty (GlK gl)] [Nonempty (GlR gl)] (hn : 20 ≤ n) (ar : List AV) (h : HasKds [.sl kKy, kI, kI, kI, .sl .str, kB, kPe] ar) : call gl tab (n + 1) 5 ar [] = some (.bool true, [], []) := by
  simp only [HasKds] at h
  obtain ⟨_, _, rfl, h1, _, _, rfl, h2, _, _, rfl, h3, _, _, rfl, h4, _, _, rfl, h5, _, _, rfl, h6, _, _, rfl, h7, rfl⟩ := h
  obtain ⟨l, rfl, hl0, h1⟩ := h1
  obtain ⟨l, rfl, hb⟩ := kd_ks h1
  obtain ⟨p, rfl, hp⟩ := kd_i h2
  obtain ⟨s, rfl, hs⟩ := kd_i h3
  obtain ⟨tag, rfl, htag⟩ := kd_i h4
  obtain ⟨ps, rfl, hps0, h5⟩ := h5
  obtain ⟨ps, rfl, hps⟩ := kd_strs h5
  obtain ⟨sl, rfl, hsl⟩ := kd_B h6
  obtain ⟨lo, hi, rfl, hlo, hhi⟩ := kd_Pe h7
  rw [kKy_sh, kS_sh]
  rw [ks_length] at hl0
  rw [strsAV_length] at hps0
  have hl1 := ml_le hl0
  have hps1 := ml_le hps0
  clear hl0 hps0
  have c12 := @sanity_at gl n _ (by omega)
  have q0 := H.bytes_all sl
  by_cases hl : l.length ≤ 30
  case neg =>
    rw [call_go (fd := fd5) rfl]
    simp (disch := ((fail_if_success (intro _)); omega)) only [go_sem, simprocAttr, ↓reduceIte, ↓Nat.reduceEqDiff, xx, fd5, m5, c12, ks_length, hsl, q0]
  obtain ⟨b1, hb1, c11⟩ := @ring_at gl n (by omega) false sY l (.inr rfl) (sm_of (by omega) hb)
  cases b1 with
  | false =>
    rw [call_go (fd := fd5) rfl]
    simp (disch := ((fail_if_success (intro _)); omega)) only [go_sem, simprocAttr, ↓reduceIte, ↓Nat.reduceEqDiff, xx, fd5, m5, c12, c11, ks_length, hsl, q0]
  | true =>
  obtain ⟨b2, hb2, c22⟩ := @short_at gl n (by omega) ps 6 hps1 hps
  cases b2 with
  | false =>
    rw [call_go (fd := fd5) rfl]
    simp (disch := ((fail_if_success (intro _)); omega)) only [go_sem, simprocAttr, ↓reduceIte, ↓Nat.reduceEqDiff, xx, fd5, m5, c12, c11, c22, ks_length, hsl, q0]
  | true =>
  have hv := hb1.1 rfl
  have hpt := few_pts (hb2.1 rfl) (by omega)
  have hs : ∀ i, i < l.length → contK [.slot 0, .slot 1, .slot 2, .slot 3, .slot 4, .slot 12, .slot 13, .slot 31, .slot 32, .slot 33, .key 12, .key 13] (evC gl (call gl tab n) L5 (S5 l p s tag ps sl lo hi i)) = some (S5 l p s tag ps sl lo hi (i + 1)) := fun i hi' => by
    have hx := ks_at hi'
    have hk := (hv.ok i hi').v.ok
    have c23 := @make_at gl n _ (by omega) (yat l i) hk.k tag false ps hpt
    have c24 := @rmake_at gl n _ (by omega) (yat l i) hk.k tag false ps hpt
    have d1 := sAV_len (yat l i).k tag ps
    have d2 := sAV_all (yat l i).k tag ps
    have eq := eqB (sea_len (yat l i).k tag ps) (sea_len (yat l i).k tag ps)
    rw [decide_eq_true rfl, show bytesAV (sea (yat l i).k tag ps) = sAV (yat l i).k tag ps from rfl] at eq
    generalize sAV (yat l i).k tag ps = z at *
    simp (disch := ((fail_if_success (intro _)); omega)) only [go_sem, simprocAttr, ↓reduceIte, ↓Nat.reduceEqDiff, xx, L5, m5, S5, ks_length, hx, c23, c24, d1, d2, eq]
  simp only [L5, m5] at hs
  have c25 := @check_at gl n false sY l p s sl ps false _ (by omega) (.inr rfl) hv hp ‹R64 s› tag hpt hsl lo hi
  have c26 := @rcheck_at gl n false sY l p s sl ps false _ (by omega) (.inr rfl) hv hp ‹R64 s› tag hpt hsl lo hi
  generalize ckE l p s tag ps sl lo hi = e at *
  rw [call_go (fd := fd5) rfl]
  simp (disch := ((fail_if_success (intro _)); omega)) only [go_sem, simprocAttr, ↓reduceIte, ↓Nat.reduceEqDiff, xx, fd5, m5, c12, c11, c22, ks_length, hsl, q0]
  rw [iter_to (S5 l p s tag ps sl lo hi) l.length (by unfold LF; omega)]
  · simp (implicitDefEqProofs := false) (disch := ((fail_if_success (intro _)); omega)) only [go_sem, simprocAttr, ↓reduceIte, ↓Nat.reduceEqDiff, xx, S5, ks_length, c12, c25, c26, beq_self_eq_true]
  · simp (disch := ((fail_if_success (intro _)); omega)) only [go_sem, simprocAttr, ↓reduceIte, ↓Nat.reduceEqDiff, xx, S5, ks_length]
  · exact hs
  · simp (disch := ((fail_if_success (intro _)); omega)) only [go_sem, simprocAttr, ↓reduceIte, ↓Nat.reduceEqDiff, xx, S5, ks_length]
end Go.Proofs.S04
