/-
  Chapter 4: rings are kept as specified. No condition.
-/
import Derived.Test.YtpjpmfjngpjifaaDoorW04G22x4
import Derived.Test.YtpjpmfjngpjifaaDoorW04G7x4
import Derived.Test.YtpjpmfjngpjifaaDoorCards
import Derived.Test.YtpjpmfjngpjifaaDoorTie
import Derived.ProofKit
import Derived.OpenShut
import Derived.Deep.DeepHandedRow
import Derived.Lib.LaidTab
import Derived.MakeChecks
set_option linter.unusedVariables false
set_option linter.unusedSimpArgs false
set_option linter.unusedSectionVars false
namespace Go.Proofs.S04
open Go Go.Ev Go.Proofs
open Go.Proofs.S04.H (GlK GlR)
set_option linter.unusedSimpArgs false
set_option linter.unusedVariables false
variable {gl : Gl} {n : Nat}
theorem sm_of {l : List Ky} (h : l.length ≤ 1000) (hb : ∀ i, i < l.length → KyB (yat l i)) : Sm l := ⟨by omega, fun i hi => (hb i hi).k⟩
theorem VR.sm {l : List Ky} (h : VR l) : Sm l := ⟨by have := h.n; omega, fun i hi => by have := (h.ok i hi).v.k; omega⟩
/-- The empty ring. -/
theorem ring_nil (h : 2 ≤ n) : call gl tab n 11 [.lst true .sc []] [] = some (.bool true, [], []) := by
  obtain ⟨b, hb, c⟩ := @ring_at gl n h true .sc [] (.inl rfl) ⟨by decide, fun i hi => absurd hi (by simp)⟩
  rw [hb.2 ⟨by decide, fun i hi => absurd hi (by simp)⟩] at c
  exact c
/-- A ring. -/
theorem ring_vr (h : 2 ≤ n) {f : Bool} {m : Sh} {l : List Ky} (hm : Mk l m) (hv : VR l) : call gl tab n 11 [.lst f m (ks l)] [] = some (.bool true, [], []) := by
  obtain ⟨b, hb, c⟩ := @ring_at gl n h f m l hm hv.sm
  rw [hb.2 hv] at c
  exact c
set_option maxHeartbeats 4000000 in
theorem law3 [Nonempty (GlK gl)] (hn : 20 ≤ n) (ar : List AV) (h : HasKds [.sl kKy, kKy, kI, kI, kPe] ar) : call gl tab (n + 1) 3 ar [] = some (.bool true, [], []) := by
  simp only [HasKds] at h
  obtain ⟨_, _, rfl, h1, _, _, rfl, h2, _, _, rfl, h3, _, _, rfl, h4, _, _, rfl, h5, rfl⟩ := h
  obtain ⟨l, rfl, hl0, h1⟩ := h1
  obtain ⟨l, rfl, hb⟩ := kd_ks h1
  obtain ⟨x, rfl, hx⟩ := kd_ky h2
  obtain ⟨p, rfl, hp⟩ := kd_i h3
  obtain ⟨s, rfl, hs⟩ := kd_i h4
  obtain ⟨lo, hi, rfl, hlo, hhi⟩ := kd_Pe h5
  rw [kKy_sh]
  rw [ks_length] at hl0
  have hl1 := ml_le hl0
  clear hl0
  have c12 := @sanity_at gl n _ (by omega)
  have c9 := @valid_at gl n (by omega) x hx.k
  have c10 := @rvalid_at gl n (by omega) x hx.k
  generalize hvx : decide (VK x) = bx at *
  have hbx : (!(bx == bx)) = false := by cases bx <;> rfl
  by_cases hl : l.length ≤ 30
  case neg =>
    rw [call_go (fd := fd3) rfl]
    cases bx with
    | true => simp (disch := ((fail_if_success (intro _)); omega)) only [go_sem, simprocAttr, ↓reduceIte, ↓Nat.reduceEqDiff, xx, fd3, m3, c12, c9, c10, ks_length]
    | false => simp (disch := ((fail_if_success (intro _)); omega)) only [go_sem, simprocAttr, ↓reduceIte, ↓Nat.reduceEqDiff, xx, fd3, m3, c12, c9, c10, ks_length]
  obtain ⟨b1, hb1, c11⟩ := @ring_at gl n (by omega) false sY l (.inr rfl) (sm_of (by omega) hb)
  cases b1 with
  | false =>
    rw [call_go (fd := fd3) rfl]
    cases bx with
    | true => simp (disch := ((fail_if_success (intro _)); omega)) only [go_sem, simprocAttr, ↓reduceIte, ↓Nat.reduceEqDiff, xx, fd3, m3, c12, c9, c10, c11, ks_length]
    | false => simp (disch := ((fail_if_success (intro _)); omega)) only [go_sem, simprocAttr, ↓reduceIte, ↓Nat.reduceEqDiff, xx, fd3, m3, c12, c9, c10, c11, ks_length]
  | true =>
  have hv := hb1.1 rfl
  have c18 := @cur_at gl n (by omega) false sY l (.inr rfl) (by omega) p lo hi
  have c19 := @rcur_at gl n (by omega) false sY l (.inr rfl) (by omega) p lo hi
  generalize fC l p lo hi l.length = q at *
  have hfin : ∀ (y : Ky) (e : Int) (A1 A2 : AV) (r1 : call gl tab n 13 [.lst false sY (ks l), ky x] [] = some (A1, [], [])) (r2 : call gl tab n 14 [.lst false sY (ks l), ky x] [] = some (A2, [], [])),
      (∃ v e0, A1 = .tup [v, i64 e0] ∧ A2 = .agg [v, i64 e0] ∧ (∃ g m w, v = .lst g m w) ∧ call gl tab n 15 [v, v] [] = some (.bool true, [], []) ∧ call gl tab n 11 [v] [] = some (.bool true, [], [])) →
      call gl tab n 16 [.lst false sY (ks l), i64 p, i64 s] [] = some (.tup [ky y, i64 e], [], []) → call gl tab n 17 [.lst false sY (ks l), i64 p, i64 s] [] = some (.agg [ky y, i64 e], [], []) →
      call gl tab (n + 1) 3 [.lst false sY (ks l), ky x, i64 p, i64 s, .agg [i64 lo, i64 hi]] [] = some (.bool true, [], []) := by
    rintro y e A1 A2 r1 r2 ⟨v, e0, rfl, rfl, ⟨g, m, w, rfl⟩, c15, c11'⟩ c16 c17
    rw [call_go (fd := fd3) rfl]
    cases bx with
    | true => simp (disch := ((fail_if_success (intro _)); omega)) only [go_sem, simprocAttr, ↓reduceIte, ↓Nat.reduceEqDiff, xx, fd3, m3, c12, c9, c10, c11, ks_length, r1, r2, c15, c11', c16, c17, c18, c19, bne_self_eq_false, beq_self_eq_true, eqAV, eqAVs]
    | false => simp (disch := ((fail_if_success (intro _)); omega)) only [go_sem, simprocAttr, ↓reduceIte, ↓Nat.reduceEqDiff, xx, fd3, m3, c12, c9, c10, c11, ks_length, r1, r2, c15, c11', c16, c17, c18, c19, bne_self_eq_false, beq_self_eq_true, eqAV, eqAVs]
  have hadd : ∃ A1 A2, call gl tab n 13 [.lst false sY (ks l), ky x] [] = some (A1, [], []) ∧ call gl tab n 14 [.lst false sY (ks l), ky x] [] = some (A2, [], []) ∧
      (∃ v e0, A1 = .tup [v, i64 e0] ∧ A2 = .agg [v, i64 e0] ∧ (∃ g m w, v = .lst g m w) ∧ call gl tab n 15 [v, v] [] = some (.bool true, [], []) ∧ call gl tab n 11 [v] [] = some (.bool true, [], [])) := by
    rcases @adds gl n (by omega) false sY l (.inr rfl) hv (by omega) x hx.k with ⟨e, he, a1, a2⟩ | ⟨k, hvr, a1, a2⟩
    · exact ⟨_, _, a1, a2, _, e, rfl, rfl, ⟨_, _, _, rfl⟩, same_nil (by omega), ring_nil (by omega)⟩
    · exact ⟨_, _, a1, a2, _, 0, rfl, rfl, ⟨_, _, _, rfl⟩, same_at (by omega) (.inr rfl) (.inr rfl) hvr.sm.1, ring_vr (by omega) (.inr rfl) hvr⟩
  obtain ⟨A1, A2, r1, r2, hA⟩ := hadd
  rcases @finds gl n (by omega) false sY l (.inr rfl) hv p s hp hs with ⟨k, hk, c16, c17⟩ | ⟨hno, c16, c17⟩
  · exact hfin _ _ A1 A2 r1 r2 hA c16 c17
  · exact hfin ⟨0, 0, [], 0, 0⟩ _ A1 A2 r1 r2 hA c16 c17
end Go.Proofs.S04
namespace Go.Proofs.S04
open Go Go.Ev Go.Proofs
open Go.Proofs.S04.H (GlK GlR)
set_option linter.unusedSimpArgs false
set_option linter.unusedVariables false
variable {gl : Gl} {n : Nat}
set_option maxHeartbeats 4000000 in
theorem law4 [Nonempty (GlK gl)] (hn : 20 ≤ n) (ar : List AV) (h : HasKds [.sl kKy, kI, .str, kI, kI, kPe] ar) : call gl tab (n + 1) 4 ar [] = some (.bool true, [], []) := by
  simp only [HasKds] at h
  obtain ⟨_, _, rfl, h1, _, _, rfl, h2, _, _, rfl, h3, _, _, rfl, h4, _, _, rfl, h5, _, _, rfl, h6, rfl⟩ := h
  obtain ⟨l, rfl, hl0, h1⟩ := h1
  obtain ⟨l, rfl, hb⟩ := kd_ks h1
  obtain ⟨p, rfl, hp⟩ := kd_i h2
  obtain ⟨sec, rfl, hsec⟩ := kd_str h3
  obtain ⟨a, rfl, ha⟩ := kd_i h4
  obtain ⟨o, rfl, ho⟩ := kd_i h5
  obtain ⟨lo, hi, rfl, hlo, hhi⟩ := kd_Pe h6
  rw [kKy_sh]
  rw [ks_length] at hl0
  have hl1 := ml_le hl0
  clear hl0
  have c12 := @sanity_at gl n _ (by omega)
  by_cases hl : l.length ≤ 30
  case neg =>
    rw [call_go (fd := fd4) rfl]
    simp (disch := ((fail_if_success (intro _)); omega)) only [go_sem, simprocAttr, ↓reduceIte, ↓Nat.reduceEqDiff, xx, fd4, m4, c12, ks_length]
  obtain ⟨b1, hb1, c11⟩ := @ring_at gl n (by omega) false sY l (.inr rfl) (sm_of (by omega) hb)
  cases b1 with
  | false =>
    rw [call_go (fd := fd4) rfl]
    simp (disch := ((fail_if_success (intro _)); omega)) only [go_sem, simprocAttr, ↓reduceIte, ↓Nat.reduceEqDiff, xx, fd4, m4, c12, c11, ks_length]
  | true =>
  by_cases hs : sec.length ≤ 100
  case neg =>
    rw [call_go (fd := fd4) rfl]
    simp (disch := ((fail_if_success (intro _)); omega)) only [go_sem, simprocAttr, ↓reduceIte, ↓Nat.reduceEqDiff, xx, fd4, m4, c12, c11, ks_length]
  have hv := hb1.1 rfl
  rcases @rots gl n (by omega) false sY l (.inr rfl) hv (by omega) p a o sec hp (by omega) with ⟨e, he, r1, r2⟩ | ⟨i, t, hi1, hi2, hi3, ho1, hvk, t1, t2, t3, t4, hvr, r1, r2⟩
  · have c15 := @same_nil gl n (by omega)
    have c11' := @ring_nil gl n (by omega)
    have he2 : (e != 0) = true := by rw [bne_iff_ne]; exact he
    rw [call_go (fd := fd4) rfl]
    simp (disch := ((fail_if_success (intro _)); omega)) only [go_sem, simprocAttr, ↓reduceIte, ↓Nat.reduceEqDiff, xx, fd4, m4, c12, c11, ks_length, r1, r2, c15, c11', bne_self_eq_false, he2]
  generalize hL : insY (stT l i t) (i + 1) ⟨p, (yat l i).s + 1, sec, a, 1099511627776⟩ = L at *
  have c15 := @same_at gl n (by omega) false sY false sY L (.inr rfl) (.inr rfl) hvr.sm.1
  have c11' := @ring_vr gl n (by omega) false sY L (.inr rfl) hvr
  have e0 : ((0 : Int) != 0) = false := rfl
  by_cases g1 : lo < 0
  · rw [call_go (fd := fd4) rfl]
    simp (disch := ((fail_if_success (intro _)); omega)) only [go_sem, simprocAttr, ↓reduceIte, ↓Nat.reduceEqDiff, xx, fd4, m4, c12, c11, ks_length, r1, r2, c15, c11', e0]
  by_cases g2 : hi < lo
  · rw [call_go (fd := fd4) rfl]
    simp (disch := ((fail_if_success (intro _)); omega)) only [go_sem, simprocAttr, ↓reduceIte, ↓Nat.reduceEqDiff, xx, fd4, m4, c12, c11, ks_length, r1, r2, c15, c11', e0]
  by_cases g3 : 1099511627776 ≤ hi
  · rw [call_go (fd := fd4) rfl]
    simp (disch := ((fail_if_success (intro _)); omega)) only [go_sem, simprocAttr, ↓reduceIte, ↓Nat.reduceEqDiff, xx, fd4, m4, c12, c11, ks_length, r1, r2, c15, c11', e0]
  have hst := stT_length l i t
  have hLl : L.length = l.length + 1 := by rw [← hL, insY_length (by omega), hst]
  have c18 := @cur_at gl n (by omega) false sY L (.inr rfl) (by omega) p lo hi
  have c18' := @cur_at gl n (by omega) false sY l (.inr rfl) (by omega) p lo hi
  have y1 : yat L (i + 1) = ⟨p, (yat l i).s + 1, sec, a, 1099511627776⟩ := by rw [← hL]; exact insY_at (by omega) _
  have y2 : ∀ j, j < i → yat L j = yat l j := fun j hj => by rw [← hL, insY_lo (by omega) _ (by omega), stT_ne (by omega)]
  have y3 : yat L i = ⟨(yat l i).p, (yat l i).s, (yat l i).k, (yat l i).f, t⟩ := by rw [← hL, insY_lo (by omega) _ (by omega), stT_eq hi1]
  have y4 : ∀ j, i + 1 < j → j < L.length → (yat L j).p ≠ p := fun j h1 h2 => by
    obtain ⟨j, rfl⟩ : ∃ q, j = q + 1 := ⟨j - 1, by omega⟩
    rw [← hL, insY_hi (by omega) _ (by omega), stT_ne (by omega)]
    exact hi3 j (by omega) (by omega)
  by_cases g4 : a ≤ lo
  · have hc : Cn L p lo hi (i + 1) := by
      unfold Cn
      rw [y1]
      refine ⟨rfl, ?_⟩
      unfold cnt; rw [decide_eq_true_eq]; simp only; omega
    rw [fC_last hc L.length (by omega) (fun j h1 h2 h3 => y4 j h1 h2 h3.1), y1] at c18
    rw [call_go (fd := fd4) rfl]
    simp (disch := ((fail_if_success (intro _)); omega)) only [go_sem, simprocAttr, ↓reduceIte, ↓Nat.reduceEqDiff, xx, fd4, m4, c12, c11, ks_length, r1, r2, c15, c11', e0, c18, beq_self_eq_true]
  by_cases g5 : a ≤ hi
  · rw [call_go (fd := fd4) rfl]
    generalize fC L p lo hi L.length = q at *
    generalize fC l p lo hi l.length = q' at *
    simp (disch := ((fail_if_success (intro _)); omega)) only [go_sem, simprocAttr, ↓reduceIte, ↓Nat.reduceEqDiff, xx, fd4, m4, c12, c11, ks_length, r1, r2, c15, c11', e0, c18, c18']
  rcases last_ex l p lo hi l.length with hno | ⟨k, hk, hc, hlast⟩
  · rw [fC_none l.length hno] at c18'
    have he : (er (has l p l.length) != 0) = true := by cases has l p l.length <;> rfl
    have he2 : (er (has l p l.length) == 0) = false := by cases has l p l.length <;> rfl
    generalize fC L p lo hi L.length = q at *
    generalize er (has l p l.length) = z at *
    rw [call_go (fd := fd4) rfl]
    by_cases g6 : q.2 = 0
    · have e1 : (q.2 == 0) = true := by rw [beq_iff_eq]; exact g6
      simp (disch := ((fail_if_success (intro _)); omega)) only [go_sem, simprocAttr, ↓reduceIte, ↓Nat.reduceEqDiff, xx, fd4, m4, c12, c11, ks_length, r1, r2, c15, c11', e0, c18, c18', he, e1]
    · have e1 : (q.2 == 0) = false := by rw [beq_eq_false_iff_ne]; exact g6
      simp (disch := ((fail_if_success (intro _)); omega)) only [go_sem, simprocAttr, ↓reduceIte, ↓Nat.reduceEqDiff, xx, fd4, m4, c12, c11, ks_length, r1, r2, c15, c11', e0, c18, c18', he, e1]
  · have hki : k ≤ i := by
      rcases Nat.lt_or_ge i k with h1 | h1
      · exact absurd hc.1 (hi3 k h1 hk)
      · exact h1
    have hps : (yat L k).s = (yat l k).s := by
      by_cases e : k = i
      · subst e; rw [y3]
      · rw [y2 k (by omega)]
    have hcn : Cn L p lo hi k := by
      by_cases e : k = i
      · subst e
        obtain ⟨h1, h2⟩ := hc
        refine ⟨by rw [y3]; exact h1, ?_⟩
        rw [y3]
        unfold cnt at h2 ⊢
        rw [decide_eq_true_eq] at h2 ⊢
        simp only
        omega
      · unfold Cn; rw [y2 k (by omega)]; exact hc
    have hcl : ∀ j, k < j → j < L.length → ¬ Cn L p lo hi j := fun j h1 h2 h3 => by
      rcases Nat.lt_trichotomy j (i + 1) with h4 | h4 | h4
      · by_cases e : j = i
        · subst e
          refine hlast j h1 hi1 ?_
          obtain ⟨h5, h6⟩ := h3
          rw [y3] at h5 h6
          refine ⟨h5, ?_⟩
          unfold cnt at h6 ⊢
          rw [decide_eq_true_eq] at h6 ⊢
          simp only at h6
          omega
        · refine hlast j h1 (by omega) ?_
          unfold Cn at h3 ⊢; rw [y2 j (by omega)] at h3; exact h3
      · subst h4
        obtain ⟨_, h6⟩ := h3
        rw [y1] at h6
        unfold cnt at h6
        rw [decide_eq_true_eq] at h6
        simp only at h6
        omega
      · exact y4 j (by omega) h2 h3.1
    rw [fC_last hcn L.length (by omega) hcl] at c18
    rw [fC_last hc l.length hk hlast] at c18'
    rw [call_go (fd := fd4) rfl]
    simp (disch := ((fail_if_success (intro _)); omega)) only [go_sem, simprocAttr, ↓reduceIte, ↓Nat.reduceEqDiff, xx, fd4, m4, c12, c11, ks_length, r1, r2, c15, c11', e0, c18, c18', hps, beq_self_eq_true]
end Go.Proofs.S04
namespace Go.Proofs.YtpjpmfjngpjifaaDoor
open Go Go.Ev Go.Proofs Go.ChangeShapes Go.WideShapes Go.ChangeAt Go.RowKit
set_option linter.unusedVariables false
set_option linter.unusedSimpArgs false
theorem own : ownKnob Tryd.prog.godebug = none := by kernel_rfl
theorem gCon : Tryd.prog.globalNamed "weirgate/hash.constants" = some 0 := by kernel_rfl
theorem gRef : Tryd.prog.globalNamed "weirgate/weirgateref02.constants" = some 1 := by kernel_rfl
theorem gConT : (Tryd.prog.globals[0]?).map (·.type) = some 141 := by kernel_rfl
theorem gRefT : (Tryd.prog.globals[1]?).map (·.type) = some 141 := by kernel_rfl
theorem kCon : kdOf Tryd.prog 8 141 = some (.ar 64 (.int .u32)) := by kernel_rfl
theorem avCon : AV.agg S04.kA = avD (H := Unit) (.ar 64 (.int .u32)) Rows.laid_weirgate_hash_constants := by kernel_rfl
theorem avRef : AV.agg S04.kA = avD (H := Unit) (.ar 64 (.int .u32)) Rows.laid_weirgate_weirgateref02_constants := by kernel_rfl
theorem laidOk : laidOutB Tryd.prog = true := by kernel_rfl
abbrev laid2 : List (String × DataW Unit) := [("weirgate/weirgateref02.constants", Rows.laid_weirgate_weirgateref02_constants), ("weirgate/hash.constants", Rows.laid_weirgate_hash_constants)]
theorem glOk2 {W : World} (h : laidMetH Tryd.prog laid2 W) : TabOk W.heap S04.glS := by
  have h : laidMet Tryd.prog laid2 W := h
  refine glOk_laid h fun g sh a hg => ?_
  match g, hg with
  | 0, hg =>
    obtain ⟨rfl, rfl⟩ := Prod.mk.inj (Option.some.inj hg)
    exact ⟨_, List.mem_cons_of_mem _ List.mem_cons_self, 8, 141, _, gCon, gConT, kCon, rfl, avCon⟩
  | 1, hg =>
    obtain ⟨rfl, rfl⟩ := Prod.mk.inj (Option.some.inj hg)
    exact ⟨_, List.mem_cons_self, 8, 141, _, gRef, gRefT, kCon, rfl, avRef⟩
  | _ + 2, hg => cases hg
theorem glHasK : Nonempty (S04.H.GlK S04.glS) := ⟨⟨rfl⟩⟩
theorem glHasR : Nonempty (S04.H.GlR S04.glS) := ⟨⟨rfl⟩⟩
/-- What a function does not look at: the tables. -/
theorem fnOk_tbl {P : Program} {t t' : Nat → Option (Sh × AV)} {ri : Nat → Option RInfo} {f : Nat} {fd : Ev.Fd} (h : FnOk P ⟨t, ri⟩ f fd) : FnOk P ⟨t', ri⟩ f fd := by
  cases h with
  | code h hlt ok => exact .code h hlt ⟨ok.ok⟩
  | given g h hlt ok => exact .given g h hlt ok
  | round rid ps sl ma mb hf h ok => exact .round rid ps sl ma mb hf h ⟨ok.ok⟩
/-- The hash's table alone. -/
noncomputable def gl1 : Gl := ⟨fun g => match g with | 0 => some (.ar 64 .sc, .agg S04.kA) | _ => none, S04.ri⟩
theorem tab1_ok : ∀ f fd, S04.tab f = some fd → FnOk Tryd.prog gl1 f fd := fun f fd h => fnOk_tbl (S04.tab_ok f fd h)
theorem glHas1 : Nonempty (S04.H.GlK gl1) := ⟨⟨rfl⟩⟩
abbrev laid1 : List (String × DataW Unit) := [("weirgate/hash.constants", Rows.laid_weirgate_hash_constants)]
theorem glOk1 {W : World} (h : laidMetH Tryd.prog laid1 W) : TabOk W.heap gl1 := by
  have h : laidMet Tryd.prog laid1 W := h
  refine glOk_laid h fun g sh a hg => ?_
  match g, hg with
  | 0, hg =>
    obtain ⟨rfl, rfl⟩ := Prod.mk.inj (Option.some.inj hg)
    exact ⟨_, List.mem_cons_self, 8, 141, _, gCon, gConT, kCon, rfl, avCon⟩
  | _ + 1, hg => cases hg
def conCells : Array Value := (S04.kList.map fun x => Value.int .u32 (x.toNat : Int)).toArray
/-- Cells with other contents. -/
def put (vs : Array Value) : Obj → Obj
  | .cells _ t frozen => .cells vs t frozen
  | o => o
/-- A world for the witness: the settled one, the tables holding what their initialisers lay. -/
noncomputable def laidWorld (os : Os) : World :=
  { World.holding Tryd.prog os ⟨#[], #[], []⟩ with heap := ((World.holding Tryd.prog os ⟨#[], #[], []⟩).heap.modify 0 (put conCells)).modify 1 (put conCells) }
end Go.Proofs.YtpjpmfjngpjifaaDoor
