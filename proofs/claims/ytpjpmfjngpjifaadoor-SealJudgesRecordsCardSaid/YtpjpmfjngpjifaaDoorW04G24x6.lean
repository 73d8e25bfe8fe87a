/-
  Chapter 4: short records; texts are the same. No condition.
-/
import Derived.Test.YtpjpmfjngpjifaaDoorW04G23x6
import Derived.Test.YtpjpmfjngpjifaaDoorW04G7x6
import Derived.Test.YtpjpmfjngpjifaaDoorCards
import Derived.Test.YtpjpmfjngpjifaaDoorTie
import Derived.ProofKit
import Derived.OpenShut
import Derived.Deep.DeepHandedRow
import Derived.Lib.LaidTab
import Derived.MakeChecks
set_option linter.unusedVariables false
set_option linter.unusedSimpArgs false
set_option linter.unusedSectionVars false
namespace Go.Proofs.S04
open Go Go.Ev Go.Proofs
open Go.Proofs.S04.H (strsAV strsAV_length strsAV_get GlK GlR)
set_option linter.unusedSimpArgs false
set_option linter.unusedVariables false
variable {gl : Gl} {n : Nat}
theorem shSp_at (h : 2 ≤ n) (x : Sp) (hx : SpOk x) (hb : SpB x) : ∃ b : Bool, (b = true → SpSh x) ∧ call gl tab n 27 [spAV x] [] = some (.bool b, [], []) := by
  obtain ⟨d, rfl⟩ := Nat.exists_eq_add_of_le' h
  obtain ⟨b, hbb, c⟩ := @short_at gl (d + 1) (by omega) [x.addr, x.var, x.tags] 3 (show 3 ≤ ML by decide) (fun i hi => by
    match i, hi with
    | 0, _ => exact hb.a
    | 1, _ => exact hb.v
    | 2, _ => exact hb.t)
  have q0 := H.bytes_all x.sgn
  have q1 := H.bytes_all x.body
  refine ⟨b, fun hh => ?_, ?_⟩
  · have h1 := (hbb.1 hh).1
    have a1 : x.addr.length ≤ 200 := h1 0 (by simp)
    have a2 : x.var.length ≤ 200 := h1 1 (by simp)
    have a3 : x.tags.length ≤ 200 := h1 2 (by simp)
    exact ⟨by omega, by omega, by omega⟩
  · simp only [H.strsAV, List.map_cons, List.map_nil] at c
    rw [call_go (fd := fd27) rfl]
    simp (disch := ((fail_if_success (intro _)); omega)) only [go_sem, simprocAttr, ↓reduceIte, ↓Nat.reduceEqDiff, xx, fd27, m27, c, hx.s, hx.r, q0, q1]
def L28 : MC := match m28 with | .seq _ (.seq (.seq _ (.block _ (.loop _ b))) _) => b | _ => .skip
def S28 (x : Ep) (i : Nat) : St := ⟨[.set 3 (i64 i), .set 1 (.ptr 1 [])], [(1, .fix sEp (epAV false false x))]⟩
theorem shEp_at (h : 1 ≤ n) (x : Ep) (hx : EpB x) : ∃ b : Bool, (b = true → EpOk x ∧ EpSh x) ∧ call gl tab n 28 [epAV false false x] [] = some (.bool b, [], []) := by
  obtain ⟨d, rfl⟩ := Nat.exists_eq_add_of_le' h
  have hpl := hx.pl
  have hrl := hx.rl
  unfold ML at *
  have q0 := H.bytes_all x.sgn
  have q1 := H.bytes_all x.prev
  have hs : ∀ i, i < x.pur.length → (puA x.pur i).what.length ≤ 200 → contK [.slot 1, .slot 3, .key 1] (evC gl (call gl tab d) L28 (S28 x i)) = some (S28 x (i + 1)) := fun i hi hp => by
    have hy := puL_at hi
    simp (disch := ((fail_if_success (intro _)); omega)) only [go_sem, simprocAttr, ↓reduceIte, ↓Nat.reduceEqDiff, xx, L28, m28, S28, puL_length, hy]
  have hf : ∀ i, i < x.pur.length → ¬ (puA x.pur i).what.length ≤ 200 → out1 2 (evC gl (call gl tab d) L28 (S28 x i)) = some (.ret, .bool false) := fun i hi hp => by
    have hy := puL_at hi
    have := (hx.pk i hi).2
    unfold ML at this
    simp (disch := ((fail_if_success (intro _)); omega)) only [go_sem, simprocAttr, ↓reduceIte, ↓Nat.reduceEqDiff, xx, L28, m28, S28, puL_length, hy]
  rw [call_go (fd := fd28) rfl]
  rcases first_fail (fun i => (puA x.pur i).what.length ≤ 200) x.pur.length with ha | ⟨q, hq, hb', he⟩
  · refine ⟨decide (x.pur.length ≤ 10 ∧ x.rev.length ≤ 10), fun hb => ?_, ?_⟩
    · rw [decide_eq_true_eq] at hb
      exact ⟨⟨hx.i, hx.p, hx.s, hb.1, fun i hi => (hx.pk i hi).1, hb.2, hx.r⟩, fun i hi => by have := ha i hi; omega⟩
    have hs2 := fun i hi => hs i hi (ha i hi)
    simp only [L28, m28] at hs2
    simp (disch := ((fail_if_success (intro _)); omega)) only [go_sem, simprocAttr, ↓reduceIte, ↓Nat.reduceEqDiff, xx, fd28, m28, hx.s, hx.p, q0, q1]
    rw [iter_to (S28 x) x.pur.length (by unfold LF; omega)]
    · by_cases h1 : x.pur.length ≤ 10
      · by_cases h2 : x.rev.length ≤ 10
        · rw [decide_eq_true ⟨h1, h2⟩]; simp (disch := ((fail_if_success (intro _)); omega)) only [go_sem, simprocAttr, ↓reduceIte, ↓Nat.reduceEqDiff, xx, S28, puL_length, dgL_length]
        · rw [decide_eq_false fun h => h2 h.2]; simp (disch := ((fail_if_success (intro _)); omega)) only [go_sem, simprocAttr, ↓reduceIte, ↓Nat.reduceEqDiff, xx, S28, puL_length, dgL_length]
      · rw [decide_eq_false fun h => h1 h.1]; simp (disch := ((fail_if_success (intro _)); omega)) only [go_sem, simprocAttr, ↓reduceIte, ↓Nat.reduceEqDiff, xx, S28, puL_length, dgL_length]
    · simp (disch := ((fail_if_success (intro _)); omega)) only [go_sem, simprocAttr, ↓reduceIte, ↓Nat.reduceEqDiff, xx, S28, puL_length]
    · exact hs2
    · simp (disch := ((fail_if_success (intro _)); omega)) only [go_sem, simprocAttr, ↓reduceIte, ↓Nat.reduceEqDiff, xx, S28, puL_length]
  · obtain ⟨st, hst, hg⟩ := out1_get (hf q hq he)
    have hs2 := fun i (hi : i < q) => hs i (by omega) (hb' i hi)
    simp only [L28, m28] at hs2 hst
    refine ⟨false, (fun h => by cases h), ?_⟩
    simp (disch := ((fail_if_success (intro _)); omega)) only [go_sem, simprocAttr, ↓reduceIte, ↓Nat.reduceEqDiff, xx, fd28, m28, hx.s, hx.p, q0, q1]
    rw [iter_to (S28 x) q (by unfold LF; omega), hst]
    · simp (disch := ((fail_if_success (intro _)); omega)) only [go_sem, simprocAttr, ↓reduceIte, ↓Nat.reduceEqDiff, xx, hg]
    · simp (disch := ((fail_if_success (intro _)); omega)) only [go_sem, simprocAttr, ↓reduceIte, ↓Nat.reduceEqDiff, xx, S28]
    · exact hs2
    · rw [hst]; rfl
def L69 : MC := match m69 with | .seq _ (.seq _ (.seq (.seq _ (.block _ (.loop _ b))) _)) => b | _ => .skip
def S69 (f g : Bool) (l : List (List UInt8)) (i : Nat) : St := ⟨[.set 5 (i64 i), .set 1 (.lst g .sc (strsAV l)), .set 0 (.lst f .sc (strsAV l))], []⟩
theorem texts_at (h : 2 ≤ n) (f g : Bool) (l : List (List UInt8)) (hl : l.length ≤ 1000) : call gl tab n 37 [.lst f .sc (strsAV l), .lst g .sc (strsAV l)] [] = some (.bool true, [], []) := by
  obtain ⟨d, rfl⟩ := Nat.exists_eq_add_of_le' h
  have hs : ∀ i, i < l.length → contK [.slot 0, .slot 1, .slot 5] (evC gl (call gl tab d) L69 (S69 f g l i)) = some (S69 f g l (i + 1)) := fun i hi => by
    have hx := strs_at hi
    simp (disch := ((fail_if_success (intro _)); omega)) only [go_sem, simprocAttr, ↓reduceIte, ↓Nat.reduceEqDiff, xx, L69, m69, S69, strsAV_length, hx, beq_self_eq_true]
  simp only [L69, m69] at hs
  have c : call gl tab (d + 1) 69 [.lst f .sc (strsAV l), .lst g .sc (strsAV l)] [] = some (.bool true, [], []) := by
    rw [call_go (fd := fd69) rfl]
    simp (disch := ((fail_if_success (intro _)); omega)) only [go_sem, simprocAttr, ↓reduceIte, ↓Nat.reduceEqDiff, xx, fd69, m69, strsAV_length, bne_self_eq_false]
    rw [iter_to (S69 f g l) l.length (by unfold LF; omega)]
    · simp (disch := ((fail_if_success (intro _)); omega)) only [go_sem, simprocAttr, ↓reduceIte, ↓Nat.reduceEqDiff, xx, S69, strsAV_length]
    · simp (disch := ((fail_if_success (intro _)); omega)) only [go_sem, simprocAttr, ↓reduceIte, ↓Nat.reduceEqDiff, xx, S69, strsAV_length]
    · exact hs
    · simp (disch := ((fail_if_success (intro _)); omega)) only [go_sem, simprocAttr, ↓reduceIte, ↓Nat.reduceEqDiff, xx, S69, strsAV_length]
  rw [call_go (fd := fd37) rfl]
  simp (disch := ((fail_if_success (intro _)); omega)) only [go_sem, simprocAttr, ↓reduceIte, ↓Nat.reduceEqDiff, xx, fd37, m37, c]
end Go.Proofs.S04
namespace Go.Proofs.S04
open Go Go.Ev Go.Proofs
open Go.Proofs.S04.H (strsAV strsAV_length strsAV_get GlK GlR)
set_option linter.unusedSimpArgs false
set_option linter.unusedVariables false
variable {gl : Gl} {n : Nat}
set_option maxHeartbeats 4000000 in
theorem law6 [Nonempty (GlK gl)] [Nonempty (GlR gl)] (hn : 20 ≤ n) (ar : List AV) (h : HasKds [.sl kKy, kSp, kEp, kLe, kHd] ar) : call gl tab (n + 1) 6 ar [] = some (.bool true, [], []) := by
  simp only [HasKds] at h
  obtain ⟨_, _, rfl, h1, _, _, rfl, h2, _, _, rfl, h3, _, _, rfl, h4, _, _, rfl, h5, rfl⟩ := h
  obtain ⟨l, rfl, hl0, h1⟩ := h1
  obtain ⟨l, rfl, hb⟩ := kd_ks h1
  obtain ⟨a, rfl, ha, ha2⟩ := kd_sp h2
  obtain ⟨b, rfl, hb'⟩ := kd_ep h3
  obtain ⟨c, rfl, hc⟩ := kd_le h4
  obtain ⟨e, rfl, he⟩ := kd_hd h5
  rw [kKy_sh]
  rw [ks_length] at hl0
  have hl1 := ml_le hl0
  clear hl0
  have c12 := @sanity_at gl n _ (by omega)
  have q1 := H.bytes_all a.sgn
  have q2 := H.bytes_all a.body
  have q3 := H.bytes_all b.sgn
  have q4 := H.bytes_all b.prev
  have q5 := H.bytes_all c.sgn
  have q6 := H.bytes_all e.sgn
  have q7 := H.bytes_all e.root
  by_cases hl : l.length ≤ 30
  case neg =>
    rw [call_go (fd := fd6) rfl]
    simp (disch := ((fail_if_success (intro _)); omega)) only [go_sem, simprocAttr, ↓reduceIte, ↓Nat.reduceEqDiff, xx, fd6, m6, c12, ks_length, ha.s, ha.r, hb'.s, hb'.p, hc.s, he.s, he.r, q1, q2, q3, q4, q5, q6, q7]
  obtain ⟨b1, hb1, c11⟩ := @ring_at gl n (by omega) false sY l (.inr rfl) (sm_of (by omega) hb)
  cases b1 with
  | false =>
    rw [call_go (fd := fd6) rfl]
    simp (disch := ((fail_if_success (intro _)); omega)) only [go_sem, simprocAttr, ↓reduceIte, ↓Nat.reduceEqDiff, xx, fd6, m6, c12, c11, ks_length, ha.s, ha.r, hb'.s, hb'.p, hc.s, he.s, he.r, q1, q2, q3, q4, q5, q6, q7]
  | true =>
  obtain ⟨b2, hb2, c27⟩ := @shSp_at gl n (by omega) a ha ha2
  cases b2 with
  | false =>
    rw [call_go (fd := fd6) rfl]
    simp (disch := ((fail_if_success (intro _)); omega)) only [go_sem, simprocAttr, ↓reduceIte, ↓Nat.reduceEqDiff, xx, fd6, m6, c12, c11, c27, ks_length, ha.s, ha.r, hb'.s, hb'.p, hc.s, he.s, he.r, q1, q2, q3, q4, q5, q6, q7]
  | true =>
  obtain ⟨b3, hb3, c28⟩ := @shEp_at gl n (by omega) b hb'
  cases b3 with
  | false =>
    rw [call_go (fd := fd6) rfl]
    simp (disch := ((fail_if_success (intro _)); omega)) only [go_sem, simprocAttr, ↓reduceIte, ↓Nat.reduceEqDiff, xx, fd6, m6, c12, c11, c27, c28, ks_length, ha.s, ha.r, hb'.s, hb'.p, hc.s, he.s, he.r, q1, q2, q3, q4, q5, q6, q7]
  | true =>
  have hv := hb1.1 rfl
  have hsa := hb2 rfl
  obtain ⟨hbo, hsb⟩ := hb3 rfl
  have c29 := @spC_at gl n false sY l _ (by omega) (.inr rfl) hv a ha hsa
  have c30 := @rspC_at gl n false sY l _ (by omega) (.inr rfl) hv a ha hsa
  have c31 := @epC_at gl n false sY l _ (by omega) (.inr rfl) hv false false b hbo hsb
  have c32 := @repC_at gl n false sY l _ (by omega) (.inr rfl) hv false false b hbo hsb
  have c33 := @leC_at gl n false sY l _ (by omega) (.inr rfl) hv c hc
  have c34 := @rleC_at gl n false sY l _ (by omega) (.inr rfl) hv c hc
  have c35 := @hdC_at gl n false sY l _ (by omega) (.inr rfl) hv e he
  have c36 := @rhdC_at gl n false sY l _ (by omega) (.inr rfl) hv e he
  generalize spC l a = z1 at *
  generalize epC l b = z2 at *
  generalize leC l c = z3 at *
  generalize hdC l e = z4 at *
  rw [call_go (fd := fd6) rfl]
  simp (implicitDefEqProofs := false) (disch := ((fail_if_success (intro _)); omega)) only [go_sem, simprocAttr, ↓reduceIte, ↓Nat.reduceEqDiff, xx, fd6, m6, c12, c11, c27, c28, c29, c30, c31, c32, c33, c34, c35, c36, ks_length, ha.s, ha.r, hb'.s, hb'.p, hc.s, he.s, he.r, q1, q2, q3, q4, q5, q6, q7, beq_self_eq_true]
end Go.Proofs.S04
namespace Go.Proofs.YtpjpmfjngpjifaaDoor
open Go Go.Ev Go.Proofs Go.ChangeShapes Go.WideShapes Go.ChangeAt Go.RowKit
set_option linter.unusedVariables false
set_option linter.unusedSimpArgs false
theorem own : ownKnob Tryd.prog.godebug = none := by kernel_rfl
theorem gCon : Tryd.prog.globalNamed "weirgate/hash.constants" = some 0 := by kernel_rfl
theorem gRef : Tryd.prog.globalNamed "weirgate/weirgateref02.constants" = some 1 := by kernel_rfl
theorem gConT : (Tryd.prog.globals[0]?).map (·.type) = some 141 := by kernel_rfl
theorem gRefT : (Tryd.prog.globals[1]?).map (·.type) = some 141 := by kernel_rfl
theorem kCon : kdOf Tryd.prog 8 141 = some (.ar 64 (.int .u32)) := by kernel_rfl
theorem avCon : AV.agg S04.kA = avD (H := Unit) (.ar 64 (.int .u32)) Rows.laid_weirgate_hash_constants := by kernel_rfl
theorem avRef : AV.agg S04.kA = avD (H := Unit) (.ar 64 (.int .u32)) Rows.laid_weirgate_weirgateref02_constants := by kernel_rfl
theorem laidOk : laidOutB Tryd.prog = true := by kernel_rfl
abbrev laid2 : List (String × DataW Unit) := [("weirgate/weirgateref02.constants", Rows.laid_weirgate_weirgateref02_constants), ("weirgate/hash.constants", Rows.laid_weirgate_hash_constants)]
theorem glOk2 {W : World} (h : laidMetH Tryd.prog laid2 W) : TabOk W.heap S04.glS := by
  have h : laidMet Tryd.prog laid2 W := h
  refine glOk_laid h fun g sh a hg => ?_
  match g, hg with
  | 0, hg =>
    obtain ⟨rfl, rfl⟩ := Prod.mk.inj (Option.some.inj hg)
    exact ⟨_, List.mem_cons_of_mem _ List.mem_cons_self, 8, 141, _, gCon, gConT, kCon, rfl, avCon⟩
  | 1, hg =>
    obtain ⟨rfl, rfl⟩ := Prod.mk.inj (Option.some.inj hg)
    exact ⟨_, List.mem_cons_self, 8, 141, _, gRef, gRefT, kCon, rfl, avRef⟩
  | _ + 2, hg => cases hg
theorem glHasK : Nonempty (S04.H.GlK S04.glS) := ⟨⟨rfl⟩⟩
theorem glHasR : Nonempty (S04.H.GlR S04.glS) := ⟨⟨rfl⟩⟩
/-- What a function does not look at: the tables. -/
theorem fnOk_tbl {P : Program} {t t' : Nat → Option (Sh × AV)} {ri : Nat → Option RInfo} {f : Nat} {fd : Ev.Fd} (h : FnOk P ⟨t, ri⟩ f fd) : FnOk P ⟨t', ri⟩ f fd := by
  cases h with
  | code h hlt ok => exact .code h hlt ⟨ok.ok⟩
  | given g h hlt ok => exact .given g h hlt ok
  | round rid ps sl ma mb hf h ok => exact .round rid ps sl ma mb hf h ⟨ok.ok⟩
/-- The hash's table alone. -/
noncomputable def gl1 : Gl := ⟨fun g => match g with | 0 => some (.ar 64 .sc, .agg S04.kA) | _ => none, S04.ri⟩
theorem tab1_ok : ∀ f fd, S04.tab f = some fd → FnOk Tryd.prog gl1 f fd := fun f fd h => fnOk_tbl (S04.tab_ok f fd h)
theorem glHas1 : Nonempty (S04.H.GlK gl1) := ⟨⟨rfl⟩⟩
abbrev laid1 : List (String × DataW Unit) := [("weirgate/hash.constants", Rows.laid_weirgate_hash_constants)]
theorem glOk1 {W : World} (h : laidMetH Tryd.prog laid1 W) : TabOk W.heap gl1 := by
  have h : laidMet Tryd.prog laid1 W := h
  refine glOk_laid h fun g sh a hg => ?_
  match g, hg with
  | 0, hg =>
    obtain ⟨rfl, rfl⟩ := Prod.mk.inj (Option.some.inj hg)
    exact ⟨_, List.mem_cons_self, 8, 141, _, gCon, gConT, kCon, rfl, avCon⟩
  | _ + 1, hg => cases hg
def conCells : Array Value := (S04.kList.map fun x => Value.int .u32 (x.toNat : Int)).toArray
/-- Cells with other contents. -/
def put (vs : Array Value) : Obj → Obj
  | .cells _ t frozen => .cells vs t frozen
  | o => o
/-- A world for the witness: the settled one, the tables holding what their initialisers lay. -/
noncomputable def laidWorld (os : Os) : World :=
  { World.holding Tryd.prog os ⟨#[], #[], []⟩ with heap := ((World.holding Tryd.prog os ⟨#[], #[], []⟩).heap.modify 0 (put conCells)).modify 1 (put conCells) }
end Go.Proofs.YtpjpmfjngpjifaaDoor
