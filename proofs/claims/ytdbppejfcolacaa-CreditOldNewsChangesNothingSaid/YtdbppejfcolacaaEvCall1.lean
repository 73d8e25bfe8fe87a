/-
  A function's results: read, and packed. No condition.
-/
import Derived.Test.YtdbppejfcolacaaEvCode
namespace Go.Ev
open Go
set_option linter.unusedSimpArgs false

variable {P : Program} {w : World} {H : Heap} {G G' : Gh} {st : St} {tmps : Array Value}

theorem run_asAddr {a : Addr} : (asAddr (.pointer (some a))).run P w = .ok a w := rfl
def readSem (tmps : Array Value) : ResultVar → Sem Value
  | .tmp t => pure (tmps.getD t undef)
  | .cell a t => do loadVar t (← asAddr (tmps.getD a undef))
theorem read_ok (hst : StOk w.heap G st tmps) {rv : ResultVar} {rd : ResD} {x : AV} (hc : compRes P rv = some rd) (h : readRes st rd = some x) :
    ∃ v, (readSem tmps rv).run P w = .ok v w ∧ RepT w.heap G v x := by
  cases rv with
  | tmp t =>
    simp only [compRes, Option.some.injEq] at hc
    subst hc
    simp only [readRes, Option.some.injEq] at h
    subst h
    exact ⟨_, rfl, hst.fr t⟩
  | cell a t =>
    simp only [compRes, Option.map_eq_some_iff] at hc
    obtain ⟨sh, hsh, rfl⟩ := hc
    simp only [readRes, Option.map_eq_some_iff] at h
    obtain ⟨⟨v, us⟩, hs, rfl⟩ := h
    obtain ⟨b, off, c, e, fz, hev, _, hb, hrc, hk, hw, hag, hn⟩ := load_key hst.inv (x' := .t a) (hst.fr a) hs
    obtain ⟨val, hval, hrv⟩ := repC_fun hrc
    refine ⟨_, ?_, (RepT.of_known hk).2 (repV_pack hk hw hrv)⟩
    simp only [readSem, hev, Sem.run_bind, run_asAddr, Result.andThen_ok]
    exact run_loadVar hsh hag hn hb hval hk

theorem run_mapRes {α : Type} {f : α → Sem Value} : ∀ {l : List α} {vs : List Value}, vs.length = l.length → (∀ i (h : i < l.length) (h' : i < vs.length), (f l[i]).run P w = .ok vs[i] w) → (l.mapM f).run P w = .ok vs w
  | [], vs, h, _ => by
    have : vs = [] := List.eq_nil_of_length_eq_zero h
    subst this; rfl
  | a :: l, [], h, _ => by simp at h
  | a :: l, v :: vs, h, hf => by
    rw [List.mapM_cons]
    have h0 := hf 0 (by simp) (by simp)
    simp only [List.getElem_cons_zero] at h0
    simp only [Sem.run_bind, h0, Result.andThen_ok]
    rw [run_mapRes (l := l) (vs := vs) (by simpa using h) fun i hi hi' => by
      have := hf (i + 1) (by simpa using hi) (by simpa using hi')
      simpa using this]
    rfl
theorem run_results {fn : Func} {vs : List Value} (h : vs.length = fn.results.size) (hf : ∀ i (h : i < fn.results.size) (h' : i < vs.length), (readSem tmps fn.results[i]).run P w = .ok vs[i] w) :
    (results fn tmps).run P w = .ok (match vs with | [v] => v | l => .tuple l.toArray) w := by
  have hm : (fn.results.mapM (readSem tmps)).run P w = .ok vs.toArray w := by
    have : fn.results = fn.results.toList.toArray := rfl
    rw [this, List.mapM_toArray]
    simp only [map_eq_pure_bind, Sem.run_bind]
    rw [run_mapRes (vs := vs) (by simpa using h) fun i hi hi' => by simpa using hf i (by simpa using hi) hi']
    rfl
  have e : results fn tmps = (do let vs ← fn.results.mapM (readSem tmps); pure (if h : vs.size = 1 then vs[0] else .tuple vs)) := by
    unfold results
    congr 1
  rw [e]
  simp only [Sem.run_bind, hm, Result.andThen_ok]
  match vs with
  | [] => rfl
  | [v] => rfl
  | a :: b :: l => simp

theorem readAll_ok (hst : StOk w.heap G st tmps) : ∀ {rvs : List ResultVar} {rds : List ResD} {xs : List AV}, mapO (compRes P) rvs = some rds → readAll st rds = some xs →
    ∃ vs : List Value, vs.length = rvs.length ∧ xs.length = rvs.length ∧ (∀ i (h : i < rvs.length) (h' : i < vs.length), (readSem tmps rvs[i]).run P w = .ok vs[i] w) ∧
      ∀ i (h : i < vs.length) (h' : i < xs.length), RepT w.heap G vs[i] xs[i]
  | [], rds, xs, h1, h2 => by
    simp only [mapO, Option.some.injEq] at h1
    subst h1
    simp only [readAll, Option.some.injEq] at h2
    subst h2
    exact ⟨[], rfl, rfl, fun i h => by simp at h, fun i h => by simp at h⟩
  | rv :: rvs, rds, xs, h1, h2 => by
    simp only [mapO, Option.bind_eq_some_iff, Option.map_eq_some_iff] at h1
    obtain ⟨rd, hrd, rds', hrds, rfl⟩ := h1
    simp only [readAll, Option.bind_eq_some_iff, Option.map_eq_some_iff] at h2
    obtain ⟨x, hx, xs', hxs, rfl⟩ := h2
    obtain ⟨v, hv1, hv2⟩ := read_ok hst hrd hx
    obtain ⟨vs, g1, g2, g3, g4⟩ := readAll_ok hst hrds hxs
    refine ⟨v :: vs, by simp [g1], by simp [g2], fun i h h' => ?_, fun i h h' => ?_⟩
    · cases i with
      | zero => exact hv1
      | succ i => exact g3 i (by simpa using h) (by simpa using h')
    · cases i with
      | zero => exact hv2
      | succ i => exact g4 i (by simpa using h) (by simpa using h')

/-! ### What leaves -/
/-- Of each list that leaves, the key at which it lies (none: it is nil). -/
def src1 (r : AV) : Pk → List (Option Nat)
  | .asis => []
  | .gen => []
  | .own _ => match r with
    | .sl k _ _ _ => [some k]
    | _ => [none]
def packSrc : List AV → List Pk → List (Option Nat)
  | [], _ => []
  | r :: rs, pks => src1 r (pks.headD .asis) ++ packSrc rs pks.tail
theorem ownSrcs_eq : ∀ (rs : List AV) (pks : List Pk), ownSrcs rs pks = (packSrc rs pks).filterMap id
  | [], pks => rfl
  | r :: rs, pks => by
    have e : ownSrcs (r :: rs) pks = (match pks.headD .asis, r with | .own _, .sl k _ _ _ => [k] | _, _ => []) ++ ownSrcs rs pks.tail := rfl
    rw [packSrc, List.filterMap_append, ← ownSrcs_eq rs, e]
    congr 1
    cases pks.headD .asis with
    | asis => rfl
    | gen => rfl
    | own sh => cases r <;> rfl
def srcReg (G : Gh) : Option Nat → Option Rg
  | some k => G.reg k
  | none => some .nil

theorem packRs_objs {hp hp' : Hp} : ∀ {rs : List AV} {pks : List Pk} {j : Nat} {l : List AV} {es : List OB}, packRs hp hp' j rs pks = some (l, es) →
    es.length = (packSrc rs pks).length ∧ ∀ i (h : i < es.length) (h' : i < (packSrc rs pks).length), (∃ k sh els, (packSrc rs pks)[i] = some k ∧ hp.get k = some (.grow sh els) ∧ es[i] = .grow sh els) ∨
      (∃ sh, (packSrc rs pks)[i] = none ∧ es[i] = .grow sh [])
  | [], pks, j, l, es, h => by
    simp only [packRs, Option.some.injEq, Prod.mk.injEq] at h
    obtain ⟨rfl, rfl⟩ := h
    exact ⟨rfl, fun i h => by simp at h⟩
  | r :: rs, pks, j, l, es, h => by
    simp only [packRs, Option.bind_eq_some_iff, Option.map_eq_some_iff] at h
    obtain ⟨⟨a, e1⟩, h1, ⟨l2, e2⟩, h2, h⟩ := h
    cases h
    obtain ⟨g1, g2⟩ := packRs_objs h2
    have key : (e1 = [] ∧ src1 r (pks.headD .asis) = []) ∨
        (∃ k sh els, src1 r (pks.headD .asis) = [some k] ∧ hp.get k = some (.grow sh els) ∧ e1 = [.grow sh els]) ∨
        (∃ sh, src1 r (pks.headD .asis) = [none] ∧ e1 = [.grow sh []]) := by
      cases hp1 : pks.headD .asis with
      | gen => rw [hp1] at h1; simp [pack1] at h1
      | asis =>
        rw [hp1] at h1
        simp only [pack1, Option.bind_eq_some_iff] at h1
        obtain ⟨x, _, h1⟩ := h1
        rw [Option.ite_none_right_eq_some] at h1
        cases h1.2
        exact .inl ⟨rfl, rfl⟩
      | own sh =>
        rw [hp1] at h1
        simp only [pack1] at h1
        split at h1
        · rename_i k n
          split at h1
          · rename_i sh' els hk
            rw [Option.ite_none_right_eq_some, Bool.and_eq_true] at h1
            obtain ⟨⟨hb, _⟩, h1⟩ := h1
            have := Sh.beq_eq hb
            subst this
            cases h1
            exact .inr (.inl ⟨k, sh, els, rfl, hk, rfl⟩)
          · cases h1
        · cases h1
          exact .inr (.inr ⟨sh, rfl, rfl⟩)
        · cases h1
    rw [packSrc]
    rcases key with ⟨k1, k2⟩ | ⟨k, sh, els, k2, hk, k1⟩ | ⟨sh, k2, k1⟩
    · rw [k2, k1]; simp only [List.nil_append]; exact ⟨g1, g2⟩
    · rw [k2, k1]
      simp only [List.singleton_append, List.length_cons]
      refine ⟨by omega, fun i h h' => ?_⟩
      cases i with
      | zero => exact .inl ⟨k, sh, els, rfl, hk, rfl⟩
      | succ i => exact g2 i (by omega) (by omega)
    · rw [k2, k1]
      simp only [List.singleton_append, List.length_cons]
      refine ⟨by omega, fun i h h' => ?_⟩
      cases i with
      | zero => exact .inr ⟨sh, rfl, rfl⟩
      | succ i => exact g2 i (by omega) (by omega)

theorem packRs_vals {hp hp' : Hp} (inv : Inv H G hp') (himm : ∀ b, G.imm b → G'.imm b) (hlive : ∀ b, Live G hp' b → G'.imm b) (hyl : ∀ i l, G.yl i = some l → G'.yl i = some l) :
    ∀ {rs : List AV} {pks : List Pk} {j : Nat} {l : List AV} {es : List OB}, packRs hp hp' j rs pks = some (l, es) →
    (∀ i (h : i < (packSrc rs pks).length), G'.reg (20000 + (j + i)) = srcReg G (packSrc rs pks)[i]) → ∀ vs : List Value, vs.length = rs.length → (∀ i (h : i < vs.length) (h' : i < rs.length), RepT H G vs[i] rs[i]) →
    l.length = rs.length ∧ ∀ i (h : i < vs.length) (h' : i < l.length), RepV H G' vs[i] l[i]
  | [], pks, j, l, es, h, _, vs, hvs, _ => by
    simp only [packRs, Option.some.injEq, Prod.mk.injEq] at h
    obtain ⟨rfl, rfl⟩ := h
    exact ⟨rfl, fun i h h' => by simp at h'⟩
  | r :: rs, pks, j, l, es, h, hreg, [], hvs, _ => by simp at hvs
  | r :: rs, pks, j, l, es, h, hreg, v :: vs, hvs, hr => by
    simp only [packRs, Option.bind_eq_some_iff, Option.map_eq_some_iff] at h
    obtain ⟨⟨a, e1⟩, h1, ⟨l2, e2⟩, h2, h⟩ := h
    cases h
    have hr0 : RepT H G v r := hr 0 (by simp) (by simp)
    have key : RepV H G' v a ∧ (src1 r (pks.headD .asis)).length = e1.length := by
      rw [packSrc] at hreg
      cases hp1 : pks.headD .asis with
      | gen => rw [hp1] at h1; simp [pack1] at h1
      | asis =>
        rw [hp1] at h1
        simp only [pack1, Option.bind_eq_some_iff] at h1
        obtain ⟨x, hx, h1⟩ := h1
        rw [Option.ite_none_right_eq_some] at h1
        cases h1.2
        exact ⟨lend_rep inv himm hlive hyl hx ((RepT.of_known (lend_known hx)).1 hr0), rfl⟩
      | own sh =>
        rw [hp1] at h1 hreg
        simp only [pack1] at h1
        split at h1
        · rename_i k n
          split at h1
          · rename_i sh' els hk
            rw [Option.ite_none_right_eq_some] at h1
            obtain ⟨_, h1⟩ := h1
            cases h1
            have hg := hreg 0 (by simp [src1])
            simp only [src1, List.singleton_append, List.getElem_cons_zero, srcReg, Nat.add_zero] at hg
            refine ⟨?_, rfl⟩
            rw [repT_sc rfl] at hr0
            refine (RepV.scalar rfl).2 ?_
            cases hr0 with
            | sl _ _ _ _ b root m e o hrg hs ho hle => exact .sl _ [] 0 n b root m e o (hg.trans hrg) hs ho hle
            | slZ _ _ _ b x root m e hrg hs ho => exact .slZ _ [] 0 b x root m e (hg.trans hrg) hs ho
            | slNil _ a hrg => exact .slNil _ a (hg.trans hrg)
          · cases h1
        · cases h1
          have hg := hreg 0 (by simp [src1])
          simp only [src1, List.singleton_append, List.getElem_cons_zero, srcReg, Nat.add_zero] at hg
          refine ⟨?_, rfl⟩
          rw [repT_sc rfl] at hr0
          refine (RepV.scalar rfl).2 ?_
          obtain ⟨b, cap, he, _, hc, _, _⟩ := repS_lst hr0
          have := hc rfl
          simp only [List.length_nil] at this he
          subst this he
          exact .slNil _ b hg
        · cases h1
    obtain ⟨g1, g2⟩ := packRs_vals inv himm hlive hyl h2 (fun i hi => by
      have := hreg (e1.length + i) (by rw [packSrc, List.length_append, key.2]; simp; omega)
      rw [show j + (e1.length + i) = j + e1.length + i by omega] at this
      rw [this]
      congr 1
      simp only [packSrc]
      rw [List.getElem_append_right (by omega)]
      congr 1
      omega) vs (by simpa using hvs) fun i hi hi' => by
        have := hr (i + 1) (by simpa using hi) (by simpa using hi')
        simpa using this
    refine ⟨by simp [g1], fun i hi hi' => ?_⟩
    cases i with
    | zero => exact key.1
    | succ i => exact g2 i (by simpa using hi) (by simpa using hi')

/-- New objects, under the keys by which results name them. -/
def hpNew : Nat → List OB → Hp
  | _, [] => []
  | j, o :: l => (20000 + j, o) :: hpNew (j + 1) l
theorem hpNew_get : ∀ {es : List OB} {j k : Nat} {o : OB}, (hpNew j es).get k = some o ↔ ∃ i, ∃ h : i < es.length, k = 20000 + (j + i) ∧ es[i] = o
  | [], j, k, o => by simp [hpNew, Hp.get]
  | e :: es, j, k, o => by
    rw [hpNew, Hp.get_cons]
    by_cases h : 20000 + j = k
    · simp only [h, if_true, Option.some.injEq]
      constructor
      · intro he; exact ⟨0, by simp, by omega, he⟩
      · rintro ⟨i, hi, hk, he⟩
        have : i = 0 := by omega
        subst this; exact he
    · simp only [h, if_false]
      rw [hpNew_get (es := es)]
      constructor
      · rintro ⟨i, hi, hk, he⟩; exact ⟨i + 1, by simpa using hi, by omega, by simpa using he⟩
      · rintro ⟨i, hi, hk, he⟩
        cases i with
        | zero => exact absurd (by omega) h
        | succ i => exact ⟨i, by simpa using hi, by omega, by simpa using he⟩

theorem deads_get : ∀ {ks : List Nat} {hp : Hp} {k : Nat}, (deads ks ++ hp).get k = if k ∈ ks then some .dead else hp.get k
  | [], hp, k => by simp [deads]
  | x :: ks, hp, k => by
    simp only [deads, List.cons_append, Hp.get_cons, deads_get (ks := ks), List.mem_cons]
    by_cases h : x = k
    · simp [h]
    · have : ¬ k = x := fun e => h e.symm
      simp [h, this]
theorem inv_deads : ∀ {ks : List Nat} {hp : Hp}, Inv H G hp → (∀ k ∈ ks, ∃ o, hp.get k = some o) → Inv H G (deads ks ++ hp)
  | [], hp, inv, _ => inv
  | x :: ks, hp, inv, h => by
    have ih := inv_deads (ks := ks) inv fun k hk => h k (by simp [hk])
    obtain ⟨o, ho⟩ := h x (by simp)
    by_cases hx : x ∈ ks
    · exact (step_dead ih (k := x) (o := .dead) (by rw [deads_get, if_pos hx])).inv
    · exact (step_dead ih (k := x) (o := o) (by rw [deads_get, if_neg hx]; exact ho)).inv

theorem filterMap_inj {l : List (Option Nat)} (h : (l.filterMap id).Nodup) {i j k : Nat} (hi : i < l.length) (hj : j < l.length) (h1 : l[i] = some k) (h2 : l[j] = some k) : i = j := by
  induction l generalizing i j with
  | nil => simp at hi
  | cons a l ih =>
    have hl : (l.filterMap id).Nodup := by
      rw [List.filterMap_cons] at h
      split at h
      · exact h
      · exact (List.nodup_cons.1 h).2
    have hmem : ∀ {i : Nat} (hi : i < l.length), l[i] = some k → k ∈ l.filterMap id := fun hi h => List.mem_filterMap.2 ⟨some k, h ▸ List.getElem_mem hi, rfl⟩
    cases i with
    | zero =>
      cases j with
      | zero => rfl
      | succ j =>
        simp only [List.getElem_cons_zero] at h1
        simp only [List.getElem_cons_succ] at h2
        subst h1
        have hc : List.filterMap id (some k :: l) = k :: List.filterMap id l := rfl
        rw [hc] at h
        exact absurd (hmem (by simpa using hj) h2) (List.nodup_cons.1 h).1
    | succ i =>
      cases j with
      | zero =>
        simp only [List.getElem_cons_zero] at h2
        simp only [List.getElem_cons_succ] at h1
        subst h2
        have hc : List.filterMap id (some k :: l) = k :: List.filterMap id l := rfl
        rw [hc] at h
        exact absurd (hmem (by simpa using hi) h1) (List.nodup_cons.1 h).1
      | succ j => rw [ih hl (i := i) (j := j) (by simpa using hi) (by simpa using hj) (by simpa using h1) (by simpa using h2)]

open Classical in
noncomputable def packGh (G : Gh) (hp : Hp) (src : List (Option Nat)) : Gh :=
  { imm := fun b => G.imm b ∨ Live G (deads (src.filterMap id) ++ hp) b
    yl := G.yl
    reg := fun k => if 20000 ≤ k then (match src[k - 20000]? with | some s => srcReg G s | none => none) else none }

/-- Results, packed. -/
theorem packs_ok (hst : StOk H G st tmps) {res : List ResD} {pks : List Pk} {l : List AV} {es : List OB} (h : packs st res pks = some (l, es)) {rs : List AV} (hrs : readAll st res = some rs) {vs : List Value} (hlen : vs.length = rs.length)
    (hv : ∀ i (h : i < vs.length) (h' : i < rs.length), RepT H G vs[i] rs[i]) :
    Inv H (packGh G st.hp (packSrc rs pks)) (hpNew 0 es) ∧ (∀ b, Live (packGh G st.hp (packSrc rs pks)) (hpNew 0 es) b → Live G st.hp b) ∧
    l.length = rs.length ∧ ∀ i (h : i < vs.length) (h' : i < l.length), RepV H (packGh G st.hp (packSrc rs pks)) vs[i] l[i] := by
  simp only [packs, hrs, Option.bind_some] at h
  rw [Option.ite_none_right_eq_some, nodup_iff, ownSrcs_eq] at h
  obtain ⟨hn, h⟩ := h
  generalize hsrc : packSrc rs pks = src at h hn ⊢
  obtain ⟨o1, o2⟩ := packRs_objs h
  rw [hsrc] at o1
  have o2' : ∀ i (h : i < es.length) (h' : i < src.length), (∃ k sh els, src[i] = some k ∧ st.hp.get k = some (.grow sh els) ∧ es[i] = .grow sh els) ∨ (∃ sh, src[i] = none ∧ es[i] = .grow sh []) := by
    subst hsrc; exact o2
  have hks : ∀ k ∈ src.filterMap id, ∃ o, st.hp.get k = some o := fun k hk => by
    obtain ⟨s, hs, he⟩ := List.mem_filterMap.1 hk
    simp only [id] at he
    subst he
    obtain ⟨i, hi, he⟩ := List.getElem_of_mem hs
    rcases o2' i (by omega) hi with ⟨k', sh, els, h1, h2, _⟩ | ⟨sh, h1, _⟩
    · rw [he] at h1; cases h1; exact ⟨_, h2⟩
    · rw [he] at h1; cases h1
  have invd := inv_deads hst.inv hks
  have hreg : ∀ i (hi : i < src.length), (packGh G st.hp src).reg (20000 + i) = srcReg G src[i] := fun i hi => by
    simp [packGh, hi]
  have hlived : ∀ b, Live G (deads (src.filterMap id) ++ st.hp) b → Live G st.hp b := by
    rintro b ⟨k, r, ⟨o, ho, hd⟩, hr⟩
    rw [deads_get] at ho
    split at ho
    · cases ho; exact absurd rfl hd
    · exact ⟨k, r, ⟨o, ho, hd⟩, hr⟩
  obtain ⟨hinv, hlive⟩ := inv_map' (G' := packGh G st.hp src) (hp' := hpNew 0 es) hst.inv (fun k => ((src[k - 20000]?).bind id).getD 0) (fun b h => .inl h) (fun i l h => h)
    (fun k o hk => by
      obtain ⟨i, hi, rfl, rfl⟩ := hpNew_get.1 hk
      have hz := hreg i (by omega)
      rw [show 20000 + i = 20000 + (0 + i) by omega] at hz
      rw [hz]
      have e : (src[20000 + (0 + i) - 20000]?) = some src[i] := by rw [show 20000 + (0 + i) - 20000 = i by omega]; simp [show i < src.length by omega]
      rcases o2' i hi (by omega) with ⟨k', sh, els, h1, h2, h3⟩ | ⟨sh, h1, h3⟩
      · left
        rw [e, h1, h3]
        exact ⟨h2, rfl, fun sh a ha => by cases ha⟩
      · right
        rw [h1, h3]
        exact ⟨sh, rfl, rfl⟩)
    (fun k hk => by
      simp only [packGh]
      split
      · rename_i h20
        split
        · rename_i s hs
          exfalso
          obtain ⟨hi, rfl⟩ := List.getElem?_eq_some_iff.1 hs
          have hk20 : k = 20000 + (0 + (k - 20000)) := by omega
          generalize k - 20000 = i at hk20 hi
          have hie : i < es.length := by omega
          have : (hpNew 0 es).get k = some es[i] := hpNew_get.2 ⟨i, hie, hk20, rfl⟩
          rw [hk] at this; cases this
        · rfl
      · rfl)
    (fun k k' b r r' ⟨o, ho, _⟩ ⟨o', ho', _⟩ hr hr' he => by
      obtain ⟨i, hi, rfl, rfl⟩ := hpNew_get.1 ho
      obtain ⟨i', hi', rfl, rfl⟩ := hpNew_get.1 ho'
      rw [show 20000 + (0 + i) = 20000 + i by omega] at hr
      rw [show 20000 + (0 + i') = 20000 + i' by omega] at hr'
      have e : (src[20000 + (0 + i) - 20000]?) = some src[i] := by rw [show 20000 + (0 + i) - 20000 = i by omega]; simp [show i < src.length by omega]
      have e' : (src[20000 + (0 + i') - 20000]?) = some src[i'] := by rw [show 20000 + (0 + i') - 20000 = i' by omega]; simp [show i' < src.length by omega]
      simp only [e, e', Option.bind_some, id] at he
      rcases o2' i hi (by omega) with ⟨k1, sh, els, h1, h2, h3⟩ | ⟨sh, h1, h3⟩
      · rcases o2' i' hi' (by omega) with ⟨k1', sh', els', h1', h2', h3'⟩ | ⟨sh', h1', h3'⟩
        · rw [h1, h1'] at he
          simp only [Option.getD_some] at he
          subst he
          rw [filterMap_inj hn (by omega) (by omega) h1 h1']
        · exact (hr'.nil (by rw [hreg i' (by omega), h1']; rfl)).elim
      · exact (hr.nil (by rw [hreg i (by omega), h1]; rfl)).elim)
    (fun b hb => by
      rcases hb with hb | hb
      · exact (hst.inv.imm b hb).1
      · exact hst.inv.lt b (hlived b hb))
    (fun b hb k r hl hr hr' ⟨o, ho, _⟩ => by
      obtain ⟨i, hi, rfl, rfl⟩ := hpNew_get.1 ho
      have e : (src[20000 + (0 + i) - 20000]?) = some src[i] := by rw [show 20000 + (0 + i) - 20000 = i by omega]; simp [show i < src.length by omega]
      rw [show 20000 + (0 + i) = 20000 + i by omega] at hr'
      simp only [e, Option.bind_some, id] at hl hr
      rcases o2' i hi (by omega) with ⟨k1, sh, els, h1, h2, h3⟩ | ⟨sh, h1, h3⟩
      · rw [h1] at hl hr
        simp only [Option.getD_some] at hl hr
        rcases hb with hb | ⟨k2, r2, ⟨o2, ho2, hd2⟩, hr2⟩
        · exact (hst.inv.imm b hb).2 ⟨k1, r, hl, hr⟩
        · rw [deads_get] at ho2
          split at ho2
          · cases ho2; exact hd2 rfl
          · rename_i hnm
            have := hst.inv.dist k1 k2 b r r2 hr hr2 hl ⟨o2, ho2, hd2⟩
            subst this
            exact hnm (List.mem_filterMap.2 ⟨some k1, h1 ▸ List.getElem_mem _, rfl⟩)
      · exact (hr'.nil (by rw [hreg i (by omega), h1]; rfl)).elim)
  refine ⟨hinv, hlive, ?_⟩
  have hov : ownSrcs rs pks = src.filterMap id := by rw [ownSrcs_eq, hsrc]
  refine packRs_vals (G' := packGh G st.hp src) invd (fun b h => .inl h) (fun b h => .inr h) (fun i l h => h) h (fun i hi => ?_) vs hlen hv
  subst hsrc
  rw [Nat.zero_add]
  exact hreg i hi
end Go.Ev
