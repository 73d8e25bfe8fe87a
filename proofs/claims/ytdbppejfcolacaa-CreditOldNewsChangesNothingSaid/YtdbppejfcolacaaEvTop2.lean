/-
  A law: from the evaluator's answer to the contract that its row asks for. No condition.
-/
import Derived.Test.YtdbppejfcolacaaEvTop1
namespace Go.Ev
open Go Go.ChangeShapes Go.RowKit
set_option linter.unusedSimpArgs false

section
variable {H : Type} {enc : TypeId × Value → H} {P : Program} {W W' : World} {base : Nat} {sp : Nat → Bool} {held : Bool}

theorem trodAll_get : ∀ {ts : List TypeId} {vs : List Value} {ds : List (DataW H)} {ps : List MemPlace}, DataW.TrodAll enc P W base sp held ts vs ds ps →
    vs.length = ts.length ∧ ds.length = ts.length ∧ ∀ i (h : i < ts.length) (h1 : i < vs.length) (h2 : i < ds.length), ∃ p, DataW.Trod enc P W base sp held ts[i] vs[i] ds[i] p ∧ ∀ x ∈ p, x ∈ ps
  | [], vs, ds, ps, h => by
    obtain ⟨rfl, rfl, rfl⟩ := trodAll_nil h
    exact ⟨rfl, rfl, fun i h => by simp at h⟩
  | t :: ts, vs, ds, ps, h => by
    obtain ⟨v, vs1, d, ds1, a, b, rfl, rfl, rfl, h1, h2⟩ := trodAll_cons h
    obtain ⟨g1, g2, g3⟩ := trodAll_get h2
    refine ⟨by simp [g1], by simp [g2], fun i hi hi1 hi2 => ?_⟩
    cases i with
    | zero => exact ⟨a, h1, fun x hx => by simp [hx]⟩
    | succ i =>
      obtain ⟨p, k1, k2⟩ := g3 i (by simpa using hi) (by simpa using hi1) (by simpa using hi2)
      exact ⟨p, by simpa using k1, fun x hx => by simp [k2 x hx]⟩

/-- What was there stands as it did. -/
structure Grew (W W' : World) : Prop where
  kept : Kept W W'
  size : W.heap.size ≤ W'.heap.size
  same : ∀ b, b < W.heap.size → W'.heap[b]? = W.heap[b]?
theorem Grew.keptBut (h : Grew W W') (may : MemPlace → Prop) : W.keptBut W' may :=
  ⟨h.kept.1, h.kept.2, fun i hi => by rw [h.same i hi]; exact (World.keptBut_refl W may).2.2 i hi⟩
theorem Grew.sameAt (h : Grew W W') {p : MemPlace} (hp : p.block < W.heap.size) : W.sameAt W' p := by
  cases p with
  | cell b o => exact World.cell?_of_block (w := W) (h.same b hp)
  | map b => exact h.same b hp
theorem Grew.frozen (h : Grew W W') {a : Addr} (ha : a.block < W.heap.size) : W'.frozen? a = W.frozen? a := by
  unfold World.frozen?; rw [h.same _ ha]

theorem trodAll_stays (hl : laidOutB P = true) (hg : Grew W W') : ∀ {ts : List TypeId} {vs : List Value} {ds : List (DataW H)} {ps : List MemPlace}, (ts.all fun t => P.readableRec t && decide (t < P.types.size)) = true →
    DataW.TrodAll enc P W 0 (fun _ => true) true ts vs ds ps → (∀ p ∈ ps, p.block < W.heap.size) → (∀ p ∈ ps, sp p.block = true) → DataW.TrodAll enc P W' 0 sp true ts vs ds ps
  | [], vs, ds, ps, _, h, _, _ => by
    obtain ⟨rfl, rfl, rfl⟩ := trodAll_nil h
    exact rfl
  | t :: ts, vs, ds, ps, hr, h, hlt, hsp => by
    simp only [List.all_cons, Bool.and_eq_true, decide_eq_true_eq] at hr
    obtain ⟨v, vs1, d, ds1, a, b, rfl, rfl, rfl, h1, h2⟩ := trodAll_cons h
    exact ⟨a, b, WideElems.Trod_stays hl hr.1.1 hr.1.2 h1 (fun p hp => hg.sameAt (hlt p (by simp [hp]))) (fun p hp => hsp p (by simp [hp])),
      trodAll_stays hl hg hr.2 h2 (fun p hp => hlt p (by simp [hp])) (fun p hp => hsp p (by simp [hp])), rfl⟩

theorem post_of_grew {f : Func} {s : ChangeSpec} {apart fresh handsOn again : Bool} {args : Array Value} {v : Value} {ds gs : List (DataW H)} {before pa pv : List MemPlace}
    (hW : DataW.Whole enc P f.params.toList s.vars apart W args.toList ds gs before)
    (hres : ∀ (b : Nat) (sp : Nat → Bool) (hd : Bool), DataW.TrodAll enc P W' b sp hd f.resultTypes.toList (v.resultList f.resultTypes.size) (s.fn H (ds ++ gs)).results [])
    (hargs : ∀ sp : Nat → Bool, (∀ p ∈ before, sp p.block = true) → DataW.TrodAll enc P W' 0 sp true f.params.toList args.toList (s.fn H (ds ++ gs)).args pa)
    (hvars : ∀ sp : Nat → Bool, (∀ p ∈ before, sp p.block = true) → DataW.TrodVars enc P W' sp s.vars (s.fn H (ds ++ gs)).vars pv)
    (hps : before = pa ++ pv) (hg : Grew W W')
    (hok : ∀ (j : Nat) (t : TypeId) (r : Value), f.resultTypes[j]? = some t → (v.resultList f.resultTypes.size)[j]? = some r → Value.okWide P W' .any 0 t r) :
    s.post enc P f apart fresh handsOn again W args v W' := by
  have hlt : ∀ p ∈ before, p.block < W.heap.size := fun p hp => hW.lt p hp
  have hold : ∀ p ∈ before, (fun b => decide (b < W.heap.size)) p.block = true := fun p hp => by simpa using hlt p hp
  refine ⟨ds, gs, before, [], pa, pv, hW, hres _ _ _, hargs _ hold, hvars _ hold, World.keptBut_mono (fun p hp => ⟨hp, ?_⟩) (hg.keptBut (· ∈ before)), fun _ => ?_⟩
  · rw [hps, List.mem_append] at hp
    exact Or.inr hp
  · obtain ⟨_, _, _, _, _, hz, hn⟩ := hW
    refine ⟨hok, _, _, ([] ++ pa) ++ pv, ⟨[] ++ pa, pv, trodAll_append (hargs _ (fun _ _ => rfl)) (hres _ _ _), hvars _ (fun _ _ => rfl), rfl, ?_, ?_⟩, ?_⟩
    · intro b off hp
      have hm : MemPlace.cell b off ∈ before := by rw [hps]; simpa using hp
      rw [hg.frozen (show b < W.heap.size from hlt _ hm)]
      exact hz b off hm
    · intro ha
      have := hn ha
      rw [hps] at this
      simpa using this
    · intro p hp _
      rw [hps]
      simpa using hp
end

section
variable {H : Type} {enc : TypeId × Value → H} {P : Program} {W : World}

theorem rep_arg {base : Nat} {m : Nat} {t : TypeId} {kd : Kd} {v : Value} {a : AV} (hk : kdOf P m t = some kd) (hv : Value.okWide P W .any base t v) (ha : HasKd kd a) (hr : RepB W v.cells.toList a) : RepV W.heap (allGh W.heap) v a := by
  obtain ⟨h1, h2, h3⟩ := ha.ok
  refine ⟨hasSh_known h1, h3, _, hr, ?_⟩
  cases m with
  | zero => simp [kdOf] at hk
  | succ m =>
    simp only [kdOf] at hk
    split at hk
    · rename_i hu
      cases hk
      obtain ⟨b, rfl⟩ := ha
      simp only [Value.okWide, hu, Cell.okWide, Cell.ok] at hv
      cases v <;> simp_all [packV, AV.isAgg, Value.cells]
    · rename_i k hu
      cases hk
      obtain ⟨b, rfl, _⟩ := ha
      simp only [Value.okWide, hu, Cell.okWide, Cell.ok] at hv
      cases v <;> simp_all [packV, AV.isAgg, Value.cells]
    · rename_i hu
      cases hk
      obtain ⟨b, rfl, _⟩ := ha
      simp only [Value.okWide, hu, Cell.okWide, Cell.ok] at hv
      cases v <;> simp_all [packV, AV.isAgg, Value.cells]
    · rename_i e hu
      simp only [Option.bind_eq_some_iff] at hk
      obtain ⟨ke, _, hk⟩ := hk
      rw [Option.ite_none_right_eq_some] at hk
      cases hk.2
      obtain ⟨b, rfl, _⟩ := ha
      simp only [Value.okWide, hu, Cell.okWide, Cell.ok] at hv
      cases v <;> simp_all [packV, AV.isAgg, Value.cells]
    · rename_i fs hu
      simp only [Option.bind_eq_some_iff] at hk
      obtain ⟨l, _, hk⟩ := hk
      rw [Option.ite_none_right_eq_some] at hk
      cases hk.2
      obtain ⟨b, rfl, _⟩ := ha
      simp only [Value.okWide, hu] at hv
      obtain ⟨cs, rfl, _⟩ := hv
      simp [packV, AV.isAgg, Value.cells]
    · rename_i k e hu
      simp only [Option.bind_eq_some_iff] at hk
      obtain ⟨l, _, hk⟩ := hk
      rw [Option.ite_none_right_eq_some] at hk
      cases hk.2
      obtain ⟨b, rfl, _⟩ := ha
      simp only [Value.okWide, hu] at hv
      obtain ⟨cs, rfl, _⟩ := hv
      simp [packV, AV.isAgg, Value.cells]
    · cases hk

theorem hasKds_get {fs : List Kd} {l : List AV} (h : HasKds fs l) : l.length = fs.length ∧ ∀ i (h : i < l.length) (h' : i < fs.length), HasKd fs[i] l[i] := by
  induction fs generalizing l with
  | nil => cases h; exact ⟨rfl, fun i h => by simp at h⟩
  | cons k fs ih =>
    obtain ⟨a, r, rfl, h1, h2⟩ := h
    obtain ⟨g1, g2⟩ := ih h2
    refine ⟨by simp [g1], fun i hi hi' => ?_⟩
    cases i with
    | zero => exact h1
    | succ i => exact g2 i (by simpa using hi) (by simpa using hi')

/-- Tables stand for what a row lists. -/
theorem glOk_laid {gl : Gl} {laid : List (String × DataW Unit)} (h : laidMet P laid W)
    (hgl : ∀ g sh a, gl g = some (sh, a) → ∃ x ∈ laid, ∃ m t kd, P.globalNamed x.1 = some g ∧ (P.globals[g]?).map (·.type) = some t ∧ kdOf P m t = some kd ∧ sh = kd.sh ∧ a = avD kd x.2) : GlOk W.heap (allGh W.heap) gl := by
  obtain ⟨ps, hl, _⟩ := h
  have key : ∀ {laid : List (String × DataW Unit)} {ps : List MemPlace}, DataW.LaidVars P W laid ps → ∀ x ∈ laid, ∃ g t cs fuel p, P.globalNamed x.1 = some g ∧ (P.globals[g]?).map (·.type) = some t ∧ W.var? P x.1 = some cs ∧
      DataW.trod (fun _ => ()) P W 0 (fun _ => true) false fuel t cs.toList = some (x.2, p) := by
    intro laid
    induction laid with
    | nil => intro ps _ x hx; cases hx
    | cons y laid ih =>
      intro ps h x hx
      obtain ⟨n, d⟩ := y
      obtain ⟨g, t, cs, fuel, p, q, h1, h2, h3, h4, h5, _⟩ := h
      rcases List.mem_cons.1 hx with rfl | hx
      · exact ⟨g, t, cs, fuel, p, h1, h2, h3, h4⟩
      · exact ih h5 x hx
  intro g sh a hga
  obtain ⟨x, hx, m, t, kd, h1, h2, h3, rfl, rfl⟩ := hgl g sh a hga
  obtain ⟨g', t', cs, fuel, p, k1, k2, k3, k4⟩ := key hl x hx
  rw [h1] at k1; cases k1
  rw [h2] at k2; cases k2
  obtain ⟨r1, r2⟩ := trod_rep m t kd h3 fuel _ _ k4
  obtain ⟨s1, s2, s3⟩ := r1.ok
  simp only [World.var?, h1, Option.bind_some] at k3
  split at k3
  · rename_i cs' e fz hb
    cases k3
    refine ⟨(Array.getElem?_eq_some_iff.1 hb).1, s1, s2, s3, cs, e, fz, hb, fun j hj => ?_⟩
    have hlen := r2.len
    have hlen' : cs.toList.length = (avD kd x.2).flat.length := hlen
    have hjc : j < cs.toList.length := by omega
    refine ⟨cs.toList[j], ?_, r2.get j hjc hj⟩
    rw [Nat.zero_add]
    simp only [Array.length_toList] at hjc
    simp [hjc]
  · cases k3

/-- A law's contract. -/
theorem law_contract {gl : Gl} {tab : Nat → Option Fd} {nn f : Nat} {fn : Func} {kds : List Kd} {tb : TypeId} {s : ChangeSpec} {apart fresh handsOn again : Bool} {base : Nat} {args : Array Value} {ds gs : List (DataW H)} {before : List MemPlace}
    (hmix : P.follows .mixedOrders = true) (htab : ∀ f fd, tab f = some fd → FnOk P f fd) (hl : laidOutB P = true) (hkds : mapO (kdOf P 8) fn.params.toList = some kds)
    (hread : (fn.params.toList.all fun t => P.readableRec t && decide (t < P.types.size)) = true) (hres : fn.resultTypes = #[tb]) (htb : P.underlying tb = some .bool) (hvars : s.vars = [])
    (hs : ∀ ds : List (DataW H), ds.length = fn.params.size → s.fn H ds = { results := [.lit (.bool true)], args := ds })
    (hlaw : ∀ as, HasKds kds as → call gl tab nn f as [] = some (.bool true, [], [])) (hgl : GlOk W.heap (allGh W.heap) gl)
    (hval : ∀ (j : Nat) t v, fn.params[j]? = some t → args[j]? = some v → Value.okWide P W .any base t v) (hW : DataW.Whole enc P fn.params.toList s.vars apart W args.toList ds gs before) :
    Calls P f args W fun e W' => ∃ v, e = .returned v ∧ s.post enc P fn apart fresh handsOn again W args v W' := by
  have hW' := hW
  obtain ⟨p, q, hA, hV, hpq, hfz, hnd⟩ := hW
  rw [hvars] at hV
  obtain ⟨rfl, rfl⟩ : gs = [] ∧ q = [] := by
    cases gs with
    | nil => exact ⟨rfl, hV⟩
    | cons _ _ => exact hV.elim
  obtain ⟨a1, a2, a3⟩ := trodAll_get hA
  obtain ⟨k1, k2⟩ := mapO_get hkds
  obtain ⟨d1, d2⟩ := avDs_map (fs := kds) (ps := ds) (by omega)
  have hone : ∀ i (hi : i < kds.length), HasKd kds[i] (avD kds[i] (ds[i]'(by omega))) ∧ RepV W.heap (allGh W.heap) (args.toList[i]'(by omega)) (avD kds[i] (ds[i]'(by omega))) := fun i hi => by
    obtain ⟨p', ⟨fuel, ht⟩, _⟩ := a3 i (by omega) (by omega) (by omega)
    obtain ⟨r1, r2⟩ := trod_rep 8 _ _ (k2 i (by omega) hi) fuel _ _ ht
    have hpi : i < fn.params.size := by simpa using (by omega : i < fn.params.toList.length)
    have hai : i < args.size := by simpa using (by omega : i < args.toList.length)
    exact ⟨r1, rep_arg (k2 i (by omega) hi) (hval i _ _ (by simp [hpi]) (by simp [hai])) r1 r2⟩
  have hcall := hlaw (avDs kds ds) (hasKds_of d1 fun i hi hi' => by rw [d2 i hi hi' (by omega)]; exact (hone i hi').1)
  obtain ⟨_, hc⟩ := call_ok (gl := gl) hmix htab nn f _ _ _ _ _ hcall
  have hcalls := hc 0 W args (allGh W.heap) (allGh_inv W.heap) hgl (by rw [d1, ← Array.length_toList]; omega) fun i hi hi' => by
    have hik : i < kds.length := by omega
    rw [d2 i hi' hik (by omega)]
    have := (hone i hik).2
    simpa using this
  refine (callsIn_wide.1 hcalls).mono ?_
  rintro e W' ⟨v, G', rfl, hkept, hm, -, hv⟩
  have hv := repT_bool hv
  subst hv
  have hg : Grew W W' := ⟨hkept, hm.size, fun b hb => hm.same b hb fun ⟨k, r, ⟨o, ho, _⟩, _⟩ => by cases ho⟩
  refine ⟨_, rfl, post_of_grew (pa := before) (pv := []) hW' (fun b sp hd => ?_) (fun sp hsp => ?_) (fun sp hsp => ?_) (by simp) hg ?_⟩
  · rw [hs _ (by simp only [List.append_nil]; rw [a2]; simp), hres]
    exact ⟨[], [], shut_bool htb _, rfl, rfl⟩
  · rw [hs _ (by simp only [List.append_nil]; rw [a2]; simp)]
    have hbp : before = p := by simpa using hpq
    subst hbp
    simp only [List.append_nil]
    exact trodAll_stays hl hg hread hA (fun p hp => hW'.lt p hp) hsp
  · rw [hs _ (by simp only [List.append_nil]; rw [a2]; simp), hvars]
    rfl
  · exact ok_one hres rfl (okWide_bool_mk htb _)
end
end Go.Ev
