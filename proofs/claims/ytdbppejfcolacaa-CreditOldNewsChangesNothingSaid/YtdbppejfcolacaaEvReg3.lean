/-
  Two operations that the order leaves open may change places. No condition.
-/
import Derived.Test.YtdbppejfcolacaaEvReg2
namespace Go.Ev
open Go
set_option linter.unusedSimpArgs false

variable {gl : Gl} {cl : Cl} {st st' : St} {o u : FO}

theorem AV.plain_refs {a : AV} (h : a.plain = true) : a.refs = [] := by cases a <;> first | rfl | cases h
theorem nav_refs : ∀ (p : List Nat) (a x : AV), a.wf → a.nav p = some x → x.wf ∧ ∀ k ∈ x.refs, k ∈ a.refs
  | [], a, x, hw, h => by
    have : a = x := by cases a <;> simpa [AV.nav] using h
    subst this; exact ⟨hw, fun k hk => hk⟩
  | i :: p, a, x, hw, h => by
    cases a with
    | agg l =>
      simp only [AV.nav, Option.bind_eq_some_iff] at h
      obtain ⟨y, hy, h⟩ := h
      rw [AV.wf, AV.wfp_iff] at hw
      have hm := hw y (List.mem_of_getElem? hy)
      obtain ⟨h1, h2⟩ := nav_refs p y x hm.2 h
      refine ⟨h1, fun k hk => ?_⟩
      have := h2 k hk
      rw [AV.plain_refs hm.1] at this; cases this
    | aggR l =>
      simp only [AV.nav, Option.bind_eq_some_iff] at h
      obtain ⟨y, hy, h⟩ := h
      rw [AV.wf, AV.wfs_iff] at hw
      obtain ⟨h1, h2⟩ := nav_refs p y x (hw y (List.mem_of_getElem? hy)) h
      exact ⟨h1, fun k hk => by rw [AV.refs]; exact mem_refss (List.mem_of_getElem? hy) (h2 k hk)⟩
    | _ => simp [AV.nav] at h

structure Closed (st : St) : Prop where
  fr : ∀ i, ∀ k ∈ (st.fr.get i).refs, st.hp.get k ≠ none
  ob : ∀ k sh a, st.hp.get k = some (.fix sh a) → a.wf ∧ ∀ j ∈ a.refs, st.hp.get j ≠ none

theorem StOk.closed {H : Heap} {G : Gh} {tmps : Array Value} (h : StOk H G st tmps) : Closed st := by
  refine ⟨fun i k hk => ?_, fun k sh a hk => ⟨?_, fun j hj => ?_⟩⟩
  · obtain ⟨r, hr⟩ := (h.fr i).known_refs k hk
    obtain ⟨o, ho⟩ := h.inv.reg_get hr
    simp [ho]
  · obtain ⟨b, c, e, fz, _, _, _, _, _, hw, _⟩ := h.inv.obs k _ hk
    exact hw
  · obtain ⟨r, hr⟩ := h.inv.fix_refs hk j hj
    obtain ⟨o, ho⟩ := h.inv.reg_get hr
    simp [ho]

/-- What is lent is the same where the heaps agree on what is there. -/
theorem lend_congr {hp hp' : Hp} (hob : ∀ k sh a, hp.get k = some (.fix sh a) → a.wf ∧ ∀ j ∈ a.refs, hp.get j ≠ none) (hag : ∀ k, hp.get k ≠ none → hp'.get k = hp.get k) :
    ∀ (n : Nat) (a : AV), (∀ k ∈ a.refs, hp.get k ≠ none) → lendAV hp' n a = lendAV hp n a
  | 0, a, _ => by simp [lendAV]
  | n + 1, a, ha => by
    have ih := lend_congr hob hag n
    simp only [lendAV]
    split
    · rfl
    · split
      · rename_i k p off len
        rw [content_congr fun k' hk' => hag k' (ha k' hk')]
      · rename_i k p _
        have hk := ha k (by simp [AV.refs])
        rw [hag k hk]
        split
        · rename_i sh b hb
          split
          · rename_i s x hs hx
            have h1 := nav_refs _ _ _ (hob k sh b hb).1 hx
            rw [ih x fun j hj => (hob k sh b hb).2 j (h1.2 j hj)]
          · rfl
        · rfl
      · rename_i l
        rw [mapO_congr fun x hx => ih x fun k hk => ha k (by rw [AV.refs]; exact mem_refss hx hk)]
      · rename_i f l
        rw [mapO_congr fun x hx => ih x fun k hk => ha k (by rw [AV.refs]; exact mem_refss hx hk)]
      · rfl
theorem lend_ext {hp hp' : Hp} (hag : ∀ k, hp'.get k = hp.get k) : ∀ (n : Nat) (a : AV), lendAV hp' n a = lendAV hp n a
  | 0, a => by simp [lendAV]
  | n + 1, a => by
    have ih := lend_ext hag n
    have ih' : lendAV hp' n = lendAV hp n := funext ih
    simp only [lendAV, ih', hag]
    rw [show content hp' = content hp from funext fun a => content_congr fun k _ => hag k]

/-! ### One operation of a drawn region -/
abbrev Tr := AV × Hp × List Nat
def FO.wants (fr : Fr) (o : FO) : Option Bool :=
  match o.g with
  | none => some true
  | some (c, want) =>
    match fr.get c with
    | .bool t => some (t == want)
    | .tup [] => some false
    | _ => none
def foStep (gl : Gl) (cl : Cl) (st : St) (o : FO) : Option Tr :=
  match o.wants st.fr with
  | none => none
  | some true => (stepOp gl cl st o.d o.m).map fun r => (r.1, r.2, keysOf gl st o.m)
  | some false => some (.tup [], [], [])
def St.after (st : St) (o : FO) (t : Tr) : St := st.upd o.d t.1 t.2.1

theorem evFlat_cons (l : List FO) : evFlat gl cl (o :: l) st = (foStep gl cl st o).bind fun t => (evFlat gl cl l (st.after o t)).map fun q => (q.1, t.2.2 :: q.2) := by
  obtain ⟨d, m, g⟩ := o
  cases g with
  | none =>
    simp only [evFlat, foStep, FO.wants, St.after]
    rcases stepOp gl cl st d m with _ | ⟨v, us⟩ <;> rfl
  | some q =>
    obtain ⟨c, want⟩ := q
    simp only [evFlat, foStep, FO.wants]
    cases st.fr.get c with
    | bool t =>
      by_cases h : t = want
      · subst h
        simp only [if_true, beq_self_eq_true, St.after]
        rcases stepOp gl cl st d m with _ | ⟨v, us⟩ <;> rfl
      · have : (t == want) = false := by simpa using h
        simp [h, this, St.after]
    | tup l => cases l <;> simp [St.after]
    | _ => simp

theorem mem_uses {x : Opd} {i : Nat} (hx : x ∈ o.m.opds) (hi : x = .t i) : i ∈ o.uses := by
  subst hi
  unfold FO.uses
  exact List.mem_append_left _ (List.mem_filterMap.2 ⟨.t i, hx, rfl⟩)
theorem guard_uses {c : Nat} {w : Bool} (h : o.g = some (c, w)) : c ∈ o.uses := by
  unfold FO.uses
  rw [h]
  exact List.mem_append_right _ (by simp)
theorem val_uses (h : ∀ i ∈ o.uses, st'.fr.get i = st.fr.get i) : ∀ x ∈ o.m.opds, x.val gl st'.fr = x.val gl st.fr := by
  intro x hx
  cases x with
  | t i => exact h i (mem_uses hx rfl)
  | _ => rfl
theorem wants_uses (h : ∀ i ∈ o.uses, st'.fr.get i = st.fr.get i) : o.wants st'.fr = o.wants st.fr := by
  unfold FO.wants
  cases hg : o.g with
  | none => rfl
  | some q => obtain ⟨c, w⟩ := q; simp only [h c (guard_uses hg)]
theorem reach_exist {hp : Hp} (hob : ∀ k sh a, hp.get k = some (.fix sh a) → ∀ j ∈ a.refs, hp.get j ≠ none) : ∀ {n : Nat} {l acc : List Nat}, (∀ k ∈ l, hp.get k ≠ none) → (∀ k ∈ acc, hp.get k ≠ none) → ∀ k ∈ reach hp n l acc, hp.get k ≠ none
  | 0, l, acc, _, ha => ha
  | n + 1, [], acc, _, ha => ha
  | n + 1, k :: t, acc, hl, ha => by
    rw [reach]
    split
    · exact reach_exist hob (fun j hj => hl j (by simp [hj])) ha
    · refine reach_exist hob (fun j hj => ?_) (fun j hj => ?_)
      · rcases List.mem_append.1 hj with hj | hj
        · cases ho : hp.get k with
          | none => rw [ho] at hj; cases hj
          | some o =>
            rw [ho] at hj
            cases o with
            | fix sh a => exact hob k sh a ho j hj
            | grow sh els => cases hj
            | dead => cases hj
            | log _ _ => cases hj
        · exact hl j (by simp [hj])
      · rcases List.mem_append.1 hj with hj | hj
        · exact ha j hj
        · rw [List.mem_singleton] at hj; subst hj; exact hl j (by simp)
/-- What is reached in a later heap, where it lay as it lies. -/
theorem reach_old {hp hp' : Hp} (hob : ∀ k sh a, hp.get k = some (.fix sh a) → ∀ j ∈ a.refs, hp.get j ≠ none) : ∀ {n : Nat} {l acc : List Nat}, (∀ k ∈ l, hp.get k ≠ none) → (∀ k ∈ acc, hp.get k ≠ none) →
    (∀ k ∈ reach hp' n l acc, hp.get k ≠ none → hp'.get k = hp.get k) → ∀ k ∈ reach hp' n l acc, hp.get k ≠ none
  | 0, l, acc, _, ha, _ => ha
  | n + 1, [], acc, _, ha, _ => ha
  | n + 1, k :: t, acc, hl, ha, hs => by
    rw [reach] at hs ⊢
    split
    · rename_i hc
      rw [if_pos hc] at hs
      exact reach_old hob (fun j hj => hl j (by simp [hj])) ha hs
    · rename_i hc
      rw [if_neg hc] at hs
      have hk : hp'.get k = hp.get k := hs k (reach_congr.reach_acc (by simp)) (hl k (by simp))
      refine reach_old hob (fun j hj => ?_) (fun j hj => ?_) hs
      · rcases List.mem_append.1 hj with hj | hj
        · rw [hk] at hj
          cases ho : hp.get k with
          | none => rw [ho] at hj; cases hj
          | some o =>
            rw [ho] at hj
            cases o with
            | fix sh a => exact hob k sh a ho j hj
            | grow sh els => cases hj
            | dead => cases hj
            | log _ _ => cases hj
        · exact hl j (by simp [hj])
      · rcases List.mem_append.1 hj with hj | hj
        · exact ha j hj
        · rw [List.mem_singleton] at hj; subst hj; exact hl j (by simp)
theorem opds_exist (hC : Closed st) (hc : o.m.cOk = true) : ∀ k ∈ AV.refss (vals gl st.fr o.m.opds), st.hp.get k ≠ none := by
  intro k hk
  obtain ⟨x, hx, hk⟩ := refss_vals_iff.1 hk
  unfold MOp.cOk at hc
  rw [List.all_eq_true] at hc
  have := hc x hx
  cases x with
  | t i => exact hC.fr i k hk
  | c a => simp only [List.isEmpty_iff] at this; rw [Opd.val, this] at hk; cases hk
  | g i =>
    simp only [Opd.val] at hk
    split at hk <;> simp [AV.refs] at hk
  | f i => simp [Opd.val, AV.refs, AV.refss] at hk
/-- What a call that hands objects in begins with. -/
def impRoots (gl : Gl) (fr : Fr) : MOp → List Nat
  | .call _ l _ => AV.refss (vals gl fr l)
  | .callv f l _ => AV.refss (vals gl fr l ++ capsOf (f.val gl fr))
  | _ => []
theorem refss_append : ∀ (l m : List AV), AV.refss (l ++ m) = AV.refss l ++ AV.refss m
  | [], m => rfl
  | a :: l, m => by rw [List.cons_append, AV.refss, AV.refss, refss_append l m, List.append_assoc]
theorem impRoots_sub {m : MOp} {fr : Fr} : ∀ k ∈ impRoots gl fr m, k ∈ AV.refss (vals gl fr m.opds) := by
  intro k hk
  cases m with
  | call f l md => exact hk
  | callv f l md =>
    simp only [impRoots, refss_append, List.mem_append] at hk
    simp only [MOp.opds, vals, AV.refss, List.mem_append]
    rcases hk with hk | hk
    · exact .inr hk
    · exact .inl (capsOf_refs k hk)
  | _ => cases hk
theorem keysOf_imp {m : MOp} (h : isImp m = true) : keysOf gl st m = reaches st.hp (impRoots gl st.fr m) := by
  cases m with
  | call f l md => cases md <;> first | rfl | cases h
  | callv f l md => cases md <;> first | rfl | cases h
  | _ => cases h
theorem keys_exist (hC : Closed st) (hc : o.m.cOk = true) : ∀ k ∈ keysOf gl st o.m, st.hp.get k ≠ none := by
  have h0 := opds_exist (gl := gl) hC hc
  cases hi : isImp o.m with
  | false => rw [keysOf_plain hi]; exact h0
  | true =>
    rw [keysOf_imp hi]
    exact reach_exist (fun k sh a hk => (hC.ob k sh a hk).2) (fun k hk => h0 k (impRoots_sub k hk)) fun k hk => by cases hk

theorem fo_keys {t : Tr} (h : foStep gl cl st o = some t) : ∀ k b, (k, b) ∈ t.2.1 → st.hp.get k = none ∨ (isWriteOp o.m = true ∧ k ∈ t.2.2) := by
  unfold foStep at h
  split at h
  · cases h
  · simp only [Option.map_eq_some_iff] at h
    obtain ⟨r, hr, rfl⟩ := h
    exact stepOp_keys (v := r.1) (us := r.2) hr
  · cases h; intro k b hk; cases hk
theorem fo_exist {t : Tr} (hC : Closed st) (hc : o.m.cOk = true) (h : foStep gl cl st o = some t) : ∀ k ∈ t.2.2, st.hp.get k ≠ none := by
  unfold foStep at h
  split at h
  · cases h
  · simp only [Option.map_eq_some_iff] at h
    obtain ⟨r, hr, rfl⟩ := h
    exact keys_exist hC hc
  · cases h; intro k hk; cases hk
theorem imp_heap {m : MOp} (h : isImp m = true) : isHeapOp m = true ∧ isCallOp m = false := by
  cases m with
  | call f l md => cases md <;> first | exact ⟨rfl, rfl⟩ | cases h
  | callv f l md => cases md <;> first | exact ⟨rfl, rfl⟩ | cases h
  | _ => cases h
theorem imp_write {m : MOp} (h : isImp m = true) : isWriteOp m = true := by
  cases m with
  | call f l md => cases md <;> first | rfl | cases h
  | callv f l md => cases md <;> first | rfl | cases h
  | _ => cases h
theorem fo_frame {t : Tr} (h : foStep gl cl st o = some t) (hu : ∀ i ∈ o.uses, st'.fr.get i = st.fr.get i)
    (hk : isHeapOp o.m = true → isCallOp o.m = false → ∀ k ∈ t.2.2, st'.hp.get k = st.hp.get k)
    (hc : isCallOp o.m = true → ∀ a : AV, (∀ k ∈ a.refs, k ∈ t.2.2) → lendAV st'.hp 4 a = lendAV st.hp 4 a)
    (hn : ∀ k b, (k, b) ∈ t.2.1 → st.hp.get k = none → st'.hp.get k = none) : foStep gl cl st' o = some t := by
  unfold foStep at h ⊢
  rw [wants_uses hu]
  split at h
  · cases h
  · simp only [Option.map_eq_some_iff] at h
    obtain ⟨r, hr, rfl⟩ := h
    rw [stepOp_frame (v := r.1) (us := r.2) hr (val_uses hu) hk hc hn]
    simp [keysOf_congr (val_uses hu) fun hi => hk (imp_heap hi).1 (imp_heap hi).2]
  · exact h

def Disj (a b : List Nat) : Prop := ∀ x ∈ a, x ∉ b
theorem disj_iff {a b : List Nat} : disj a b = true ↔ Disj a b := by
  unfold disj Disj
  simp

structure Apart (u o : FO) : Prop where
  use : ∀ d, u.d = some d → d ∉ o.uses
  use' : ∀ d, o.d = some d → d ∉ u.uses
  dst : ∀ d, u.d = some d → o.d ≠ some d
  wc : isWriteOp u.m = true → isCallOp o.m = false
  cw : isCallOp u.m = true → isWriteOp o.m = false
theorem FO.apart_spec (h : u.apart o = true) : Apart u o := by
  unfold FO.apart at h
  simp only [Bool.and_eq_true, Bool.not_eq_true', Bool.and_eq_false_iff] at h
  obtain ⟨⟨⟨h1, h2⟩, h3⟩, h4⟩ := h
  refine ⟨fun d hd => ?_, fun d hd => ?_, fun d hd => ?_, fun hw => ?_, fun hw => ?_⟩
  · rw [hd] at h1; simp at h1; exact h1.1
  · rw [hd] at h2; simp at h2; exact h2
  · rw [hd] at h1; simp at h1; exact h1.2
  · rcases h3 with h3 | h3
    · rw [hw] at h3; cases h3
    · exact h3
  · rcases h4 with h4 | h4
    · rw [hw] at h4; cases h4
    · exact h4
theorem Apart.symm (h : Apart u o) : Apart o u := by
  refine ⟨h.use', h.use, fun d hd hu => h.dst d hu hd, fun hw => ?_, fun hw => ?_⟩
  · cases hc : isCallOp u.m with
    | false => rfl
    | true => rw [h.cw hc] at hw; cases hw
  · cases hc : isWriteOp u.m with
    | false => rfl
    | true => rw [h.wc hc] at hw; cases hw
theorem FO.clash_comm : u.clash o = o.clash u := by
  unfold FO.clash; cases isWriteOp u.m <;> cases isHeapOp o.m <;> cases isHeapOp u.m <;> cases isWriteOp o.m <;> rfl
theorem Disj.symm {a b : List Nat} (h : Disj a b) : Disj b a := fun x hx hy => h x hy hx
theorem write_heap {m : MOp} (h : isWriteOp m = true) : isHeapOp m = true := by
  cases m with
  | call f l md => rfl
  | callv f l md => rfl
  | _ => first | rfl | cases h

structure Eqv (s t : St) : Prop where
  fr : ∀ i, s.fr.get i = t.fr.get i
  hp : ∀ k, s.hp.get k = t.hp.get k
theorem Eqv.refl (s : St) : Eqv s s := ⟨fun _ => rfl, fun _ => rfl⟩
theorem Eqv.symm {s t : St} (h : Eqv s t) : Eqv t s := ⟨fun i => (h.fr i).symm, fun k => (h.hp k).symm⟩
theorem Eqv.trans {s t r : St} (h : Eqv s t) (h' : Eqv t r) : Eqv s r := ⟨fun i => (h.fr i).trans (h'.fr i), fun k => (h.hp k).trans (h'.hp k)⟩
theorem after_fr (t : Tr) (i : Nat) : (st.after o t).fr.get i = if o.d = some i then t.1 else st.fr.get i := by rw [St.after, St.upd, upd_get]
theorem after_hp (t : Tr) (k : Nat) : (st.after o t).hp.get k = (match Hp.get t.2.1 k with | some b => some b | none => st.hp.get k) := Hp.get_append _ _ _
theorem Eqv.after {s r : St} (h : Eqv s r) (o : FO) (t : Tr) : Eqv (s.after o t) (r.after o t) :=
  ⟨fun i => by rw [after_fr, after_fr, h.fr], fun k => by rw [after_hp, after_hp, h.hp]⟩
theorem Eqv.foStep {s r : St} (h : Eqv s r) {t : Tr} (hs : foStep gl cl s o = some t) : foStep gl cl r o = some t :=
  fo_frame hs (fun i _ => (h.fr i).symm) (fun _ _ k _ => (h.hp k).symm) (fun _ a _ => lend_ext (fun k => (h.hp k).symm) 4 a) fun k b _ hn => (h.hp k).symm.trans hn

theorem get_of_mem {us : Hp} {k : Nat} {b : OB} (h : (k, b) ∈ us) : Hp.get us k ≠ none := by
  induction us with
  | nil => cases h
  | cons x us ih =>
    obtain ⟨j, c⟩ := x
    simp only [Hp.get]
    split
    · simp
    · rename_i hne
      rcases List.mem_cons.1 h with h | h
      · cases h; exact absurd rfl hne
      · exact ih h

/-- Two operations change places. -/
theorem fo_swap (hC : Closed st) (hcu : u.m.cOk = true) (hco : o.m.cOk = true) (ha : Apart u o) {tu to : Tr} (hd : u.clash o = true → Disj tu.2.2 to.2.2)
    (hu : foStep gl cl st u = some tu) (ho : foStep gl cl (st.after u tu) o = some to) :
    foStep gl cl st o = some to ∧ foStep gl cl (st.after o to) u = some tu ∧ Eqv ((st.after u tu).after o to) ((st.after o to).after u tu) := by
  have husk := fo_keys hu
  have hosk := fo_keys ho
  have huex := fo_exist hC hcu hu
  have fr1 : ∀ i ∈ o.uses, st.fr.get i = (st.after u tu).fr.get i := fun i hi => by
    rw [after_fr, if_neg]
    intro h; exact ha.use i h hi
  have hnoU : ∀ k, st.hp.get k ≠ none → (isWriteOp u.m = true → k ∉ tu.2.2) → Hp.get tu.2.1 k = none := fun k hk hw => by
    refine Hp.get_none fun b hb => ?_
    rcases husk k b hb with h | ⟨h1, h2⟩
    · exact hk h
    · exact hw h1 h2
  -- the keys of o lie in st
  have hkeys : ∀ k ∈ to.2.2, st.hp.get k ≠ none := by
    have ho' := ho
    unfold foStep at ho'
    split at ho'
    · cases ho'
    · simp only [Option.map_eq_some_iff] at ho'
      obtain ⟨r, hr, e⟩ := ho'
      have e2 : to.2.2 = keysOf gl (st.after u tu) o.m := by rw [← e]
      rw [e2]
      have h0 := opds_exist (gl := gl) hC hco
      cases hi : isImp o.m with
      | false =>
        intro k hk
        have : k ∈ keysOf gl st o.m := by rw [keysOf_congr (val_uses fr1) (by rw [hi]; intro h; cases h)]; exact hk
        exact keys_exist hC hco k this
      | true =>
        have hv : impRoots gl (st.after u tu).fr o.m = impRoots gl st.fr o.m := by
          have hvu := val_uses (gl := gl) (st := st.after u tu) (st' := st) fr1
          cases hm : o.m with
          | call f l md => rw [hm] at hvu; simp only [impRoots]; rw [vals_congr (l := l) fun x hx => (hvu x hx).symm]
          | callv f l md =>
            rw [hm] at hvu
            simp only [impRoots]; rw [vals_congr (l := l) fun x hx => (hvu x (by simp [MOp.opds, hx])).symm, hvu f (by simp [MOp.opds])]
          | _ => rfl
        have e3 : keysOf gl (st.after u tu) o.m = reaches (st.after u tu).hp (impRoots gl st.fr o.m) := by rw [keysOf_imp hi, hv]
        have hsame : ∀ k ∈ reaches (st.after u tu).hp (impRoots gl st.fr o.m), st.hp.get k ≠ none → (st.after u tu).hp.get k = st.hp.get k := by
          intro k hk hex
          rw [after_hp, hnoU k hex fun hw hku => hd (by unfold FO.clash; simp [hw, (imp_heap hi).1]) k hku (by rw [e2, e3]; exact hk)]
        rw [e3]
        exact reach_old (fun k sh a hk => (hC.ob k sh a hk).2) (fun k hk => h0 k (impRoots_sub k hk)) (fun k hk => by cases hk) hsame
    · cases ho'; intro k hk; cases hk
  have step1 : foStep gl cl st o = some to := by
    refine fo_frame ho fr1 (fun hh _ k hk => ?_) (fun hcall a hka => ?_) (fun k b _ hn => ?_)
    · rw [after_hp, hnoU k (hkeys k hk) fun hw hku => hd (by unfold FO.clash; simp [hw, hh]) k hku hk]
    · refine (lend_congr hC.ob (fun k hk => ?_) 4 a fun k hk => hkeys k (hka k hk)).symm
      rw [after_hp, hnoU k hk fun hw => by have := ha.wc hw; rw [hcall] at this; cases this]
    · rw [after_hp] at hn
      split at hn
      · cases hn
      · exact hn
  -- no key is turned by both
  have hboth : ∀ k b, (k, b) ∈ to.2.1 → Hp.get tu.2.1 k = none := fun k b hb => by
    rcases hosk k b hb with h | ⟨hw, hk⟩
    · rw [after_hp] at h
      split at h
      · cases h
      · assumption
    · exact hnoU k (hkeys k hk) fun hw' hk' => hd (by unfold FO.clash; simp [hw', write_heap hw]) k hk' hk
  have hosk1 := fo_keys step1
  refine ⟨step1, ?_, ⟨fun i => ?_, fun k => ?_⟩⟩
  · have hnoO : ∀ k, st.hp.get k ≠ none → (isWriteOp o.m = true → k ∉ to.2.2) → Hp.get to.2.1 k = none := fun k hk hw => by
      refine Hp.get_none fun b hb => ?_
      rcases hosk1 k b hb with h | ⟨h1, h2⟩
      · exact hk h
      · exact hw h1 h2
    refine fo_frame hu (fun i hi => ?_) (fun hh _ k hk => ?_) (fun hcall a hka => ?_) (fun k b hb hn => ?_)
    · rw [after_fr, if_neg]; intro h; exact ha.use' i h hi
    · rw [after_hp, hnoO k (huex k hk) fun hw hko => hd (by unfold FO.clash; simp [hw, hh]) k hk hko]
    · refine lend_congr hC.ob (fun k hk => ?_) 4 a fun k hk => huex k (hka k hk)
      rw [after_hp, hnoO k hk fun hw => by have := ha.cw hcall; rw [hw] at this; cases this]
    · rw [after_hp]
      cases hg : Hp.get to.2.1 k with
      | none => exact hn
      | some c => exact absurd (hboth k c (Hp.get_mem hg)) (get_of_mem hb)
  · rw [after_fr, after_fr, after_fr, after_fr]
    by_cases h : u.d = some i
    · rw [if_pos h, if_neg (ha.dst i h)]; simp [h]
    · simp [h]
  · rw [after_hp, after_hp, after_hp, after_hp]
    cases h1 : Hp.get to.2.1 k with
    | none => cases h2 : Hp.get tu.2.1 k <;> rfl
    | some c => rw [hboth k c (Hp.get_mem h1)]

/-! ### Orders -/
variable {fo : Nat → FO} {T : Nat → Tr}
def OkRun (gl : Gl) (cl : Cl) (fo : Nat → FO) (T : Nat → Tr) : List Nat → St → Prop
  | [], _ => True
  | i :: l, st => foStep gl cl st (fo i) = some (T i) ∧ OkRun gl cl fo T l (st.after (fo i) (T i))
def runT (fo : Nat → FO) (T : Nat → Tr) : List Nat → St → St
  | [], st => st
  | i :: l, st => runT fo T l (st.after (fo i) (T i))
theorem OkRun.eqv : ∀ {l : List Nat} {s r : St}, Eqv s r → OkRun gl cl fo T l s → OkRun gl cl fo T l r ∧ Eqv (runT fo T l s) (runT fo T l r)
  | [], _, _, h, _ => ⟨trivial, h⟩
  | i :: l, s, r, h, ho => by
    obtain ⟨h1, h2⟩ := OkRun.eqv (h.after (fo i) (T i)) ho.2
    exact ⟨⟨h.foStep ho.1, h1⟩, h2⟩

/-- An operation that the order leaves open against all before it may go first. -/
theorem move_front {S : St → Prop} {j : Nat} {post : List Nat} (hS : ∀ s, S s → Closed s) (hcj : (fo j).m.cOk = true) :
    ∀ (pre : List Nat) (st : St), (∀ i ∈ pre, ∀ s, S s → foStep gl cl s (fo i) = some (T i) → S (s.after (fo i) (T i))) →
      (∀ i ∈ pre, (fo i).m.cOk = true ∧ Apart (fo i) (fo j) ∧ ((fo i).clash (fo j) = true → Disj (T i).2.2 (T j).2.2)) → S st → OkRun gl cl fo T (pre ++ j :: post) st →
      OkRun gl cl fo T (j :: (pre ++ post)) st ∧ Eqv (runT fo T (pre ++ j :: post) st) (runT fo T (j :: (pre ++ post)) st)
  | [], st, _, _, _, h => ⟨h, .refl _⟩
  | i :: pre, st, hstep, hap, hs, h => by
    obtain ⟨h1, h2⟩ := h
    obtain ⟨⟨g1, g2⟩, g3⟩ := move_front (S := S) hS hcj pre _ (fun p hp => hstep p (by simp [hp])) (fun p hp => hap p (by simp [hp])) (hstep i (by simp) st hs h1) h2
    obtain ⟨hc, ha, hd⟩ := hap i (by simp)
    obtain ⟨k1, k2, k3⟩ := fo_swap (hS st hs) hc hcj ha hd h1 g1
    obtain ⟨m1, m2⟩ := OkRun.eqv k3 g2
    exact ⟨⟨k1, k2, m1⟩, g3.trans m2⟩

theorem evFlat_run : ∀ (l : List FO) (st st' : St) (ks : List (List Nat)) (off : Nat), evFlat gl cl l st = some (st', ks) →
    ∃ trs : List Tr, trs.length = l.length ∧ ks = trs.map (·.2.2) ∧ ∀ (fo : Nat → FO) (T : Nat → Tr), (∀ i (h : i < l.length), fo (off + i) = l[i]) →
      (∀ i (h : i < trs.length), T (off + i) = trs[i]) → OkRun gl cl fo T (List.range' off l.length) st ∧ runT fo T (List.range' off l.length) st = st'
  | [], st, st', ks, off, h => by
    simp only [evFlat, Option.some.injEq, Prod.mk.injEq] at h
    obtain ⟨rfl, rfl⟩ := h
    exact ⟨[], rfl, rfl, fun _ _ _ _ => ⟨trivial, rfl⟩⟩
  | o :: l, st, st', ks, off, h => by
    rw [evFlat_cons] at h
    simp only [Option.bind_eq_some_iff, Option.map_eq_some_iff, Prod.mk.injEq] at h
    obtain ⟨t, ht, ⟨s2, ks2⟩, h2, rfl, rfl⟩ := h
    obtain ⟨trs, g1, g2, g3⟩ := evFlat_run l _ _ _ (off + 1) h2
    refine ⟨t :: trs, by simp [g1], by simp [g2], fun fo T hf hT => ?_⟩
    have e1 : fo off = o := hf 0 (by simp)
    have e2 : T off = t := hT 0 (by simp)
    obtain ⟨k1, k2⟩ := g3 fo T (fun i hi => by have := hf (i + 1) (by simpa using hi); simpa [Nat.add_assoc, Nat.add_comm 1 i] using this)
      (fun i hi => by have := hT (i + 1) (by simpa using hi); simpa [Nat.add_assoc, Nat.add_comm 1 i] using this)
    simp only [List.length_cons, List.range'_succ, OkRun, runT, e1, e2]
    exact ⟨⟨ht, k1⟩, k2⟩
end Go.Ev
