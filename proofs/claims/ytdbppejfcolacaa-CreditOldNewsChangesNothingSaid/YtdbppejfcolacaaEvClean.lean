/-
  A state cut down to what a loop's head keeps. No condition.
-/
import Derived.Test.YtdbppejfcolacaaEvLend
namespace Go.Ev
open Go
set_option linter.unusedSimpArgs false

variable {H : Heap} {G : Gh} {st st1 acc : St} {tmps : Array Value}

theorem nodup_iff : ∀ {l : List Nat}, nodup l = true ↔ l.Nodup
  | [] => by simp [nodup]
  | a :: l => by simp [nodup, nodup_iff (l := l)]

/-- Where an object of the state that is kept comes from. -/
def FromHp (st : St) (ks : List Kp) (k : Nat) (o : OB) : Prop :=
  (Kp.key k ∈ ks ∧ st.hp.get k = some o) ∨
  ∃ i sh, Kp.own i k sh ∈ ks ∧ ((∃ k' n els, st.fr.get i = .sl k' [] 0 n ∧ st.hp.get k' = some (.grow sh els) ∧ o = .grow sh els) ∨ ((∃ sh0, st.fr.get i = .lst true sh0 []) ∧ o = .grow sh []))
def FromFr (st : St) (ks : List Kp) (i : Nat) (a : AV) : Prop :=
  (Kp.slot i ∈ ks ∧ a = st.fr.get i) ∨
  ∃ k sh, Kp.own i k sh ∈ ks ∧ ((∃ k' n els, st.fr.get i = .sl k' [] 0 n ∧ st.hp.get k' = some (.grow sh els) ∧ n = els.length ∧ a = .sl k [] 0 n) ∨ ((∃ sh0, st.fr.get i = .lst true sh0 []) ∧ a = .sl k [] 0 0))

theorem keep1_spec {x : Kp} (h : keep1 st acc x = some st1) :
    (∀ k o, st1.hp.get k = some o → acc.hp.get k = some o ∨ FromHp st [x] k o) ∧ (∀ i, st1.fr.get i = acc.fr.get i ∨ FromFr st [x] i (st1.fr.get i)) ∧
    (∀ k, acc.hp.get k ≠ none → st1.hp.get k ≠ none) ∧ (∀ k ∈ Kp.keys [x] ++ Kp.owns [x], st1.hp.get k ≠ none) := by
  cases x with
  | slot i =>
    simp only [keep1, Option.some.injEq] at h
    subst h
    refine ⟨fun k o h => .inl h, fun j => ?_, fun k h => h, fun k hk => by simp [Kp.keys, Kp.owns] at hk⟩
    by_cases hj : i = j
    · subst hj; exact .inr (.inl ⟨by simp, by simp [Fr.get]⟩)
    · left; simp [Fr.get, hj]
  | key k =>
    simp only [keep1] at h
    split at h
    · rename_i o ho
      cases h
      refine ⟨fun j o' hj => ?_, fun j => .inl rfl, fun j hj => ?_, fun j hj => ?_⟩
      · rw [Hp.get_cons] at hj
        by_cases hk : k = j
        · subst hk; simp only [if_true, Option.some.injEq] at hj; subst hj; exact .inr (.inl ⟨by simp, ho⟩)
        · simp only [hk, if_false] at hj; exact .inl hj
      · rw [Hp.get_cons]; split
        · simp
        · exact hj
      · simp only [Kp.keys, Kp.owns, List.append_nil, List.mem_singleton] at hj
        subst hj; simp [Hp.get_cons]
    · cases h
  | own i k sh =>
    simp only [keep1] at h
    split at h
    · rename_i k' n hfr
      split at h
      · rename_i sh' els hk'
        rw [Option.ite_none_right_eq_some, Bool.and_eq_true, decide_eq_true_eq] at h
        obtain ⟨⟨hb, hn⟩, h⟩ := h
        have hb := Sh.beq_eq hb
        subst hb
        cases h
        refine ⟨fun j o' hj => ?_, fun j => ?_, fun j hj => ?_, fun j hj => ?_⟩
        · rw [Hp.get_cons] at hj
          by_cases hk : k = j
          · subst hk; simp only [if_true, Option.some.injEq] at hj; subst hj
            exact .inr (.inr ⟨i, sh, by simp, .inl ⟨k', n, els, hfr, hk', rfl⟩⟩)
          · simp only [hk, if_false] at hj; exact .inl hj
        · by_cases hij : i = j
          · subst hij; exact .inr (.inr ⟨k, sh, by simp, .inl ⟨k', n, els, hfr, hk', hn, by simp [Fr.get]⟩⟩)
          · left; simp [Fr.get, hij]
        · rw [Hp.get_cons]; split
          · simp
          · exact hj
        · simp only [Kp.keys, Kp.owns, List.nil_append, List.mem_singleton] at hj
          subst hj; simp [Hp.get_cons]
      · cases h
    · rename_i sh0 hfr
      cases h
      refine ⟨fun j o' hj => ?_, fun j => ?_, fun j hj => ?_, fun j hj => ?_⟩
      · rw [Hp.get_cons] at hj
        by_cases hk : k = j
        · subst hk; simp only [if_true, Option.some.injEq] at hj; subst hj
          exact .inr (.inr ⟨i, sh, by simp, .inr ⟨⟨sh0, hfr⟩, rfl⟩⟩)
        · simp only [hk, if_false] at hj; exact .inl hj
      · by_cases hij : i = j
        · subst hij; exact .inr (.inr ⟨k, sh, by simp, .inr ⟨⟨sh0, hfr⟩, by simp [Fr.get]⟩⟩)
        · left; simp [Fr.get, hij]
      · rw [Hp.get_cons]; split
        · simp
        · exact hj
      · simp only [Kp.keys, Kp.owns, List.nil_append, List.mem_singleton] at hj
        subst hj; simp [Hp.get_cons]
    · cases h

theorem FromHp.mono {ks ks' : List Kp} {k : Nat} {o : OB} (h : FromHp st ks k o) (hs : ∀ x ∈ ks, x ∈ ks') : FromHp st ks' k o := by
  rcases h with ⟨h1, h2⟩ | ⟨i, sh, h1, h2⟩
  · exact .inl ⟨hs _ h1, h2⟩
  · exact .inr ⟨i, sh, hs _ h1, h2⟩
theorem FromFr.mono {ks ks' : List Kp} {i : Nat} {a : AV} (h : FromFr st ks i a) (hs : ∀ x ∈ ks, x ∈ ks') : FromFr st ks' i a := by
  rcases h with ⟨h1, h2⟩ | ⟨k, sh, h1, h2⟩
  · exact .inl ⟨hs _ h1, h2⟩
  · exact .inr ⟨k, sh, hs _ h1, h2⟩
theorem keys_cons (x : Kp) (l : List Kp) (k : Nat) : k ∈ Kp.keys (x :: l) ++ Kp.owns (x :: l) ↔ k ∈ Kp.keys [x] ++ Kp.owns [x] ∨ k ∈ Kp.keys l ++ Kp.owns l := by
  cases x <;> simp [Kp.keys, Kp.owns, or_assoc, or_left_comm]

theorem keeps_spec : ∀ {ks : List Kp} {acc : St}, keeps st ks acc = some st1 →
    (∀ k o, st1.hp.get k = some o → acc.hp.get k = some o ∨ FromHp st ks k o) ∧ (∀ i, st1.fr.get i = acc.fr.get i ∨ FromFr st ks i (st1.fr.get i)) ∧
    (∀ k, acc.hp.get k ≠ none → st1.hp.get k ≠ none) ∧ (∀ k ∈ Kp.keys ks ++ Kp.owns ks, st1.hp.get k ≠ none)
  | [], acc, h => by
    simp only [keeps, Option.some.injEq] at h
    subst h
    exact ⟨fun k o h => .inl h, fun i => .inl rfl, fun k h => h, fun k hk => by simp [Kp.keys, Kp.owns] at hk⟩
  | x :: l, acc, h => by
    simp only [keeps, Option.bind_eq_some_iff] at h
    obtain ⟨a2, h1, h2⟩ := h
    obtain ⟨p1, p2, p3, p4⟩ := keep1_spec h1
    obtain ⟨q1, q2, q3, q4⟩ := keeps_spec h2
    have hx : ∀ y ∈ [x], y ∈ x :: l := fun y hy => by simp at hy; simp [hy]
    have hl : ∀ y ∈ l, y ∈ x :: l := fun y hy => by simp [hy]
    refine ⟨fun k o hk => ?_, fun i => ?_, fun k hk => q3 k (p3 k hk), fun k hk => ?_⟩
    · rcases q1 k o hk with h | h
      · exact (p1 k o h).imp id (·.mono hx)
      · exact .inr (h.mono hl)
    · rcases q2 i with h | h
      · rcases p2 i with h' | h'
        · exact .inl (h.trans h')
        · rw [h]; exact .inr (h'.mono hx)
      · exact .inr (h.mono hl)
    · rcases (keys_cons x l k).1 hk with h | h
      · exact q3 k (p4 k h)
      · exact q4 k h

/-- The slot of the list that lies at a key. -/
def ownI : List Kp → Nat → Option Nat
  | [], _ => none
  | .own i k _ :: l, j => if k = j then some i else ownI l j
  | _ :: l, j => ownI l j
theorem mem_owns {ks : List Kp} {i k : Nat} {sh : Sh} (h : Kp.own i k sh ∈ ks) : k ∈ Kp.owns ks := by
  induction ks with
  | nil => cases h
  | cons x l ih =>
    rcases List.mem_cons.1 h with rfl | h'
    · simp [Kp.owns]
    · cases x <;> simp [Kp.owns, ih h']
theorem mem_keys {ks : List Kp} {k : Nat} : Kp.key k ∈ ks ↔ k ∈ Kp.keys ks := by
  induction ks with
  | nil => simp [Kp.keys]
  | cons x l ih => cases x <;> simp [Kp.keys, ih]
theorem ownI_own {ks : List Kp} (hn : (Kp.owns ks).Nodup) {i k : Nat} {sh : Sh} (h : Kp.own i k sh ∈ ks) : ownI ks k = some i := by
  induction ks with
  | nil => cases h
  | cons x l ih =>
    rcases List.mem_cons.1 h with rfl | h'
    · simp [ownI]
    · cases x with
      | own i' k' sh' =>
        simp only [Kp.owns, List.nodup_cons] at hn
        have hne : k' ≠ k := fun e => hn.1 (e ▸ mem_owns h')
        simp only [ownI, hne, if_false]
        exact ih hn.2 h'
      | _ => exact ih hn h'
theorem ownI_mem {ks : List Kp} {i k : Nat} (h : ownI ks k = some i) : ∃ sh, Kp.own i k sh ∈ ks := by
  induction ks with
  | nil => cases h
  | cons x l ih =>
    cases x with
    | own i' k' sh' =>
      simp only [ownI] at h
      split at h
      · rename_i hk; cases h; subst hk; exact ⟨sh', by simp⟩
      · obtain ⟨sh, h⟩ := ih h; exact ⟨sh, by simp [h]⟩
    | _ => obtain ⟨sh, h⟩ := ih h; exact ⟨sh, by simp [h]⟩
theorem mem_ownSrc {ks : List Kp} {i k k' n : Nat} {sh : Sh} {p : List Nat} {off : Nat} (h : Kp.own i k sh ∈ ks) (hf : st.fr.get i = .sl k' p off n) : k' ∈ Kp.ownSrc st ks := by
  induction ks with
  | nil => cases h
  | cons x l ih =>
    rcases List.mem_cons.1 h with rfl | h'
    · simp [Kp.ownSrc, hf]
    · cases x <;> simp [Kp.ownSrc, ih h']
/-- Lists from one source are one list. -/
theorem ownSrc_inj {ks : List Kp} (hn : (Kp.ownSrc st ks).Nodup) {i1 i2 k1 k2 k' n1 n2 : Nat} {s1 s2 : Sh} {p1 p2 : List Nat} {o1 o2 : Nat} (h1 : Kp.own i1 k1 s1 ∈ ks) (h2 : Kp.own i2 k2 s2 ∈ ks)
    (f1 : st.fr.get i1 = .sl k' p1 o1 n1) (f2 : st.fr.get i2 = .sl k' p2 o2 n2) : k1 = k2 := by
  induction ks with
  | nil => cases h1
  | cons x l ih =>
    have hl : (Kp.ownSrc st l).Nodup := by
      cases x with
      | own i k sh => simp only [Kp.ownSrc] at hn; exact (List.nodup_append.1 hn).2.1
      | _ => exact hn
    rcases List.mem_cons.1 h1 with e1 | h1'
    · rcases List.mem_cons.1 h2 with e2 | h2'
      · rw [← e1] at e2; cases e2; rfl
      · subst e1
        simp only [Kp.ownSrc, f1, List.singleton_append, List.nodup_cons] at hn
        exact absurd (mem_ownSrc h2' f2) hn.1
    · rcases List.mem_cons.1 h2 with e2 | h2'
      · subst e2
        simp only [Kp.ownSrc, f2, List.singleton_append, List.nodup_cons] at hn
        exact absurd (mem_ownSrc h1' f1) hn.1
      · exact ih hl h1' h2'

theorem slotRefs_slot {ks : List Kp} {i : Nat} (h : Kp.slot i ∈ ks) : ∀ k ∈ (st.fr.get i).refs, k ∈ Kp.slotRefs st ks := by
  induction ks with
  | nil => cases h
  | cons x l ih =>
    intro k hk
    rcases List.mem_cons.1 h with rfl | h'
    · simp [Kp.slotRefs, hk]
    · cases x <;> simp [Kp.slotRefs, ih h' k hk]
theorem slotRefs_key {ks : List Kp} {j : Nat} {sh : Sh} {a : AV} (h : Kp.key j ∈ ks) (hj : st.hp.get j = some (.fix sh a)) : ∀ k ∈ a.refs, k ∈ Kp.slotRefs st ks := by
  induction ks with
  | nil => cases h
  | cons x l ih =>
    intro k hk
    rcases List.mem_cons.1 h with rfl | h'
    · simp [Kp.slotRefs, hj, hk]
    · cases x <;> simp [Kp.slotRefs, ih h' k hk]

open Classical in
noncomputable def cleanReg (G : Gh) (st : St) (ks : List Kp) (k : Nat) : Option Rg :=
  if k ∈ Kp.keys ks then G.reg k else
  match ownI ks k with
  | some i => (match st.fr.get i with | .sl k' _ _ _ => G.reg k' | _ => some .nil)
  | none => none
open Classical in
noncomputable def cleanSrc (st : St) (ks : List Kp) (k : Nat) : Nat :=
  if k ∈ Kp.keys ks then k else
  match ownI ks k with
  | some i => (match st.fr.get i with | .sl k' _ _ _ => k' | _ => k)
  | none => k
noncomputable def cleanGh (G : Gh) (st : St) (ks : List Kp) : Gh := { G with reg := cleanReg G st ks }

theorem clean0_ok {ks : List Kp} (hst : StOk H G st tmps) (h : clean0 ks st = some st1) : StOk H (cleanGh G st ks) st1 tmps ∧ Move H G st.hp H (cleanGh G st ks) st1.hp := by
  unfold clean0 at h
  rw [Option.ite_none_right_eq_some, Bool.and_eq_true, Bool.and_eq_true, nodup_iff, nodup_iff, List.all_eq_true] at h
  obtain ⟨⟨⟨hn1, hn2⟩, hrefs⟩, h⟩ := h
  obtain ⟨q1, q2, _, q4⟩ := keeps_spec h
  have hn1' := List.nodup_append.1 hn1
  have hn2' := List.nodup_append.1 hn2
  have hkey : ∀ k, k ∈ Kp.keys ks → (cleanGh G st ks).reg k = G.reg k ∧ cleanSrc st ks k = k := fun k hk => by
    simp [cleanGh, cleanReg, cleanSrc, hk]
  have hnk : ∀ {i k sh}, Kp.own i k sh ∈ ks → k ∉ Kp.keys ks := fun {i k sh} ho hk => hn1'.2.2 k hk k (mem_owns ho) rfl
  have hown : ∀ {i k k' n sh p off}, Kp.own i k sh ∈ ks → st.fr.get i = .sl k' p off n → (cleanGh G st ks).reg k = G.reg k' ∧ cleanSrc st ks k = k' := fun {i k k' n sh p off} ho hf => by
    have h1 := hnk ho
    have h2 := ownI_own hn1'.2.1 ho
    simp [cleanGh, cleanReg, cleanSrc, h1, h2, hf]
  have hnil : ∀ {i k sh sh0 l}, Kp.own i k sh ∈ ks → st.fr.get i = .lst true sh0 l → (cleanGh G st ks).reg k = some .nil := fun {i k sh sh0 l} ho hf => by
    have h1 := hnk ho
    have h2 := ownI_own hn1'.2.1 ho
    simp [cleanGh, cleanReg, h1, h2, hf]
  have hrefs' : ∀ k ∈ Kp.slotRefs st ks, k ∈ Kp.keys ks := fun k hk => by simpa using hrefs k hk
  have q1' : ∀ k o, st1.hp.get k = some o → FromHp st ks k o := fun k o hk => by
    rcases q1 k o hk with h | h
    · simp [Hp.get] at h
    · exact h
  obtain ⟨hinv, hlive⟩ := inv_map (G' := cleanGh G st ks) (hp' := st1.hp) hst.inv (cleanSrc st ks) (fun b => Iff.rfl) (fun i l h => h)
    (fun k o hk => by
      rcases q1' k o hk with ⟨h1, h2⟩ | ⟨i, sh, ho, ⟨k', n, els, hf, hk', rfl⟩ | ⟨⟨sh0, hf⟩, rfl⟩⟩
      · have hm := mem_keys.1 h1
        obtain ⟨e1, e2⟩ := hkey k hm
        left
        refine ⟨by rw [e2]; exact h2, by rw [e1, e2], fun sh a ha j hj => ?_⟩
        subst ha
        exact (hkey j (hrefs' j (slotRefs_key h1 h2 j hj))).1
      · obtain ⟨e1, e2⟩ := hown ho hf
        left
        exact ⟨by rw [e2]; exact hk', by rw [e1, e2], fun sh a ha => by cases ha⟩
      · exact .inr ⟨sh, rfl, hnil ho hf⟩)
    (fun k hk => by
      have h1 : k ∉ Kp.keys ks := fun h => q4 k (List.mem_append_left _ h) hk
      have h2 : ownI ks k = none := by
        cases hi : ownI ks k with
        | none => rfl
        | some i => obtain ⟨sh, hm⟩ := ownI_mem hi; exact absurd hk (q4 k (List.mem_append_right _ (mem_owns hm)))
      simp [cleanGh, cleanReg, h1, h2])
    (fun k k' b r r' hk hk' hr hr' he => by
      have cases' : ∀ k r, liveOb st1.hp k → (cleanGh G st ks).At k b r → (k ∈ Kp.keys ks ∧ cleanSrc st ks k = k) ∨ ∃ i sh k2 n p off, Kp.own i k sh ∈ ks ∧ st.fr.get i = .sl k2 p off n ∧ cleanSrc st ks k = k2 := by
        rintro k r ⟨o, ho, _⟩ hr
        rcases q1' k o ho with ⟨h1, h2⟩ | ⟨i, sh, ho, ⟨k2, n, els, hf, hk', _⟩ | ⟨⟨sh0, hf⟩, _⟩⟩
        · exact .inl ⟨mem_keys.1 h1, (hkey k (mem_keys.1 h1)).2⟩
        · exact .inr ⟨i, sh, k2, n, [], 0, ho, hf, (hown ho hf).2⟩
        · obtain ⟨q, hq, hat⟩ := hr; rw [hnil ho hf] at hq; cases hq; exact hat.elim
      rcases cases' k r hk hr with ⟨m1, e1⟩ | ⟨i1, s1, a1, n1, p1, o1, ho1, hf1, e1⟩
      · rcases cases' k' r' hk' hr' with ⟨m2, e2⟩ | ⟨i2, s2, a2, n2, p2, o2, ho2, hf2, e2⟩
        · rw [e1, e2] at he; exact he
        · exfalso
          rw [e1, e2] at he
          subst he
          exact hn2'.2.2 k m1 k (mem_ownSrc ho2 hf2) rfl
      · rcases cases' k' r' hk' hr' with ⟨m2, e2⟩ | ⟨i2, s2, a2, n2, p2, o2, ho2, hf2, e2⟩
        · exfalso
          rw [e1, e2] at he
          subst he
          exact hn2'.2.2 _ m2 _ (mem_ownSrc ho1 hf1) rfl
        · rw [e1, e2] at he
          subst he
          exact ownSrc_inj hn2'.2.1 ho1 ho2 hf1 hf2)
  refine ⟨⟨hinv, fun i => ?_⟩, ⟨hinv, Nat.le_refl _, fun b hb => ⟨hb, rfl⟩, fun i l h => h, fun b _ _ => rfl, fun b hb => .inl (hlive b hb), fun b hb => .inl hb⟩⟩
  rcases q2 i with h | ⟨hm, h⟩ | ⟨k, sh, ho, ⟨k', n, els, hf, hk', hlen, h⟩ | ⟨⟨sh0, hf⟩, h⟩⟩
  · rw [h]; simp only [Fr.get]; trivial
  · rw [h]
    exact (hst.fr i).cut (fun b h => h) (fun i l h => h) fun k hk => (hkey k (hrefs' k (slotRefs_slot hm k hk))).1
  · rw [h]
    have hr := hst.fr i
    rw [hf, repT_sc rfl] at hr
    rw [repT_sc rfl]
    obtain ⟨e1, _⟩ := hown ho hf
    generalize tmps.getD i undef = v at hr ⊢
    cases hr with
    | sl _ _ _ _ b root m e o hr hs ho hle => exact .sl k [] 0 n b root m e o (e1.trans hr) hs ho hle
    | slZ _ _ _ b x root m e hr hs ho => exact .slZ k [] 0 b x root m e (e1.trans hr) hs ho
    | slNil _ a hr => exact .slNil k a (e1.trans hr)
  · rw [h]
    have hr := hst.fr i
    rw [hf, repT_sc rfl] at hr
    rw [repT_sc rfl]
    have e1 := hnil ho hf
    obtain ⟨b, cap, he, _, hc, _, _⟩ := repS_lst hr
    have := hc rfl
    simp only [List.length_nil] at this he
    subst this
    rw [he]
    exact .slNil k b e1
theorem clean_ok {ks : List Kp} (hst : StOk H G st tmps) (h : clean ks st = some st1) : StOk H (cleanGh G st (ksA ks st)) st1 tmps ∧ Move H G st.hp H (cleanGh G st (ksA ks st)) st1.hp := clean0_ok hst h
theorem ksLt_owns : ∀ {ks : List Kp}, ksLt ks = true → ∀ k ∈ Kp.owns ks, k < SHK
  | [], _, k, h => by cases h
  | x :: l, hl, k, h => by
    cases x with
    | own j q sh =>
      simp only [ksLt, Bool.and_eq_true, decide_eq_true_eq] at hl
      simp only [Kp.owns, List.mem_cons] at h
      rcases h with rfl | h
      · exact hl.1
      · exact ksLt_owns hl.2 k h
    | _ => exact ksLt_owns (by simpa [ksLt] using hl) k (by simpa [Kp.owns] using h)
theorem owns_bigs : ∀ {n i : Nat} {hp : Hp}, Kp.owns (bigs hp n i) = []
  | 0, i, hp => rfl
  | n + 1, i, hp => by
    rw [bigs]; split
    · exact owns_bigs (n := n) (i := i + 1)
    · rfl
theorem owns_append : ∀ {a b : List Kp}, Kp.owns (a ++ b) = Kp.owns a ++ Kp.owns b
  | [], b => rfl
  | x :: a, b => by cases x <;> simp [Kp.owns, owns_append (a := a) (b := b)]
/-- What was handed in keeps its place. -/
theorem clean_hand {ks : List Kp} (hk : ksLt ks = true) {q : Nat} (hq : SHK ≤ q) {r : Rg} (h : (cleanGh G st (ksA ks st)).reg q = some r) : G.reg q = some r := by
  simp only [cleanGh, cleanReg] at h
  split at h
  · exact h
  · split at h
    · rename_i i hi
      exfalso
      obtain ⟨sh, this⟩ := ownI_mem hi
      have this := mem_owns this
      unfold ksA at this
      rw [owns_append, owns_bigs, List.append_nil] at this
      exact absurd (ksLt_owns hk q this) (Nat.not_lt.2 hq)
    · cases h
end Go.Ev
