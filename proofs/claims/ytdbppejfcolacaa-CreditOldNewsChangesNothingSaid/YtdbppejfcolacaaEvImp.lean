/-
  Calls that hand objects in: how the callee begins, and what the caller has behind it. No condition.
-/
import Derived.Test.YtdbppejfcolacaaEvRen
import Derived.Test.YtdbppejfcolacaaEvCall1
namespace Go.Ev
open Go
set_option linter.unusedSimpArgs false
variable {H H' : Heap} {G G' : Gh} {hp : Hp}

theorem rA_flats {ρ : Nat → Nat} {a : AV} (hw : a.wf) : (rA ρ a).flat = rAs ρ a.flat := rA_flat ρ a hw
mutual
theorem rA_hasSh (ρ : Nat → Nat) : ∀ (s : Sh) (a : AV), hasSh s (rA ρ a) = hasSh s a
  | .sc, a => by simp only [hasSh]; exact rA_scalar ρ a
  | .st fs, a => by
    simp only [hasSh, rA_isAgg]
    cases a with
    | aggR l => simp only [rA, AV.kids]; rw [rA_hasShs ρ fs l]
    | _ => rfl
  | .ar n e, a => by
    simp only [hasSh, rA_isAgg]
    cases a with
    | aggR l => simp only [rA, AV.kids, rAs_length]; rw [rA_hasShA ρ e l]
    | _ => rfl
theorem rA_hasShs (ρ : Nat → Nat) : ∀ (fs : List Sh) (l : List AV), hasShs fs (rAs ρ l) = hasShs fs l
  | [], [] => rfl
  | s :: fs, a :: l => by rw [rAs, hasShs, hasShs, rA_hasSh ρ s a, rA_hasShs ρ fs l]
  | [], _ :: _ => rfl
  | _ :: _, [] => rfl
theorem rA_hasShA (ρ : Nat → Nat) : ∀ (e : Sh) (l : List AV), (rAs ρ l).all (hasSh e) = l.all (hasSh e)
  | _, [] => rfl
  | e, a :: l => by rw [rAs, List.all_cons, List.all_cons, rA_hasSh ρ e a, rA_hasShA ρ e l]
end
theorem repC_ren {c : Array Value} {off : Nat} {l : List AV} {ρ : Nat → Nat} (h : RepC H G c off l) (himm : ∀ b, G.imm b → G'.imm b) (hyl : ∀ i l, G.yl i = some l → G'.yl i = some l)
    (hk : ∀ x ∈ l, ∀ k ∈ x.refs, G'.reg (ρ k) = G.reg k) : RepC H G' c off (rAs ρ l) := by
  intro j hj
  have hj' : j < l.length := by rw [rAs_length] at hj; exact hj
  obtain ⟨v, hv, hr⟩ := h j hj'
  refine ⟨v, hv, ?_⟩
  have e : (rAs ρ l)[j] = rA ρ l[j] := by simp [rAs_map]
  rw [e]
  exact hr.renA (fun _ => himm) hyl (hk _ (List.getElem_mem hj'))
/-- An object under another name, in the same memory. -/
theorem obOk_ren {k k' : Nat} {o : OB} {ρ : Nat → Nat} (h : ObOk H G k o) (hreg : G'.reg k' = G.reg k) (himm : ∀ b, G.imm b → G'.imm b) (hyl : ∀ i l, G.yl i = some l → G'.yl i = some l)
    (hk : ∀ j ∈ obRefs o, G'.reg (ρ j) = G.reg j) : ObOk H G' k' (rOB ρ o) := by
  cases o with
  | fix sh a =>
    obtain ⟨b, c, e, fz, h1, h2, h3, h4, h5, h6, h7⟩ := h
    refine ⟨b, c, e, fz, hreg.trans h1, h2, h3, h4, by rw [rA_hasSh]; exact h5, rA_wf ρ a h6, ?_⟩
    rw [rA_flat ρ a h6]
    exact repC_ren h7 himm hyl fun x hx j hj => hk j (flat_refs a h6 x hx j hj)
  | grow sh els =>
    rcases h with ⟨h1, h2⟩ | ⟨b, cap, c, e, fz, h1, h2, h3, h4, h5, h6, h7⟩
    · exact .inl ⟨h1, hreg.trans h2⟩
    · refine .inr ⟨b, cap, c, e, fz, hreg.trans h1, h2, h3, h4, h5, h6, fun j hj => ?_⟩
      obtain ⟨v, hv, hr⟩ := h7 j hj
      exact ⟨v, hv, hr.cut himm hyl fun q hq => by rw [plain_flats els ((AV.wfp_iff els).2 fun y hy => (h6 y hy).2) _ (List.getElem_mem hj)] at hq; cases hq⟩
  | dead => obtain ⟨r, hr⟩ := h; exact ⟨r, hreg.trans hr⟩
  | log id stop xs =>
    obtain ⟨X, l, E, hr, hy, hst, hX, hP⟩ := h
    exact ⟨X, l, E, hreg.trans hr, hyl _ _ hy, hst, hX, E.frame _ _ _ _ _ _ (fun _ _ => rfl) (fun b hb => ⟨himm b hb, rfl⟩) hP⟩

/-! ### Entering -/
theorem closedB_spec {ks : List Nat} (h : closedB hp ks = true) : ∀ k ∈ ks, hp.get k = some (getO hp k) ∧ ∀ j ∈ obRefs (getO hp k), j ∈ ks := by
  intro k hk
  unfold closedB at h
  rw [List.all_eq_true] at h
  have := h k hk
  rw [Bool.and_eq_true] at this
  cases ho : hp.get k with
  | none => rw [ho] at this; cases this.1
  | some o =>
    rw [ho] at this
    refine ⟨by unfold getO; rw [ho]; rfl, fun j hj => ?_⟩
    unfold getO at hj; rw [ho] at hj
    have h2 := this.2
    simp only [oRefs, List.all_eq_true, List.contains_iff_mem] at h2
    exact h2 j hj
theorem idx_get : ∀ {ks : List Nat} {k : Nat}, k ∈ ks → idx ks k < ks.length ∧ ks.getD (idx ks k) 0 = k
  | a :: l, k, h => by
    rw [idx]
    split
    · rename_i e; exact ⟨by simp, by simp [e]⟩
    · rename_i e
      rcases List.mem_cons.1 h with rfl | h
      · exact absurd rfl e
      · obtain ⟨h1, h2⟩ := idx_get h
        exact ⟨by simpa using h1, by simpa using h2⟩
theorem idx_nodup : ∀ {ks : List Nat}, ks.Nodup → ∀ {i : Nat}, i < ks.length → idx ks (ks.getD i 0) = i
  | a :: l, hn, 0, _ => by simp [idx]
  | a :: l, hn, i + 1, hi => by
    rw [List.nodup_cons] at hn
    have hi' : i < l.length := by simpa using hi
    have e : (a :: l).getD (i + 1) 0 = l.getD i 0 := rfl
    have hm : l.getD i 0 ∈ l := by rw [List.getD_eq_getElem?_getD, List.getElem?_eq_getElem hi']; exact List.getElem_mem hi'
    have hne : ¬ a = l.getD i 0 := fun h => hn.1 (by rw [h]; exact hm)
    rw [e, idx, if_neg hne, idx_nodup hn.2 hi']
variable {ks : List Nat}
theorem up_inj {a b : Nat} (ha : a ∈ ks) (hb : b ∈ ks) (h : up ks a = up ks b) : a = b := by
  have e : idx ks a = idx ks b := Nat.add_left_cancel h
  rw [← (idx_get ha).2, e, (idx_get hb).2]
theorem up_le (k : Nat) : SHK ≤ up ks k := Nat.le_add_right _ _
theorem up_sub (k : Nat) : up ks k - SHK = idx ks k := Nat.add_sub_cancel_left _ _
theorem upHp_get {all : List Nat} : ∀ {ks : List Nat} {q : Nat} {o : OB}, (upHp hp all ks).get q = some o → ∃ k ∈ ks, q = up all k ∧ o = rOB (up all) (getO hp k) := by
  intro ks
  induction ks with
  | nil => intro q o h; cases h
  | cons k ks ih =>
    intro q o h
    rw [upHp, Hp.get_cons] at h
    by_cases hk : up all k = q
    · simp only [hk, if_true, Option.some.injEq] at h
      exact ⟨k, by simp, hk.symm, h.symm⟩
    · simp only [hk, if_false] at h
      obtain ⟨j, hj, e⟩ := ih h
      exact ⟨j, by simp [hj], e⟩
theorem upHp_mem {all : List Nat} {k : Nat} (hk : k ∈ all) : ∀ {ks : List Nat}, (∀ j ∈ ks, j ∈ all) → k ∈ ks → (upHp hp all ks).get (up all k) = some (rOB (up all) (getO hp k)) := by
  intro ks
  induction ks with
  | nil => intro _ h; cases h
  | cons j ks ih =>
    intro ha h
    rw [upHp, Hp.get_cons]
    by_cases hj : up all j = up all k
    · rw [if_pos hj, up_inj (ha j (by simp)) hk hj]
    · rw [if_neg hj]
      rcases List.mem_cons.1 h with rfl | h
      · exact absurd rfl hj
      · exact ih (fun i hi => ha i (by simp [hi])) h
open Classical in
/-- The ghost with which a callee begins that is handed these objects. -/
noncomputable def upGh (G : Gh) (ks : List Nat) : Gh := { imm := G.imm, yl := G.yl, reg := fun q => if ∃ k ∈ ks, q = up ks k then G.reg (ks.getD (q - SHK) 0) else none }
theorem upGh_reg {k : Nat} (h : k ∈ ks) : (upGh G ks).reg (up ks k) = G.reg k := by
  simp only [upGh]
  rw [if_pos ⟨k, h, rfl⟩, up_sub, (idx_get h).2]
theorem upGh_some {q : Nat} {r : Rg} (h : (upGh G ks).reg q = some r) : ∃ k ∈ ks, q = up ks k ∧ G.reg k = some r := by
  simp only [upGh] at h
  split at h
  · rename_i hk
    obtain ⟨k, hk, e⟩ := hk
    refine ⟨k, hk, e, ?_⟩
    rw [e, up_sub, (idx_get hk).2] at h; exact h
  · cases h
theorem upGh_at {q b : Nat} {r : Sh} (h : (upGh G ks).At q b r) : ∃ k ∈ ks, q = up ks k ∧ G.At k b r := by
  obtain ⟨x, hx, hat⟩ := h
  obtain ⟨k, hk, e, h⟩ := upGh_some hx
  exact ⟨k, hk, e, x, h, hat⟩
theorem rOB_dead {ρ : Nat → Nat} {o : OB} (h : rOB ρ o ≠ .dead) : o ≠ .dead := fun e => h (by rw [e]; rfl)
theorem up_live (hc : closedB hp ks = true) {b : Nat} (h : Live (upGh G ks) (upHp hp ks ks) b) : ∃ k ∈ ks, liveOb hp k ∧ ∃ r, G.At k b r := by
  obtain ⟨q, r, ⟨o, ho, hd⟩, hr⟩ := h
  obtain ⟨k, hk, rfl, rfl⟩ := upHp_get ho
  rw [Gh.at_congr (upGh_reg hk)] at hr
  exact ⟨k, hk, ⟨_, (closedB_spec hc k hk).1, rOB_dead hd⟩, r, hr⟩
theorem up_inv (inv : Inv H G hp) (hc : closedB hp ks = true) : Inv H (upGh G ks) (upHp hp ks ks) where
  obs q o h := by
    obtain ⟨k, hk, rfl, rfl⟩ := upHp_get h
    have ⟨h1, h2⟩ := closedB_spec hc k hk
    exact obOk_ren (inv.obs k _ h1) (upGh_reg hk) (fun _ h => h) (fun _ _ h => h) fun j hj => upGh_reg (h2 j hj)
  out q h := by
    cases hr : (upGh G ks).reg q with
    | none => rfl
    | some r =>
      obtain ⟨k, hk, rfl, _⟩ := upGh_some hr
      rw [upHp_mem hk (fun _ h => h) hk] at h; cases h
  dist q q' b r r' h h' hl hl' := by
    obtain ⟨k, hk, rfl, h1⟩ := upGh_at h
    obtain ⟨k', hk', rfl, h1'⟩ := upGh_at h'
    have live : ∀ k ∈ ks, liveOb (upHp hp ks ks) (up ks k) → liveOb hp k := by
      rintro k hk ⟨o, ho, hd⟩
      rw [upHp_mem hk (fun _ h => h) hk] at ho; cases ho
      exact ⟨_, (closedB_spec hc k hk).1, rOB_dead hd⟩
    rw [inv.dist k k' b r r' h1 h1' (live k hk hl) (live k' hk' hl')]
  imm b hb := ⟨(inv.imm b hb).1, fun hl => by
    obtain ⟨k, _, h1, r, h2⟩ := up_live hc hl
    exact (inv.imm b hb).2 ⟨k, r, h1, h2⟩⟩
  lt b hb := by
    obtain ⟨k, _, h1, r, h2⟩ := up_live hc hb
    exact inv.lt b ⟨k, r, h1, h2⟩
theorem up_rep {v : Value} {x : AV} (h : RepV H G v x) (hk : ∀ k ∈ x.refs, k ∈ ks) : RepV H (upGh G ks) v (rA (up ks) x) :=
  h.renA (.inr fun _ h => h) (fun _ _ h => h) fun k hk' => upGh_reg (hk k hk')

/-! ### Coming back -/
/-- How a caller sees what a callee has made of what it was handed. -/
noncomputable def backGh (ks : List Nat) (G G' : Gh) (d m : Nat) : Gh :=
  { imm := G'.imm
    yl := G'.yl
    reg := fun k => if k ∈ ks then G'.reg (up ks k) else match G.reg k with
      | some r => some r
      | none => if d ≤ k ∧ (k - d) % 1000 = 0 ∧ (k - d) / 1000 < m then G'.reg (20000 + (k - d) / 1000) else none }
theorem backGh_new {d m i : Nat} (hk : d + 1000 * i ∉ ks) (h : G.reg (d + 1000 * i) = none) (hi : i < m) : (backGh ks G G' d m).reg (d + 1000 * i) = G'.reg (20000 + i) := by
  simp only [backGh, h, hk, if_false]
  have e : d + 1000 * i - d = 1000 * i := by omega
  rw [e, if_pos ⟨by omega, by omega, by omega⟩]
  congr 1
  omega
theorem backGh_old {d m k : Nat} {r : Rg} (hk : k ∉ ks) (h : G.reg k = some r) : (backGh ks G G' d m).reg k = some r := by simp [backGh, h, hk]
theorem backGh_in {d m k : Nat} (hk : k ∈ ks) : (backGh ks G G' d m).reg k = G'.reg (up ks k) := by simp [backGh, hk]
theorem layG_get {d : Nat} : ∀ {es : List OB} {j : Nat} {us : Hp}, layG hp ks d j es = some us → (∀ k o, us.get k = some o ↔ ∃ i, ∃ h : i < es.length, k = d + 1000 * (j + i) ∧ rOB (dn ks d) es[i] = o) ∧
    ∀ i, i < es.length → d + 1000 * (j + i) < SHK
  | [], j, us, h => by
    simp only [layG, Option.some.injEq] at h
    subst h
    exact ⟨fun k o => by simp [Hp.get], fun i hi => by simp at hi⟩
  | e :: es, j, us, h => by
    simp only [layG] at h
    rw [Option.ite_none_right_eq_some, Bool.and_eq_true, decide_eq_true_eq] at h
    obtain ⟨⟨_, hlt⟩, h⟩ := h
    simp only [Option.map_eq_some_iff] at h
    obtain ⟨r, hr, rfl⟩ := h
    obtain ⟨g1, g2⟩ := layG_get hr
    refine ⟨fun k o => ?_, fun i hi => ?_⟩
    · rw [Hp.get_cons]
      by_cases hk : d + 1000 * j = k
      · simp only [hk, if_true, Option.some.injEq]
        constructor
        · intro he; exact ⟨0, by simp, by omega, he⟩
        · rintro ⟨i, hi, hk', he⟩
          have : i = 0 := by omega
          subst this; exact he
      · simp only [hk, if_false]
        rw [g1]
        constructor
        · rintro ⟨i, hi, hk', he⟩; exact ⟨i + 1, by simpa using hi, by omega, by simpa using he⟩
        · rintro ⟨i, hi, hk', he⟩
          cases i with
          | zero => exact absurd (by omega) hk
          | succ i => exact ⟨i, by simpa using hi, by omega, by simpa using he⟩
    · cases i with
      | zero => simpa using hlt
      | succ i => have := g2 i (by simpa using hi); omega
theorem sameKeys_mem : ∀ {hp' : Hp} {i n : Nat}, sameKeys hp' i n = true → ∀ q, (∃ o, hp'.get q = some o) ↔ ∃ j, j < n ∧ q = SHK + (i + j)
  | [], i, 0, _, q => by simp [Hp.get]
  | (p, o) :: r, i, n + 1, h, q => by
    simp only [sameKeys, Bool.and_eq_true, decide_eq_true_eq] at h
    obtain ⟨e, h⟩ := h
    rw [Hp.get_cons]
    by_cases hk : p = q
    · rw [if_pos hk]; exact ⟨fun _ => ⟨0, by omega, by rw [← hk, e]; rfl⟩, fun _ => ⟨o, rfl⟩⟩
    · rw [if_neg hk, sameKeys_mem h q]
      constructor
      · rintro ⟨j, hj, e'⟩; exact ⟨j + 1, by omega, by rw [e']; omega⟩
      · rintro ⟨j, hj, e'⟩
        cases j with
        | zero => exact absurd (e.trans e'.symm) hk
        | succ j => exact ⟨j, by omega, by rw [e']; omega⟩
  | [], _, _ + 1, h, _ => by simp [sameKeys] at h
  | _ :: _, _, 0, h, _ => by simp [sameKeys] at h
theorem sameKeys_up {hp' : Hp} (h : sameKeys hp' 0 ks.length = true) (hn : ks.Nodup) (q : Nat) : (∃ o, hp'.get q = some o) ↔ ∃ k ∈ ks, q = up ks k := by
  rw [sameKeys_mem h]
  constructor
  · rintro ⟨j, hj, e⟩
    refine ⟨ks.getD j 0, ?_, ?_⟩
    · rw [List.getD_eq_getElem?_getD, List.getElem?_eq_getElem hj]; exact List.getElem_mem hj
    · unfold up; rw [idx_nodup hn hj, e, Nat.zero_add]
  · rintro ⟨k, hk, e⟩; exact ⟨idx ks k, (idx_get hk).1, by rw [e, Nat.zero_add]; rfl⟩
theorem backHp_go {d : Nat} (hn : ks.Nodup) : ∀ {hp' : Hp} {i n : Nat}, sameKeys hp' i n = true → i + n = ks.length → ∀ k, k ∈ ks → i ≤ idx ks k → (backHp ks d hp').get k = (hp'.get (up ks k)).map (rOB (dn ks d))
  | [], i, 0, _, hl, k, hk, hi => rfl
  | (q, o) :: r, i, n + 1, h, hl, k, hk, hi => by
    simp only [sameKeys, Bool.and_eq_true, decide_eq_true_eq] at h
    obtain ⟨e, h⟩ := h
    have eq : q - SHK = i := by rw [e]; exact Nat.add_sub_cancel_left _ _
    rw [backHp, Hp.get_cons, Hp.get_cons, eq]
    by_cases hki : idx ks k = i
    · rw [if_pos (by rw [← hki]; exact (idx_get hk).2), if_pos (by rw [e, ← hki]; rfl)]; rfl
    · rw [if_neg fun e' => hki (by rw [← e']; exact idx_nodup hn (by omega)), if_neg fun e' => hki (by have := e.symm.trans e'; exact (Nat.add_left_cancel this).symm)]
      exact backHp_go hn h (by omega) k hk (by omega)
  | [], _, _ + 1, h, _, _, _, _ => by simp [sameKeys] at h
  | _ :: _, _, 0, h, _, _, _, _ => by simp [sameKeys] at h
theorem backHp_get {d : Nat} {hp' : Hp} (h : sameKeys hp' 0 ks.length = true) (hn : ks.Nodup) {k : Nat} (hk : k ∈ ks) : (backHp ks d hp').get k = (hp'.get (up ks k)).map (rOB (dn ks d)) :=
  backHp_go hn h (by omega) k hk (Nat.zero_le _)
theorem backHp_none {d : Nat} {hp' : Hp} (h : sameKeys hp' 0 ks.length = true) {k : Nat} (hk : k ∉ ks) : (backHp ks d hp').get k = none := by
  refine Hp.get_none fun o ho => ?_
  obtain ⟨q, o', h1, h2, _⟩ := backHp_mem ho
  obtain ⟨j, hj, e⟩ := sameKeys_get h q o' h1
  have e3 : q - SHK = j := by rw [e, Nat.zero_add]; exact Nat.add_sub_cancel_left SHK j
  rw [e3, List.getD_eq_getElem?_getD, List.getElem?_eq_getElem hj] at h2
  exact hk (by rw [h2]; exact List.getElem_mem hj)
theorem dn_up {d k : Nat} (h : k ∈ ks) : dn ks d (up ks k) = k := by unfold dn; rw [if_pos (up_le k), up_sub, (idx_get h).2]
theorem dn_new {d i : Nat} (h : 20000 + i < SHK) : dn ks d (20000 + i) = d + 1000 * i := by
  unfold dn
  rw [if_neg (by omega), show 20000 + i - 20000 = i by omega]
theorem hpNew_get' {es : List OB} {k : Nat} {o : OB} : (hpNew 0 es).get k = some o ↔ ∃ i, ∃ h : i < es.length, k = 20000 + i ∧ es[i] = o := by
  rw [hpNew_get]
  constructor
  · rintro ⟨i, hi, hk, he⟩; exact ⟨i, hi, by omega, he⟩
  · rintro ⟨i, hi, hk, he⟩; exact ⟨i, hi, by omega, he⟩
theorem after_imp (inv : Inv H G hp) (hn : ks.Nodup) (hc : closedB hp ks = true) {d : Nat} {hp' us' : Hp} {es : List OB} {v : Value} {r : AV}
    (m : Move H (upGh G ks) (upHp hp ks ks) H' G' (hp' ++ hpNew 0 es)) (hand : ks ≠ [] → ∀ q, SHK ≤ q → ∀ r, G'.reg q = some r → ∃ r0, (upGh G ks).reg q = some r0 ∧ r0.le r) (hs : sameKeys hp' 0 ks.length = true)
    (hl : layG hp ks d 0 es = some us') (hv : RepT H' G' v r) : ∃ G2, Step H G hp H' G2 ((backHp ks d hp' ++ us') ++ hp) ∧ RepT H' G2 v (rA (dn ks d) r) := by
  obtain ⟨hget, hlt⟩ := layG_get hl
  simp only [Nat.zero_add] at hget hlt
  have hfresh := (layG_frame (hp' := hp) hl fun _ _ _ h => h).2
  have hnone : ∀ i, i < es.length → hp.get (d + 1000 * i) = none := fun i hi => hfresh _ _ (Hp.get_mem ((hget (d + 1000 * i) _).2 ⟨i, hi, rfl, rfl⟩))
  have hregn : ∀ i, i < es.length → G.reg (d + 1000 * i) = none := fun i hi => inv.out _ (hnone i hi)
  have hnk : ∀ i, i < es.length → d + 1000 * i ∉ ks := fun i hi hk => by have := (closedB_spec hc _ hk).1; rw [hnone i hi] at this; cases this
  have h20 : ∀ i, i < es.length → 20000 + i < SHK := fun i hi => by
    have := hlt i hi
    unfold SHK at *
    omega
  -- the callee's keys
  have hkey : ∀ q o, (hp' ++ hpNew 0 es).get q = some o → (∃ k ∈ ks, q = up ks k ∧ hp'.get (up ks k) = some o) ∨ (∃ i, ∃ h : i < es.length, q = 20000 + i ∧ es[i] = o ∧ hp'.get q = none) := fun q o h => by
    rw [Hp.get_append] at h
    cases h1 : hp'.get q with
    | some o' =>
      rw [h1] at h
      obtain ⟨k, hk, e⟩ := (sameKeys_up hs hn q).1 ⟨o', h1⟩
      exact .inl ⟨k, hk, e, by rw [← e, h1, ← h]⟩
    | none =>
      rw [h1] at h
      obtain ⟨i, hi, e, e2⟩ := hpNew_get'.1 h
      exact .inr ⟨i, hi, e, e2, rfl⟩
  let G2 := backGh ks G G' d es.length
  have hreg : ∀ q, (∃ r, G'.reg q = some r) → G2.reg (dn ks d q) = G'.reg q := by
    rintro q ⟨rr, hr⟩
    obtain ⟨o, ho⟩ := m.inv.reg_get hr
    rcases hkey q o ho with ⟨k, hk, rfl, _⟩ | ⟨i, hi, rfl, _, _⟩
    · rw [dn_up hk]
      exact backGh_in hk
    · rw [dn_new (h20 i hi)]
      exact backGh_new (hnk i hi) (hregn i hi) hi
  have hobref : ∀ q o, (hp' ++ hpNew 0 es).get q = some o → ∀ j ∈ obRefs o, G2.reg (dn ks d j) = G'.reg j := fun q o ho j hj => by
    cases o with
    | fix sh a => exact hreg j (m.inv.fix_refs ho j hj)
    | grow sh els => cases hj
    | dead => cases hj
    | log _ _ _ => cases hj
  have hle : Le H G H' G2 := ⟨fun b hb => m.imm b hb, fun k rr h => by
    by_cases hk : k ∈ ks
    · obtain ⟨o, ho⟩ := (sameKeys_up hs hn (up ks k)).2 ⟨k, hk, rfl⟩
      obtain ⟨r1, hr1⟩ := m.inv.get_reg (show (hp' ++ hpNew 0 es).get (up ks k) = some o by rw [Hp.get_append, ho])
      obtain ⟨r0, h0, hle⟩ := hand (fun e => by rw [e] at hk; cases hk) _ (up_le k) r1 hr1
      rw [upGh_reg hk, h] at h0
      cases h0
      exact ⟨r1, (backGh_in hk).trans hr1, hle⟩
    · exact ⟨rr, backGh_old hk h, Rg.le_refl rr⟩, fun i l h => m.yl i l h⟩
  have hcase : ∀ k o, ((backHp ks d hp' ++ us') ++ hp).get k = some o → (k ∈ ks ∧ ∃ o', hp'.get (up ks k) = some o' ∧ o = rOB (dn ks d) o') ∨ (∃ i, ∃ h : i < es.length, k = d + 1000 * i ∧ rOB (dn ks d) es[i] = o ∧ hp'.get (20000 + i) = none) ∨ (k ∉ ks ∧ hp.get k = some o) := fun k o h => by
    rw [Hp.get_append, Hp.get_append] at h
    by_cases hkk : k ∈ ks
    · rw [backHp_get hs hn hkk] at h
      obtain ⟨o', ho'⟩ := (sameKeys_up hs hn (up ks k)).2 ⟨k, hkk, rfl⟩
      rw [ho'] at h
      exact .inl ⟨hkk, o', ho', by simpa using h.symm⟩
    · rw [backHp_none hs hkk] at h
      have hnk := hkk
      cases h2 : us'.get k with
      | some o' =>
        rw [h2] at h
        obtain ⟨i, hi, e, e2⟩ := (hget k o').1 h2
        refine .inr (.inl ⟨i, hi, e, by rw [e2]; simpa using h, ?_⟩)
        cases h3 : hp'.get (20000 + i) with
        | none => rfl
        | some o3 =>
          obtain ⟨k3, _, e3⟩ := (sameKeys_up hs hn (20000 + i)).1 ⟨o3, h3⟩
          have := up_le (ks := ks) k3
          have := h20 i hi
          omega
      | none => rw [h2] at h; exact .inr (.inr ⟨hnk, h⟩)
  have hin : ∀ q o, hp'.get q = some o → (hp' ++ hpNew 0 es).get q = some o := fun q o h => by rw [Hp.get_append, h]
  have hin2 : ∀ i (h : i < es.length), hp'.get (20000 + i) = none → (hp' ++ hpNew 0 es).get (20000 + i) = some es[i] := fun i h hn => by
    rw [Hp.get_append, hn]; exact hpNew_get'.2 ⟨i, h, rfl, rfl⟩
  have hregk : ∀ q o, (hp' ++ hpNew 0 es).get q = some o → ∃ r, G'.reg q = some r := fun q o ho => by
    have := m.inv.obs q o ho
    cases o with
    | fix sh a => obtain ⟨b, _, _, _, h, _⟩ := this; exact ⟨_, h⟩
    | grow sh els =>
      rcases this with ⟨_, h⟩ | ⟨_, _, _, _, _, h, _⟩
      · exact ⟨_, h⟩
      · exact ⟨_, h⟩
    | dead => obtain ⟨r, h⟩ := this; exact ⟨_, h⟩
    | log _ _ _ => obtain ⟨_, _, _, h, _⟩ := this; exact ⟨_, h⟩
  -- what lives
  have hlcase : ∀ k b rr, liveOb ((backHp ks d hp' ++ us') ++ hp) k → G2.At k b rr → (∃ q, k = dn ks d q ∧ liveOb (hp' ++ hpNew 0 es) q ∧ G'.At q b rr) ∨ (k ∉ ks ∧ liveOb hp k ∧ G.At k b rr) := by
    rintro k b rr ⟨o, ho, hd⟩ hr
    rcases hcase k o ho with ⟨hk, o', ho', rfl⟩ | ⟨i, hi, rfl, rfl, hn⟩ | ⟨hk, ho⟩
    · left
      refine ⟨up ks k, (dn_up hk).symm, ⟨o', hin _ _ ho', rOB_dead hd⟩, ?_⟩
      refine (Gh.at_congr (G' := G2) (k' := k) ?_).2 hr
      rw [← hreg (up ks k) (hregk _ _ (hin _ _ ho')), dn_up hk]
    · left
      refine ⟨20000 + i, (dn_new (h20 i hi)).symm, ⟨es[i], hin2 i hi hn, rOB_dead hd⟩, ?_⟩
      refine (Gh.at_congr (G' := G2) (k' := d + 1000 * i) ?_).2 hr
      rw [← hreg _ (hregk _ _ (hin2 i hi hn)), dn_new (h20 i hi)]
    · right
      refine ⟨hk, ⟨o, ho, hd⟩, ?_⟩
      have := inv.obs k o ho
      have hex : ∃ r, G.reg k = some r := by
        cases o with
        | fix sh a => obtain ⟨b, _, _, _, h, _⟩ := this; exact ⟨_, h⟩
        | grow sh els =>
          rcases this with ⟨_, h⟩ | ⟨_, _, _, _, _, h, _⟩
          · exact ⟨_, h⟩
          · exact ⟨_, h⟩
        | dead => obtain ⟨r, h⟩ := this; exact ⟨_, h⟩
        | log _ _ _ => obtain ⟨_, _, _, h, _⟩ := this; exact ⟨_, h⟩
      obtain ⟨r', hr'⟩ := hex
      exact (Gh.at_congr (hr'.trans (show G2.reg k = some r' from backGh_old hk hr').symm)).2 hr
  have hfar : ∀ k b rr, k ∉ ks → liveOb hp k → G.At k b rr → ¬ Live (upGh G ks) (upHp hp ks ks) b ∧ b < H.size := fun k b rr hk hl hr => by
    refine ⟨fun h => ?_, inv.lt b ⟨k, rr, hl, hr⟩⟩
    obtain ⟨k0, hk0, hl0, r0, hr0⟩ := up_live hc h
    rw [inv.dist k k0 b rr r0 hr hr0 hl hl0] at hk
    exact hk hk0
  have hupL : ∀ b, Live (upGh G ks) (upHp hp ks ks) b → Live G hp b := fun b h => by
    obtain ⟨k, _, h1, r, h2⟩ := up_live hc h
    exact ⟨k, r, h1, h2⟩
  have hL : ∀ b, Live G2 ((backHp ks d hp' ++ us') ++ hp) b → Live G hp b ∨ H.size ≤ b := by
    rintro b ⟨k, rr, hl, hr⟩
    rcases hlcase k b rr hl hr with ⟨q, _, h1, h2⟩ | ⟨_, h1, h2⟩
    · exact (m.live b ⟨q, rr, h1, h2⟩).imp (hupL b) id
    · exact .inl ⟨k, rr, h1, h2⟩
  refine ⟨G2, ⟨⟨?_, ?_, ?_, ?_, ?_⟩, hle, m.size, fun b hb hn => m.same b hb fun h => hn (hupL b h), hL, fun b hb => ?_⟩, ?_⟩
  · intro k o hk
    rcases hcase k o hk with ⟨hkm, o', ho', rfl⟩ | ⟨i, hi, rfl, rfl, hn⟩ | ⟨hk, ho⟩
    · refine obOk_ren (m.inv.obs _ _ (hin _ _ ho')) ?_ (fun _ h => h) (fun _ _ h => h) (hobref _ _ (hin _ _ ho'))
      rw [← hreg (up ks k) (hregk _ _ (hin _ _ ho')), dn_up hkm]
    · refine obOk_ren (m.inv.obs _ _ (hin2 i hi hn)) ?_ (fun _ h => h) (fun _ _ h => h) (hobref _ _ (hin2 i hi hn))
      rw [← hreg _ (hregk _ _ (hin2 i hi hn)), dn_new (h20 i hi)]
    · refine ObOk.mono hle (fun hl b rr hr => ?_) (fun _ h => backGh_old hk h) ho (inv.obs k o ho)
      obtain ⟨h1, h2⟩ := hfar k b rr hk hl hr
      exact m.same b h2 h1
  · intro k hk
    rw [Hp.get_append, Hp.get_append] at hk
    have h1 : hp.get k = none := by
      cases h : hp.get k with
      | none => rfl
      | some o => rw [h] at hk; cases h2 : (backHp ks d hp').get k <;> rw [h2] at hk <;> first | (cases h3 : us'.get k <;> rw [h3] at hk <;> cases hk; done) | cases hk
    have h2 : us'.get k = none := by
      cases h : us'.get k with
      | none => rfl
      | some o => rw [h] at hk; cases h2 : (backHp ks d hp').get k <;> rw [h2] at hk <;> cases hk
    have h3 := inv.out k h1
    have hkk : k ∉ ks := fun hk => by have := (closedB_spec hc _ hk).1; rw [h1] at this; cases this
    simp only [G2, backGh, h3, hkk, if_false]
    rw [if_neg]
    rintro ⟨h4, h5, h6⟩
    have hk' : k = d + 1000 * ((k - d) / 1000) := by omega
    have := (hget k _).2 ⟨(k - d) / 1000, h6, hk', rfl⟩
    rw [h2] at this; cases this
  · intro k k' b rr rr' hr hr' hl hl'
    rcases hlcase k b rr hl hr with ⟨q, e, h1, h2⟩ | ⟨hk, h1, h2⟩
    · rcases hlcase k' b rr' hl' hr' with ⟨q', e', h1', h2'⟩ | ⟨hk', h1', h2'⟩
      · rw [e, e', m.inv.dist q q' b rr rr' h2 h2' h1 h1']
      · obtain ⟨g1, g2⟩ := hfar k' b rr' hk' h1' h2'
        rcases m.live b ⟨q, rr, h1, h2⟩ with h | h
        · exact absurd h g1
        · omega
    · rcases hlcase k' b rr' hl' hr' with ⟨q', e', h1', h2'⟩ | ⟨hk', h1', h2'⟩
      · obtain ⟨g1, g2⟩ := hfar k b rr hk h1 h2
        rcases m.live b ⟨q', rr', h1', h2'⟩ with h | h
        · exact absurd h g1
        · omega
      · exact inv.dist k k' b rr rr' h2 h2' h1 h1'
  · intro b hb
    refine ⟨(m.inv.imm b hb).1, ?_⟩
    rintro ⟨k, rr, hl, hr⟩
    rcases hlcase k b rr hl hr with ⟨q, _, h1, h2⟩ | ⟨hk, h1, h2⟩
    · exact (m.inv.imm b hb).2 ⟨q, rr, h1, h2⟩
    · obtain ⟨g1, g2⟩ := hfar k b rr hk h1 h2
      rcases m.immNew b hb with h | h | h
      · exact (inv.imm b h).2 ⟨k, rr, h1, h2⟩
      · omega
      · exact g1 h
  · rintro b ⟨k, rr, hl, hr⟩
    rcases hlcase k b rr hl hr with ⟨q, _, h1, h2⟩ | ⟨hk, h1, h2⟩
    · exact m.inv.lt b ⟨q, rr, h1, h2⟩
    · exact Nat.lt_of_lt_of_le (inv.lt b ⟨k, rr, h1, h2⟩) m.size
  · rcases m.immNew b hb with h | h | h
    · exact .inl h
    · exact .inr (.inl h)
    · exact .inr (.inr (hupL b h))
  · exact hv.renA (.inr fun _ h => h) (fun _ _ h => h) fun k hk => hreg k (hv.known_refs k hk)
end Go.Ev
