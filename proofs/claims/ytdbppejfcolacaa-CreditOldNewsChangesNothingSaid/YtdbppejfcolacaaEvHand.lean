/-
  Nothing is made at the keys of what was handed in. No condition.
-/
import Derived.Test.YtdbppejfcolacaaEvReg5
import Derived.Test.YtdbppejfcolacaaEvClean
namespace Go.Ev
open Go
set_option linter.unusedSimpArgs false
set_option linter.unusedVariables false
variable {gl : Gl} {cl : Cl} {st st' : St} {d : Option Nat} {m : MOp} {v : AV} {us : Hp}

theorem layNew_lt {hp : Hp} {d : Nat} : ∀ {l : List OB} {j : Nat} {us : Hp}, layNew hp d j l = some us → ∀ k o, (k, o) ∈ us → k < SHK
  | [], j, us, h => by simp only [layNew, Option.some.injEq] at h; subst h; intro k o hk; cases hk
  | .grow sh els :: l, j, us, h => by
    simp only [layNew] at h
    rw [Option.ite_none_right_eq_some, Bool.and_eq_true, decide_eq_true_eq] at h
    obtain ⟨⟨_, h1⟩, h⟩ := h
    simp only [Option.map_eq_some_iff] at h
    obtain ⟨r, hr, rfl⟩ := h
    intro k o hk
    rcases List.mem_cons.1 hk with hk | hk
    · rw [(Prod.mk.inj hk).1]; exact h1
    · exact layNew_lt hr k o hk
  | .fix _ _ :: _, _, _, h => by simp [layNew] at h
  | .dead :: _, _, _, h => by simp [layNew] at h
  | .log _ _ _ :: _, _, _, h => by simp [layNew] at h
theorem layG_lt {hp : Hp} {ks : List Nat} {d : Nat} : ∀ {l : List OB} {j : Nat} {us : Hp}, layG hp ks d j l = some us → ∀ k o, (k, o) ∈ us → k < SHK
  | [], j, us, h => by simp only [layG, Option.some.injEq] at h; subst h; intro k o hk; cases hk
  | e :: l, j, us, h => by
    simp only [layG] at h
    rw [Option.ite_none_right_eq_some, Bool.and_eq_true, decide_eq_true_eq] at h
    obtain ⟨⟨_, h1⟩, h⟩ := h
    simp only [Option.map_eq_some_iff] at h
    obtain ⟨r, hr, rfl⟩ := h
    intro k o hk
    rcases List.mem_cons.1 hk with hk | hk
    · rw [(Prod.mk.inj hk).1]; exact h1
    · exact layG_lt hr k o hk
theorem doCall_new {hp : Hp} {d f : Nat} {args : List AV} {m : Mode} (h : doCall cl hp d f args m = some (v, us)) : ∀ k o, (k, o) ∈ us → hp.get k ≠ none ∨ k < SHK := by
  cases m with
  | imp =>
    obtain ⟨⟨h1, h2, h4, h3⟩, r, hp2, es, us', h5, h6, h7, rfl, rfl⟩ := impCall_spec h
    intro k o hk
    rcases List.mem_append.1 hk with hk | hk
    · have ⟨q, o', hq, e1, _⟩ := backHp_mem hk
      have ⟨j, hj, e2⟩ := sameKeys_get h6 q o' hq
      have e3 : q - SHK = j := by rw [e2, Nat.zero_add]; exact Nat.add_sub_cancel_left SHK j
      have hk' : k ∈ reaches hp (AV.refss args) := by
        rw [e1, e3, List.getD_eq_getElem?_getD, List.getElem?_eq_getElem hj]
        exact List.getElem_mem hj
      unfold closedB at h1
      rw [List.all_eq_true] at h1
      have := h1 k hk'
      rw [Bool.and_eq_true] at this
      left
      intro he
      rw [he] at this; cases this.1
    · exact .inr (layG_lt h7 k o hk)
  | lend =>
    obtain ⟨as, r, es, has, hr, hc, hres⟩ := doCall_lend h
    rcases hres with ⟨_, _, rfl⟩ | ⟨_, h2⟩
    · intro k o hk; cases hk
    · exact fun k o hk => .inr (layNew_lt h2 k o hk)
theorem stepOp_new (hd : ltO d = true) (h : stepOp gl cl st d m = some (v, us)) : ∀ k o, (k, o) ∈ us → st.hp.get k ≠ none ∨ k < SHK := by
  have nil : ∀ {a : AV} {b : AV} {us : Hp}, (a, ([] : Hp)) = (b, us) → ∀ k o, (k, o) ∈ us → st.hp.get k ≠ none ∨ k < SHK := by
    intro a b us h k o hk; cases h; cases hk
  have one : ∀ {k : Nat} {o : OB}, st.hp.get k ≠ none ∨ k < SHK → ∀ k' o', (k', o') ∈ ([(k, o)] : Hp) → st.hp.get k' ≠ none ∨ k' < SHK := by
    intro k o h k' o' hk; simp only [List.mem_singleton, Prod.mk.injEq] at hk; rw [hk.1]; exact h
  have lt : ∀ {k : Nat}, ltO (some k) = true → k < SHK := fun h => of_decide_eq_true h
  cases m with
  | alloc sh z =>
    simp only [stepOp] at h
    split at h
    · split at h
      · cases h; exact one (.inr (lt hd))
      · cases h
    · cases h
  | box sh x =>
    simp only [stepOp] at h
    split at h
    · split at h
      · cases h; exact one (.inr (lt hd))
      · cases h
    · cases h
  | bslice sh z n ps =>
    simp only [stepOp] at h
    split at h
    · split at h
      · simp only [Option.bind_eq_some_iff] at h
        obtain ⟨l, hl, h⟩ := h
        split at h
        · cases h; exact one (.inr (lt hd))
        · cases h
      · cases h
    · cases h
  | s2b x =>
    simp only [stepOp] at h
    split at h
    · split at h
      · cases h; exact one (.inr (lt hd))
      · cases h
    · cases h
  | mkslice sh z b l c =>
    simp only [stepOp] at h
    split at h
    · split at h
      · cases h; exact one (.inr (lt hd))
      · cases h
    · cases h
  | store n p x =>
    simp only [stepOp] at h
    split at h
    · rename_i k q hp
      split at h
      · rename_i hk
        split at h
        · split at h
          · simp only [Option.map_eq_some_iff, Prod.mk.injEq] at h
            obtain ⟨a', _, _, rfl⟩ := h
            exact one (.inl (by simp [hk]))
          · cases h
        · cases h
      · rename_i hk
        split at h
        · split at h
          · simp only [Option.map_eq_some_iff, Prod.mk.injEq] at h
            obtain ⟨a', _, _, rfl⟩ := h
            exact one (.inl (by simp [hk]))
          · cases h
        · cases h
      · cases h
    · cases h
  | idc x =>
    simp only [stepOp] at h
    split at h
    · rename_i k p o l hx
      split at h
      · rename_i hk; cases h; exact one (.inl (by simp [hk]))
      · cases h
    · cases h
  | append sh b x y =>
    rw [stepOp_append] at h
    split at h
    · split at h
      · split at h
        · split at h
          · cases h; exact one (.inr (lt hd))
          · cases h
        · split at h
          · rename_i hk
            split at h
            · cases h
              intro k' o' hm
              rcases List.mem_cons.1 hm with hm | hm
              · rw [(Prod.mk.inj hm).1]; exact .inl (by simp [hk])
              · exact one (.inr (lt hd)) k' o' hm
            · split at h
              · cases h
                intro k' o' hm
                rcases List.mem_cons.1 hm with hm | hm
                · rw [(Prod.mk.inj hm).1]; exact .inr (lt hd)
                · exact one (.inl (by simp [hk])) k' o' hm
              · cases h
          · cases h
        · cases h
      · cases h
    · cases h
  | copy sh x y =>
    rw [stepOp_copy] at h
    split at h
    · split at h
      · dsimp only at h
        split at h
        · split at h
          · cases h; exact one (.inl (by simp [*]))
          · cases h
        · split at h
          · split at h
            · simp only [Option.map_eq_some_iff, Prod.mk.injEq] at h
              obtain ⟨a', _, _, rfl⟩ := h
              exact one (.inl (by simp [*]))
            · cases h
          · cases h
        · cases h
      · cases h
    · obtain ⟨k, o, rfl, _, hk⟩ := copyExt_keys h
      exact one (.inl hk)
    · cases h
  | clear sh z x =>
    simp only [stepOp] at h
    split at h
    · split at h
      · rename_i hk
        split at h
        · cases h; exact one (.inl (by simp [hk]))
        · cases h
      · cases h
    · cases h
  | appmk sh z b x y =>
    simp only [stepOp] at h
    split at h
    · split at h
      · cases h; exact one (.inr (lt hd))
      · cases h
    · cases h
  | call f l md =>
    simp only [stepOp] at h
    split at h
    · exact doCall_new h
    · cases h
  | callv f l md =>
    simp only [stepOp] at h
    split at h
    · exact doCall_new h
    · cases h
  | mov x => simp only [stepOp, Option.some.injEq] at h; exact nil h
  | bin o x y => simp only [stepOp, Option.map_eq_some_iff] at h; obtain ⟨r, _, h⟩ := h; exact nil h
  | binB o x y => simp only [stepOp, Option.map_eq_some_iff] at h; obtain ⟨r, _, h⟩ := h; exact nil h
  | _ =>
    simp only [stepOp] at h
    repeat' (first | (cases h; done) | (simp only [Option.some.injEq] at h; exact nil h) | (simp only [Option.map_eq_some_iff] at h; obtain ⟨r, _, h⟩ := h; exact nil h) | split at h | (simp only [Option.bind_eq_some_iff] at h; obtain ⟨r, _, h⟩ := h))

theorem upd_new {fr : Fr} (h : ∀ k o, (k, o) ∈ us → st.hp.get k ≠ none ∨ k < SHK) {q : Nat} (hq : SHK ≤ q) (hn : Hp.get (us ++ st.hp) q ≠ none) : st.hp.get q ≠ none := by
  rw [Hp.get_append] at hn
  cases hu : Hp.get us q with
  | none => rw [hu] at hn; exact hn
  | some o =>
    rcases h q o (Hp.get_mem hu) with h | h
    · exact h
    · exact absurd h (Nat.not_lt.2 hq)
theorem its_new : ∀ {its : Its} {st st' : St}, itsLt its = true → evIts gl cl its st = some st' → ∀ q, SHK ≤ q → st'.hp.get q ≠ none → st.hp.get q ≠ none
  | .nil, st, st', _, h, q, _, hn => by simp only [evIts, Option.some.injEq] at h; rw [h]; exact hn
  | .op d m r, st, st', hl, h, q, hq, hn => by
    simp only [itsLt, Bool.and_eq_true] at hl
    simp only [evIts, Option.bind_eq_some_iff] at h
    obtain ⟨⟨v, us⟩, h1, h2⟩ := h
    have := its_new hl.2 h2 q hq hn
    exact upd_new (fr := st.fr) (stepOp_new hl.1 h1) hq this
  | .ite c want blk lo hi d a b r, st, st', hl, h, q, hq, hn => by
    simp only [itsLt, Bool.and_eq_true] at hl
    simp only [evIts] at h
    split at h
    · rw [Option.bind_eq_some_iff] at h
      obtain ⟨x, _, h⟩ := h
      exact its_new hl.2 h q hq hn
    · cases h
theorem flat_new : ∀ {l : List FO} {st : St} {z : St × List (List Nat)}, l.all (fun o => ltO o.d) = true → evFlat gl cl l st = some z → ∀ q, SHK ≤ q → z.1.hp.get q ≠ none → st.hp.get q ≠ none
  | [], st, z, _, h, q, _, hn => by simp only [evFlat, Option.some.injEq] at h; subst h; exact hn
  | o :: l, st, z, hl, h, q, hq, hn => by
    simp only [List.all_cons, Bool.and_eq_true] at hl
    rw [evFlat_cons, Option.bind_eq_some_iff] at h
    obtain ⟨t, h1, h2⟩ := h
    simp only [Option.map_eq_some_iff] at h2
    obtain ⟨z', h2, rfl⟩ := h2
    have hn' := flat_new hl.2 h2 q hq hn
    unfold foStep at h1
    split at h1
    · cases h1
    · simp only [Option.map_eq_some_iff] at h1
      obtain ⟨⟨v, us⟩, h1, rfl⟩ := h1
      exact upd_new (fr := st.fr) (stepOp_new hl.1 h1) hq hn'
    · cases h1; exact hn'
/-- A step keeps the places of what was handed in. -/
theorem step_hand {H H' : Heap} {G G' : Gh} {hp hp' : Hp} (inv : Inv H G hp) (s : Step H G hp H' G' hp') (hk : ∀ q, SHK ≤ q → hp'.get q ≠ none → hp.get q ≠ none) {q : Nat} (hq : SHK ≤ q) {r : Rg} (h : G'.reg q = some r) : ∃ r0, G.reg q = some r0 ∧ r0.le r := by
  cases hg : G.reg q with
  | some r0 =>
    obtain ⟨r1, h1, h2⟩ := s.le.reg q r0 hg
    rw [h] at h1; cases h1; exact ⟨r0, rfl, h2⟩
  | none =>
    exfalso
    obtain ⟨o, ho⟩ := s.inv.reg_get h
    have h1 := hk q hq (by rw [ho]; simp)
    cases ho' : hp.get q with
    | none => exact h1 ho'
    | some o' =>
      have := inv.obs q o' ho'
      cases o' with
      | fix sh a => obtain ⟨b, _, _, _, h, _⟩ := this; rw [hg] at h; cases h
      | grow sh els =>
        rcases this with ⟨_, h⟩ | ⟨_, _, _, _, _, h, _⟩
        · rw [hg] at h; cases h
        · rw [hg] at h; cases h
      | dead => obtain ⟨r, h⟩ := this; rw [hg] at h; cases h
      | log _ _ _ => obtain ⟨_, _, _, h, _⟩ := this; rw [hg] at h; cases h
end Go.Ev
