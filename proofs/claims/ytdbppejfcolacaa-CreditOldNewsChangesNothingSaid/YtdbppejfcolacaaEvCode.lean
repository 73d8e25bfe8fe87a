/-
  Code: what the evaluator computes is what the model comes to. No condition.
-/
import Derived.Test.YtdbppejfcolacaaEvHand
namespace Go.Ev
open Go
set_option linter.unusedSimpArgs false

variable {gl : Gl} {cl : Cl} {P : Program} {F : Fence} {n N : Nat} {an : Ann}

/-- What is yielded lies among so many temporaries. -/
def dstOk (N : Nat) : Code → Bool
  | .region _ ops _ => ops.all fun o => match o.dst with | some d => decide (d < N) | none => true
  | .seq a b => dstOk N a && dstOk N b
  | .cond _ a b => dstOk N a && dstOk N b
  | .block _ b => dstOk N b
  | .loop b => dstOk N b
  | _ => true
theorem dstOk_ops {ops : Array Oper} (h : (ops.all fun o => match o.dst with | some d => decide (d < N) | none => true) = true) : ∀ (i : Nat) (o : Oper), ops[i]? = some o → ∀ d, o.dst = some d → d < N := by
  intro i o ho d hd
  have := Array.all_eq_true_iff_forall_mem.1 h o (Array.mem_of_getElem? ho)
  rw [hd] at this
  simpa using this

def exOf : Ex → Exit
  | .norm => .normal
  | .exit id => .exit id
  | .ret => .ret

structure Setting (P : Program) (F : Fence) (n : Nat) (gl : Gl) (cl : Cl) : Prop where
  mix : P.follows .mixedOrders = true
  op : OpOk F n P gl cl
  ex : OpEx P gl cl
  fn : ∀ f, F.fn f

/-- What has become of a state. -/
structure Came (L : Prop) (gl : Gl) (a : Act) (w : World) (G : Gh) (hp : Hp) (a' : Act) (w' : World) (G' : Gh) (st' : St) : Prop where
  kept : Kept w w'
  move : Move w.heap G hp w'.heap G' st'.hp
  ok : StOk w'.heap G' st' a'.tmps
  size : a'.tmps.size = a.tmps.size
  defers : a'.defers = a.defers
  hand : L → ∀ q, SHK ≤ q → ∀ r, G'.reg q = some r → ∃ r0, G.reg q = some r0 ∧ r0.le r
theorem Came.trans {L : Prop} {a a1 a2 : Act} {w w1 w2 : World} {G G1 G2 : Gh} {hp : Hp} {st1 st2 : St} (h : Came L gl a w G hp a1 w1 G1 st1) (h' : Came L gl a1 w1 G1 st1.hp a2 w2 G2 st2) : Came L gl a w G hp a2 w2 G2 st2 :=
  ⟨h.kept.trans h'.kept, h.move.trans h'.move, h'.ok, h'.size.trans h.size, h'.defers.trans h.defers, fun l q hq r hr => let ⟨r1, h1, h2⟩ := h'.hand l q hq r hr; let ⟨r0, h3, h4⟩ := h.hand l q hq r1 h1; ⟨r0, h3, Rg.le_trans h4 h2⟩⟩

theorem exists_min {p : Nat → Prop} (h : ∃ k, p k) : ∃ k, p k ∧ ∀ j, p j → k ≤ j := by
  obtain ⟨k, hk⟩ := h
  induction k using Nat.strongRecOn with
  | _ k ih =>
    by_cases hex : ∃ j, j < k ∧ p j
    · obtain ⟨j, hj, hp⟩ := hex; exact ih j hj hp
    · exact ⟨k, hk, fun j hj => by
        rcases Nat.lt_or_ge j k with h | h
        · exact absurd ⟨j, h, hj⟩ hex
        · exact h⟩
open Classical in
noncomputable def leastOf (p : Nat → Prop) : Nat := if h : ∃ k, p k then Classical.choose (exists_min h) else 0
theorem leastOf_spec {p : Nat → Prop} (h : ∃ k, p k) : p (leastOf p) ∧ ∀ j, p j → leastOf p ≤ j := by
  unfold leastOf; rw [dif_pos h]; exact Classical.choose_spec (exists_min h)

theorem wpIn_loop_fuel {c : Code} {Q : Exit → Act → World → Prop} {a : Act} {w : World} (I : Nat → Act → World → Prop) {k : Nat} (h : I k a w)
    (round : ∀ k a w, I k a w → c.wpIn F n P (Exit.then (fun a' w' => ∃ j, j < k ∧ I j a' w') Q) a w) : (Code.loop c).wpIn F n P Q a w := by
  refine wpIn_loop (fun a w => ∃ k, I k a w) (fun a w => leastOf fun k => I k a w) ⟨k, h⟩ fun a w hI => ?_
  obtain ⟨h1, _⟩ := leastOf_spec hI
  refine wpIn_mono (round _ a w h1) fun e a' w' hq => ?_
  cases e with
  | normal =>
    obtain ⟨j, hj, hI'⟩ := hq
    exact ⟨⟨j, hI'⟩, Nat.lt_of_le_of_lt ((leastOf_spec ⟨j, hI'⟩).2 j hI') hj⟩
  | _ => exact hq

theorem code_wp {L : Prop} (S : Setting P F n gl cl) : ∀ (c : Code) (id : Nat) (mc : MC), comp P an id c = some mc → (L → mcLt mc = true) → dstOk N c = true → ∀ (a : Act) (w : World) (G : Gh) (st st' : St) (e : Ex), GlOk w.heap G gl → StOk w.heap G st a.tmps →
    a.tmps.size = N → evC gl cl mc st = some (e, st') → ∀ (Q : Exit → Act → World → Prop), (∀ a' w' G', Came L gl a w G st.hp a' w' G' st' → Q (exOf e) a' w') → c.wpIn F n P Q a w := by
  intro c
  induction c with
  | skip =>
    intro id mc hc hL _ a w G st st' e hg hst hN hev Q hQ
    simp only [comp, Option.some.injEq] at hc
    subst hc
    simp only [evC, Option.some.injEq, Prod.mk.injEq] at hev
    obtain ⟨rfl, rfl⟩ := hev
    exact wpIn_skip (hQ a w G ⟨Kept.refl w, Move.refl hst.inv, hst, rfl, rfl, fun _ _ _ r h => ⟨r, h, Rg.le_refl r⟩⟩)
  | exit j =>
    intro id mc hc hL _ a w G st st' e hg hst hN hev Q hQ
    simp only [comp, Option.some.injEq] at hc
    subst hc
    simp only [evC, Option.some.injEq, Prod.mk.injEq] at hev
    obtain ⟨rfl, rfl⟩ := hev
    exact wpIn_exit (hQ a w G ⟨Kept.refl w, Move.refl hst.inv, hst, rfl, rfl, fun _ _ _ r h => ⟨r, h, Rg.le_refl r⟩⟩)
  | ret =>
    intro id mc hc hL _ a w G st st' e hg hst hN hev Q hQ
    simp only [comp, Option.some.injEq] at hc
    subst hc
    simp only [evC, Option.some.injEq, Prod.mk.injEq] at hev
    obtain ⟨rfl, rfl⟩ := hev
    exact wpIn_ret (hQ a w G ⟨Kept.refl w, Move.refl hst.inv, hst, rfl, rfl, fun _ _ _ r h => ⟨r, h, Rg.le_refl r⟩⟩)
  | region rid ops draw =>
    intro id mc hc hL hd a w G st st' e hg hst hN hev Q hQ
    have hdst := dstOk_ops (N := N) hd
    rw [comp, Option.some.injEq] at hc
    cases hcr : compReg P an ops draw with
    | none => rw [hcr] at hc; subst hc; simp [evC] at hev
    | some mc0 =>
    rw [hcr] at hc
    obtain rfl : mc0 = mc := hc
    have hc := hcr
    cases draw with
    | false =>
      simp only [compReg, Option.bind_eq_some_iff] at hc
      obtain ⟨⟨its, q⟩, hc, h⟩ := hc
      rw [Option.ite_none_right_eq_some] at h
      obtain ⟨hq, h⟩ := h
      simp only at hq
      subst hq
      cases h
      simp only [evC, Option.map_eq_some_iff, Prod.mk.injEq] at hev
      obtain ⟨st1, hev, rfl, rfl⟩ := hev
      refine wpIn_region ?_
      have hr : List.range ops.size = from' ops 0 := by unfold from'; rw [List.range_eq_range', Nat.sub_zero]
      rw [hr]
      refine its_wp S.op S.fn _ none 0 0 its _ hc a w G st st1 (fun i o ho d hd => by rw [hN]; exact hdst i o ho d hd) trivial hg hst hev ?_
      intro a' w' G' h1 h2 h3 h4 h5 _
      rw [from_nil (Nat.le_refl _)]
      exact hQ a' w' G' ⟨h1, h2.move, h3, h4, h5, fun l q hq r hr => step_hand hst.inv h2 (its_new (by simpa [mcLt] using hL l) hev) hq hr⟩
    | true =>
      simp only [compReg, Option.bind_eq_some_iff] at hc
      obtain ⟨fos, hfos, h⟩ := hc
      rw [Option.ite_none_right_eq_some] at h
      obtain ⟨hok, h⟩ := h
      cases h
      simp only [evC, Option.bind_eq_some_iff] at hev
      obtain ⟨⟨st1, ks⟩, hev, h⟩ := hev
      rw [Option.ite_none_right_eq_some] at h
      obtain ⟨hprs, h⟩ := h
      cases h
      refine draw_wp S.mix S.op S.ex S.fn hfos hok (fun i o ho d hd => by rw [hN]; exact hdst i o ho d hd) hg hst hev hprs ?_
      intro a' w' G' h1 h2 h3 h4 h5
      exact hQ a' w' G' ⟨h1, h2.move, h3, h4, h5, fun l q hq r hr => step_hand hst.inv h2 (flat_new (z := (st1, ks)) (by simpa [mcLt] using hL l) hev) hq hr⟩
  | seq x y ihx ihy =>
    intro id mc hc hL hd a w G st st' e hg hst hN hev Q hQ
    simp only [comp, Option.bind_eq_some_iff, Option.map_eq_some_iff] at hc
    obtain ⟨mx, hx, my, hy, rfl⟩ := hc
    simp only [dstOk, Bool.and_eq_true] at hd
    simp only [evC, Option.bind_eq_some_iff] at hev
    obtain ⟨⟨e1, st1⟩, h1, hev⟩ := hev
    refine wpIn_seq (ihx id mx hx (fun l => (Bool.and_eq_true_iff.1 (hL l)).1) hd.1 a w G st st1 e1 hg hst hN h1 _ fun a1 w1 G1 hc1 => ?_)
    cases e1 with
    | norm =>
      exact ihy id my hy (fun l => (Bool.and_eq_true_iff.1 (hL l)).2) hd.2 a1 w1 G1 st1 st' e (hg.moved hc1.move) hc1.ok (hc1.size.trans hN) hev Q fun a' w' G' hc' => hQ a' w' G' (hc1.trans hc')
    | exit j =>
      simp only [Option.some.injEq, Prod.mk.injEq] at hev
      obtain ⟨rfl, rfl⟩ := hev
      exact hQ a1 w1 G1 hc1
    | ret =>
      simp only [Option.some.injEq, Prod.mk.injEq] at hev
      obtain ⟨rfl, rfl⟩ := hev
      exact hQ a1 w1 G1 hc1
  | cond x y z ihy ihz =>
    intro id mc hc hL hd a w G st st' e hg hst hN hev Q hQ
    simp only [comp, Option.bind_eq_some_iff, Option.map_eq_some_iff] at hc
    obtain ⟨x', hx, my, hy, mz, hz, rfl⟩ := hc
    simp only [dstOk, Bool.and_eq_true] at hd
    simp only [evC] at hev
    split at hev
    · rename_i t ht
      have hv := opd_rep hg hst hx
      rw [ht] at hv
      have hv := repT_bool hv
      refine wpIn_cond hv ?_
      cases t
      · exact ihz id mz hz (fun l => (Bool.and_eq_true_iff.1 (hL l)).2) hd.2 a w G st st' e hg hst hN hev Q hQ
      · exact ihy id my hy (fun l => (Bool.and_eq_true_iff.1 (hL l)).1) hd.1 a w G st st' e hg hst hN hev Q hQ
    · cases hev
  | block j b ih =>
    intro id mc hc hL hd a w G st st' e hg hst hN hev Q hQ
    simp only [comp, Option.map_eq_some_iff] at hc
    obtain ⟨mb, hb, hc⟩ := hc
    -- the block itself
    have blk : (L → mcLt mb = true) → ∀ (st1 : St) (e1 : Ex), evC gl cl (.block j mb) st = some (e1, st1) → ∀ (Q : Exit → Act → World → Prop), (∀ a' w' G', Came L gl a w G st.hp a' w' G' st1 → Q (exOf e1) a' w') → (Code.block j b).wpIn F n P Q a w := by
      intro hLb st1 e1 h Q hQ
      simp only [evC, Option.map_eq_some_iff, Prod.mk.injEq] at h
      obtain ⟨⟨e2, st2⟩, h, rfl, rfl⟩ := h
      refine wpIn_block (ih j mb hb hLb hd a w G st st2 e2 hg hst hN h _ fun a' w' G' hc' => ?_)
      have := hQ a' w' G' hc'
      cases e2 with
      | norm => exact this
      | ret => exact this
      | exit i =>
        by_cases hi : i = j
        · subst hi
          simp only [if_true] at this
          simp only [exOf, Exit.inBlock, if_true]
          exact this
        · have hne : ¬ Ex.exit i = Ex.exit j := by simpa using hi
          simp only [hne, if_false] at this
          simp only [exOf, Exit.inBlock, hi, if_false]
          exact this
    split at hc
    · rename_i ks hks
      subst hc
      rw [evC, Option.bind_eq_some_iff] at hev
      obtain ⟨⟨e1, st1⟩, h1, hev⟩ := hev
      refine blk (fun l => (Bool.and_eq_true_iff.1 (hL l)).2) st1 e1 h1 Q fun a' w' G' hc' => ?_
      cases e1 with
      | norm =>
        simp only [Option.map_eq_some_iff, Prod.mk.injEq] at hev
        obtain ⟨st2, h2, rfl, rfl⟩ := hev
        obtain ⟨k1, k2⟩ := clean_ok hc'.ok h2
        exact hQ a' w' _ (hc'.trans (gl := gl) ⟨Kept.refl w', k2, k1, rfl, rfl, fun l q hq r hr => ⟨r, clean_hand (Bool.and_eq_true_iff.1 (hL l)).1 hq hr, Rg.le_refl r⟩⟩)
      | exit i =>
        simp only [Option.some.injEq, Prod.mk.injEq] at hev
        obtain ⟨rfl, rfl⟩ := hev
        exact hQ a' w' G' hc'
      | ret =>
        simp only [Option.some.injEq, Prod.mk.injEq] at hev
        obtain ⟨rfl, rfl⟩ := hev
        exact hQ a' w' G' hc'
    · subst hc
      exact blk hL st' e hev Q hQ
  | loop b ih =>
    intro id mc hc hL hd a w G st st' e hg hst hN hev Q hQ
    simp only [comp, Option.map_eq_some_iff] at hc
    obtain ⟨mb, hb, rfl⟩ := hc
    simp only [evC] at hev
    generalize (assoc an.loops id).getD [] = ks at hev hL
    refine wpIn_loop_fuel (fun k a1 w1 => ∃ G1 st1, Came L gl a w G st.hp a1 w1 G1 st1 ∧ iter (evC gl cl mb) ks k st1 = some (e, st')) (k := LF) ⟨G, st, ⟨Kept.refl w, Move.refl hst.inv, hst, rfl, rfl, fun _ _ _ r h => ⟨r, h, Rg.le_refl r⟩⟩, hev⟩ ?_
    rintro k a1 w1 ⟨G1, st1, hc1, hit⟩
    cases k with
    | zero => simp [iter] at hit
    | succ k =>
      rw [iter, Option.bind_eq_some_iff] at hit
      obtain ⟨st2, hcl, hit⟩ := hit
      rw [Option.bind_eq_some_iff] at hit
      obtain ⟨⟨e3, st3⟩, h3, hit⟩ := hit
      obtain ⟨k1, k2⟩ := clean_ok hc1.ok hcl
      have hc2 : Came L gl a w G st.hp a1 w1 (cleanGh G1 st1 (ksA ks st1)) st2 := hc1.trans ⟨Kept.refl w1, k2, k1, rfl, rfl, fun l q hq r hr => ⟨r, clean_hand (Bool.and_eq_true_iff.1 (hL l)).1 hq hr, Rg.le_refl r⟩⟩
      refine ih 1000000 mb hb (fun l => (Bool.and_eq_true_iff.1 (hL l)).2) hd a1 w1 _ st2 st3 e3 (hg.moved hc2.move) hc2.ok (hc2.size.trans hN) h3 _ fun a' w' G' hc' => ?_
      cases e3 with
      | norm => exact ⟨k, Nat.lt_succ_self k, G', st3, hc2.trans hc', hit⟩
      | exit i =>
        simp only [Option.some.injEq, Prod.mk.injEq] at hit
        obtain ⟨rfl, rfl⟩ := hit
        exact hQ a' w' G' (hc2.trans hc')
      | ret =>
        simp only [Option.some.injEq, Prod.mk.injEq] at hit
        obtain ⟨rfl, rfl⟩ := hit
        exact hQ a' w' G' (hc2.trans hc')
  | rangeFunc f ps as b iha ihb => intro id mc hc _ _ a w G st st' e _ _ _ hev; simp only [comp, Option.some.injEq] at hc; subst hc; simp [evC] at hev
  | scope b ih => intro id mc hc _ _ a w G st st' e _ _ _ hev; simp only [comp, Option.some.injEq] at hc; subst hc; simp [evC] at hev
  | label l => intro id mc hc _ _ a w G st st' e _ _ _ hev; simp only [comp, Option.some.injEq] at hc; subst hc; simp [evC] at hev
  | goto l => intro id mc hc _ _ a w G st st' e _ _ _ hev; simp only [comp, Option.some.injEq] at hc; subst hc; simp [evC] at hev
  | refuse w => intro id mc hc _ _ a w G st st' e _ _ _ hev; simp only [comp, Option.some.injEq] at hc; subst hc; simp [evC] at hev
end Go.Ev
