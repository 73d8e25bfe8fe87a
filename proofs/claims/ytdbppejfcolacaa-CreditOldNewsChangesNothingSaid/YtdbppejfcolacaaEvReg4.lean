/-
  A region whose order is drawn: every order gives what the order of the text gives. No condition.
-/
import Derived.Test.YtdbppejfcolacaaEvReg3
import Derived.OrdersIn
namespace Go.Ev
open Go
set_option linter.unusedSimpArgs false

variable {im : Im} {gl : Gl} {cl : Cl} {P : Program} {F : Fence} {n N : Nat}

/-! ### Heaps that hold the same -/
theorem liveOb_ext {hp hp' : Hp} (h : ∀ k, hp.get k = hp'.get k) {k : Nat} : liveOb hp k ↔ liveOb hp' k := by unfold liveOb; rw [h k]
theorem live_ext {G : Gh} {hp hp' : Hp} (h : ∀ k, hp.get k = hp'.get k) {b : Nat} : Live G hp b ↔ Live G hp' b := by
  unfold Live; simp only [liveOb_ext h]
theorem Inv.ext {H : Heap} {G : Gh} {hp hp' : Hp} (h : ∀ k, hp.get k = hp'.get k) (i : Inv H G hp) : Inv H G hp' where
  obs k o hk := i.obs k o ((h k).trans hk)
  out k hk := i.out k ((h k).trans hk)
  dist k k' b r r' h1 h2 h3 h4 := i.dist k k' b r r' h1 h2 ((liveOb_ext h).2 h3) ((liveOb_ext h).2 h4)
  imm b hb := ⟨(i.imm b hb).1, fun hl => (i.imm b hb).2 ((live_ext h).2 hl)⟩
  lt b hb := i.lt b ((live_ext h).2 hb)
theorem Step.ext {H H' : Heap} {G G' : Gh} {hp hp' hp'' : Hp} (h : ∀ k, hp'.get k = hp''.get k) (s : Step H G hp H' G' hp') : Step H G hp H' G' hp'' :=
  ⟨s.inv.ext h, s.le, s.size, s.same, fun b hb => s.live b ((live_ext h).2 hb), s.immNew⟩
theorem StOk.ext {H : Heap} {G : Gh} {s t : St} {tmps : Array Value} (h : Eqv s t) (i : StOk H G s tmps) : StOk H G t tmps :=
  ⟨i.inv.ext h.hp, fun j => by rw [← h.fr j]; exact i.fr j⟩

/-! ### The transitive closure of the edges -/
def befIn (o : Oper) (acc : Array Nat) : Nat := o.after.foldl (fun s e => if Region.binds .any e then s ||| 2 ^ e.on ||| acc.getD e.on 0 else s) 0
theorem before_eq (ops : Array Oper) : Region.before ops = ops.toList.foldl (fun acc o => acc.push (befIn o acc)) #[] := by
  unfold Region.before befIn
  rw [← Array.foldl_toList]

theorem befFold {l : List Oper} : ∀ {acc : Array Nat}, (l.foldl (fun acc o => acc.push (befIn o acc)) acc).size = acc.size + l.length ∧
    (∀ i, i < acc.size → (l.foldl (fun acc o => acc.push (befIn o acc)) acc).getD i 0 = acc.getD i 0) ∧
    ∀ k (hk : k < l.length), ∃ ac : Array Nat, ac.size = acc.size + k ∧ (∀ i, i < acc.size + k → ac.getD i 0 = (l.foldl (fun acc o => acc.push (befIn o acc)) acc).getD i 0) ∧
      (l.foldl (fun acc o => acc.push (befIn o acc)) acc).getD (acc.size + k) 0 = befIn l[k] ac := by
  induction l with
  | nil => intro acc; exact ⟨rfl, fun _ _ => rfl, fun k hk => by simp at hk⟩
  | cons o l ih =>
    intro acc
    obtain ⟨h1, h2, h3⟩ := ih (acc := acc.push (befIn o acc))
    simp only [List.foldl_cons, List.length_cons] at *
    have hp : ∀ i, i < acc.size → (acc.push (befIn o acc)).getD i 0 = acc.getD i 0 := fun i hi => by
      simp only [Array.getD_eq_getD_getElem?]; rw [Array.getElem?_push]; simp [Nat.ne_of_lt hi]
    refine ⟨by rw [h1]; simp; omega, fun i hi => by rw [h2 i (by simp; omega), hp i hi], fun k hk => ?_⟩
    cases k with
    | zero =>
      refine ⟨acc, rfl, fun i hi => by rw [h2 i (by simp; omega), hp i (by omega)], ?_⟩
      rw [Nat.add_zero, h2 acc.size (by simp)]
      simp
    | succ k =>
      obtain ⟨ac, g1, g2, g3⟩ := h3 k (by omega)
      refine ⟨ac, by rw [g1]; simp; omega, fun i hi => g2 i (by simp; omega), ?_⟩
      have : (acc.push (befIn o acc)).size + k = acc.size + (k + 1) := by simp; omega
      rw [this] at g3
      simpa using g3

theorem befIn_bit {o : Oper} {acc : Array Nat} {p : Nat} (h : (befIn o acc).testBit p = true) : ∃ e ∈ o.after, Region.binds .any e = true ∧ (p = e.on ∨ (acc.getD e.on 0).testBit p = true) := by
  unfold befIn at h
  rw [← Array.foldl_toList] at h
  have key : ∀ (l : List Edge) (s : Nat), (l.foldl (fun s e => if Region.binds .any e then s ||| 2 ^ e.on ||| acc.getD e.on 0 else s) s).testBit p = true →
      s.testBit p = true ∨ ∃ e ∈ l, Region.binds .any e = true ∧ (p = e.on ∨ (acc.getD e.on 0).testBit p = true) := by
    intro l
    induction l with
    | nil => intro s h; exact .inl h
    | cons e l ih =>
      intro s h
      rw [List.foldl_cons] at h
      rcases ih _ h with h | ⟨e', he, hb⟩
      · by_cases hb : Region.binds .any e = true
        · rw [if_pos hb, Nat.testBit_or, Nat.testBit_or, Bool.or_eq_true, Bool.or_eq_true, Nat.testBit_two_pow, decide_eq_true_eq] at h
          rcases h with (h | h) | h
          · exact .inl h
          · exact .inr ⟨e, by simp, hb, .inl h.symm⟩
          · exact .inr ⟨e, by simp, hb, .inr h⟩
        · rw [if_neg hb] at h; exact .inl h
      · exact .inr ⟨e', by simp [he], hb⟩
  rcases key _ _ h with h | ⟨e, he, hb⟩
  · simp at h
  · exact ⟨e, by simpa using he, hb⟩

theorem before_bit {ops : Array Oper} {j p : Nat} (h : ((Region.before ops).getD j 0).testBit p = true) :
    ∃ o, ops[j]? = some o ∧ ∃ e ∈ o.after, Region.binds .any e = true ∧ (p = e.on ∨ (e.on < j ∧ ((Region.before ops).getD e.on 0).testBit p = true)) := by
  rw [before_eq] at h ⊢
  obtain ⟨h1, _, h3⟩ := befFold (l := ops.toList) (acc := #[])
  by_cases hj : j < ops.size
  · obtain ⟨ac, g1, g2, g3⟩ := h3 j (by simpa using hj)
    simp only [List.size_toArray, List.length_nil, Nat.zero_add] at g1 g2 g3
    rw [g3] at h
    obtain ⟨e, he, hb, hp⟩ := befIn_bit h
    refine ⟨ops[j], by simp [hj], e, by simpa using he, hb, ?_⟩
    rcases hp with hp | hp
    · exact .inl hp
    · by_cases hlt : e.on < j
      · rw [g2 e.on hlt] at hp; exact .inr ⟨hlt, hp⟩
      · rw [Array.getD_eq_getD_getElem?, Array.getElem?_eq_none (by omega)] at hp; simp at hp
  · rw [Array.getD_eq_getD_getElem?, Array.getElem?_eq_none (by rw [h1]; simp; omega)] at h; simp at h

def Down (ops : Array Oper) (listed : Array Bool) : Prop :=
  ∀ i, listed.getD i false = true → ∀ o, ops[i]? = some o → ∀ e ∈ o.after, Region.binds .any e = true → listed.getD e.on false = true
theorem before_listed {ops : Array Oper} {listed : Array Bool} (hd : Down ops listed) : ∀ (j p : Nat), (∀ o, ops[j]? = some o → ∀ e ∈ o.after, Region.binds .any e = true → listed.getD e.on false = true) →
    ((Region.before ops).getD j 0).testBit p = true → listed.getD p false = true := by
  intro j
  induction j using Nat.strongRecOn with
  | _ j ih =>
    intro p hj h
    obtain ⟨o, ho, e, he, hb, hp⟩ := before_bit h
    rcases hp with rfl | ⟨hlt, hp⟩
    · exact hj o ho e he hb
    · exact ih e.on hlt p (hd e.on (hj o ho e he hb)) hp

/-! ### One operation -/
/-- One operation comes to an end. -/
def OpEx (P : Program) (gl : Gl) (cl : Cl) : Prop :=
  ∀ {im : Im} (o : Oper) (m : MOp) (a : Act) (w : World) (G : Gh) (st : St) (v : AV) (us : Hp), GlOk w.heap G gl → StOk w.heap G st a.tmps → compOp P im o = some m → stepOp gl cl st o.dst m = some (v, us) →
    ∃ v' w' G', Kept w w' ∧ Step w.heap G st.hp w'.heap G' (us ++ st.hp) ∧ RepT w'.heap G' v' v

theorem wpIn_exists {o : Oper} {a : Act} {w : World} {E : Prop} (h : o.wpIn Fence.wide n P a w (fun _ _ => E) (fun _ _ _ => False)) : E := by
  unfold Oper.wpIn at h
  have hh := h.2
  generalize (o.semAt Fence.wide.round a.eval).run P w = r at hh
  have hroom : ∀ k, Fence.wide.room k := fun k => room_wide k
  cases r with
  | ok x w' =>
    cases x with
    | value v => exact hh
    | skip => exact hh
    | defer d => exact hh
    | enter f args =>
      obtain ⟨e, w'', fr, hR, _⟩ := hh.2.2 [] (hroom _)
      cases e with
      | returned v => exact hR
      | panicked c => exact hR.elim
      | outgrown => obtain ⟨_, _, h⟩ := hR; exact h.elim
    | row row args =>
      obtain ⟨v, w'', hR, _⟩ := hh.2 default [] (hroom _)
      exact hR
    | round l f tmps as body =>
      obtain ⟨e, w'', hR, _⟩ := hh.2.2 default [] (hroom _)
      cases e with
      | returned v => exact hR
      | panicked c => exact hR.elim
      | outgrown => obtain ⟨_, _, h⟩ := hR; exact h.elim
    | _ => exact hh.elim
  | halt x w' => cases x <;> exact hh.elim
theorem opEx_of_opOk (h : OpOk Fence.wide n P gl cl) : OpEx P gl cl := fun o m a w G st v us hg hst hc hs =>
  wpIn_exists (h o m a w G st v us hg hst hc hs (fun _ _ => _) (fun _ _ _ => False) fun v' w' G' h1 h2 h3 => ⟨v', w', G', h1, h2, h3⟩)

/-- The evaluator's state stands for some state of the model. -/
def Real (gl : Gl) (N : Nat) (st : St) : Prop := ∃ (w : World) (G : Gh) (a : Act), GlOk w.heap G gl ∧ StOk w.heap G st a.tmps ∧ a.tmps.size = N

variable {ops : Array Oper}
theorem mapO_get {α β : Type} {f : α → Option β} : ∀ {l : List α} {r : List β}, mapO f l = some r → r.length = l.length ∧ ∀ i (h : i < l.length) (h' : i < r.length), f l[i] = some r[i]
  | [], r, h => by simp only [mapO, Option.some.injEq] at h; subst h; exact ⟨rfl, fun i h => by simp at h⟩
  | a :: l, r, h => by
    simp only [mapO, Option.bind_eq_some_iff, Option.map_eq_some_iff] at h
    obtain ⟨b, hb, s, hs, rfl⟩ := h
    obtain ⟨h1, h2⟩ := mapO_get hs
    refine ⟨by simp [h1], fun i hi hi' => ?_⟩
    cases i with
    | zero => exact hb
    | succ i => exact h2 i (by simpa using hi) (by simpa using hi')

theorem compFO_spec {o : Oper} {f : FO} (h : compFO P im ops o = some f) : compOp P im o = some f.m ∧ f.d = o.dst ∧
    (o.guard = none ∧ f.g = none ∨ ∃ j want c, o.guard = some (j, want) ∧ (ops[j]?).bind (·.dst) = some c ∧ f.g = some (c, want)) := by
  simp only [compFO, Option.bind_eq_some_iff] at h
  obtain ⟨m, hm, h⟩ := h
  split at h
  · rename_i hg; cases h; exact ⟨hm, rfl, .inl ⟨hg, rfl⟩⟩
  · rename_i j want hg
    simp only [Option.map_eq_some_iff] at h
    obtain ⟨c, hc, rfl⟩ := h
    exact ⟨hm, rfl, .inr ⟨j, want, c, hg, hc, rfl⟩⟩

/-- The guard is read as the model reads it. -/
theorem wants_wanted {H : Heap} {G : Gh} {st : St} {tmps : Array Value} {o : Oper} {f : FO} {b : Bool} (hst : StOk H G st tmps) (hc : compFO P im ops o = some f) (h : f.wants st.fr = some b) :
    Region.wanted o (yielded ops tmps) = b := by
  obtain ⟨_, _, hg⟩ := compFO_spec hc
  unfold FO.wants at h
  rcases hg with ⟨h1, h2⟩ | ⟨j, want, c, h1, h2, h3⟩
  · rw [h2] at h; simp only [Option.some.injEq] at h; subst h; simp [Region.wanted, h1]
  · rw [h3] at h
    simp only at h
    have hrep := hst.fr c
    split at h
    · rename_i t ht
      rw [ht] at hrep
      have hv := repT_bool hrep
      simp only [Option.some.injEq] at h
      subst h
      have hlt : c < tmps.size := by
        rcases Nat.lt_or_ge c tmps.size with h' | h'
        · exact h'
        · rw [Array.getD_eq_getD_getElem?, Array.getElem?_eq_none h'] at hv; cases hv
      have : tmps[c]? = some (.bool t) := by rw [Array.getD_eq_getD_getElem?] at hv; simp [hlt] at hv ⊢; exact hv
      simp only [Region.wanted, h1, yielded, h2, Option.bind_some, this]
      cases t <;> cases want <;> rfl
    · rename_i ht
      rw [ht] at hrep
      obtain ⟨vs, hv, hs, _⟩ := hrep
      simp only [Option.some.injEq] at h
      subst h
      have : (tmps[c]? = none) ∨ ∃ vs, tmps[c]? = some (.tuple vs) := by
        cases hx : tmps[c]? with
        | none => exact .inl rfl
        | some x => rw [Array.getD_eq_getD_getElem?, hx] at hv; exact .inr ⟨vs, by simpa using hv⟩
      simp only [Region.wanted, h1, yielded, h2, Option.bind_some]
      rcases this with h | ⟨vs', h⟩ <;> rw [h] <;> rfl
    · cases h

theorem repT_undef {H : Heap} {G : Gh} : RepT H G undef (.tup []) := ⟨#[], rfl, rfl, fun i h => by simp at h⟩

theorem real_step (hEx : OpEx P gl cl) {o : Oper} {f : FO} {st : St} {t : Tr} (hc : compFO P im ops o = some f) (hd : ∀ d, o.dst = some d → d < N) (hr : Real gl N st) (h : foStep gl cl st f = some t) :
    Real gl N (st.after f t) := by
  obtain ⟨w, G, a, hg, hst, hN⟩ := hr
  obtain ⟨hm, hdst, _⟩ := compFO_spec hc
  unfold foStep at h
  split at h
  · cases h
  · simp only [Option.map_eq_some_iff] at h
    obtain ⟨r, hr, rfl⟩ := h
    rw [hdst] at hr
    obtain ⟨v', w', G', _, hs, hv⟩ := hEx o f.m a w G st r.1 r.2 hg hst hm hr
    refine ⟨w', G', a.put o.dst v', hg.mono hs.le, ?_, by rw [put_size, hN]⟩
    rw [St.after, hdst]
    exact stOk_upd hst (fun i hi => by rw [hN]; exact hd i hi) hs hv
  · cases h
    refine ⟨w, G, a.put o.dst undef, hg, ?_, by rw [put_size, hN]⟩
    rw [St.after, hdst]
    exact stOk_upd hst (fun i hi => by rw [hN]; exact hd i hi) (Step.refl hst.inv) repT_undef

theorem fo_wp (hOp : OpOk F n P gl cl) (hF : ∀ f, F.fn f) {j : Nat} {o : Oper} {f : FO} {a : Act} {w : World} {G : Gh} {st : St} {t : Tr} (hj : ops[j]? = some o) (hc : compFO P im ops o = some f)
    (hd : ∀ d, o.dst = some d → d < a.tmps.size) (hg : GlOk w.heap G gl) (hst : StOk w.heap G st a.tmps) (h : foStep gl cl st f = some t) {K : Act → World → Prop} {Q : Exit → Act → World → Prop}
    (hK : ∀ a' w' G', Kept w w' → Step w.heap G st.hp w'.heap G' (st.after f t).hp → StOk w'.heap G' (st.after f t) a'.tmps → a'.tmps.size = a.tmps.size → a'.defers = a.defers → K a' w') :
    wpOpIn F n P ops Q j K a w := by
  obtain ⟨hm, hdst, _⟩ := compFO_spec hc
  have hdef : ∀ v, (a.put o.dst v).defers = a.defers := fun v => by cases o.dst <;> rfl
  unfold foStep at h
  unfold wpOpIn
  simp only [hj]
  split at h
  · cases h
  · rename_i hw
    rw [wants_wanted hst hc hw, if_pos rfl]
    simp only [Option.map_eq_some_iff] at h
    obtain ⟨r, hr, rfl⟩ := h
    rw [hdst] at hr
    refine hOp o f.m a w G st r.1 r.2 hg hst hm hr K Q fun v' w' G' hk hs hv => hK _ _ G' hk hs ?_ (put_size _ _ _) (hdef _)
    rw [St.after, hdst]
    exact stOk_upd hst hd hs hv
  · rename_i hw
    rw [wants_wanted hst hc hw, if_neg (by simp)]
    cases h
    refine ⟨fun f _ => hF f, hK _ _ G (Kept.refl w) (Step.refl hst.inv) ?_ (put_size _ _ _) (hdef _)⟩
    rw [St.after, hdst]
    exact stOk_upd hst hd (Step.refl hst.inv) repT_undef

/-! ### All orders -/
structure DrawOk (P : Program) (ops : Array Oper) (fo : Nat → FO) (T : Nat → Tr) (N : Nat) : Prop where
  comp : ∀ i o, ops[i]? = some o → compFO P im ops o = some (fo i)
  dst : ∀ (i : Nat) (o : Oper), ops[i]? = some o → ∀ d, o.dst = some d → d < N
  edge : ∀ (i : Nat) (o : Oper), ops[i]? = some o → ∀ e ∈ o.after, Region.binds .any e = true → e.on < i
  cOk : ∀ i, i < ops.size → (fo i).m.cOk = true
  pair : ∀ i j, i < j → j < ops.size → ((Region.before ops).getD j 0).testBit i = false → (fo i).apart (fo j) = true ∧ ((fo i).clash (fo j) = true → Disj (T i).2.2 (T j).2.2)

theorem draw_any (hOp : OpOk F n P gl cl) (hEx : OpEx P gl cl) (hF : ∀ f, F.fn f) {fo : Nat → FO} {T : Nat → Tr} (hD : DrawOk (im := im) P ops fo T N) {Q : Exit → Act → World → Prop} :
    ∀ (fuel : Nat) (listed : Array Bool) (l : List Nat) (a : Act) (w : World) (G : Gh) (st : St), listed.size = ops.size → l.length ≤ fuel → l.Pairwise (· < ·) →
      (∀ i, i ∈ l ↔ i < ops.size ∧ listed.getD i true = false) → Down ops listed → GlOk w.heap G gl → StOk w.heap G st a.tmps → a.tmps.size = N → OkRun gl cl fo T l st →
      (∀ a' w' G' st', Kept w w' → Step w.heap G st.hp w'.heap G' st'.hp → StOk w'.heap G' st' a'.tmps → a'.tmps.size = N → a'.defers = a.defers → Eqv (runT fo T l st) st' → Q .normal a' w') →
      wpAnyIn F n P .any ops Q fuel listed a w := by
  -- where nothing is ready, nothing is left
  have hready : ∀ (listed : Array Bool) (l : List Nat), listed.size = ops.size → l.Pairwise (· < ·) → (∀ i, i ∈ l ↔ i < ops.size ∧ listed.getD i true = false) → Region.ready .any ops listed = [] → l = [] := by
    intro listed l hsz hs hl h0
    cases l with
    | nil => rfl
    | cons i l =>
      exfalso
      obtain ⟨hi, hun⟩ := (hl i).1 (by simp)
      have : i ∈ Region.ready .any ops listed := by
        refine mem_ready.2 ⟨hun, ops[i], by simp [hi], fun e he hb => ?_⟩
        have hlt := hD.edge i ops[i] (by simp [hi]) e he hb
        cases hx : listed.getD e.on true with
        | true =>
          have : e.on < listed.size := by omega
          simp only [Array.getD_eq_getD_getElem?] at hx ⊢
          simp [this] at hx ⊢
          exact hx
        | false =>
          have hm := (hl e.on).2 ⟨by omega, hx⟩
          rcases List.mem_cons.1 hm with h | h
          · omega
          · have := (List.pairwise_cons.1 hs).1 e.on h; omega
      rw [h0] at this; cases this
  intro fuel
  induction fuel with
  | zero =>
    intro listed l a w G st hsz hlen hs hl hdown hg hst hN hrun hpost
    have h0 : l = [] := List.eq_nil_of_length_eq_zero (by omega)
    subst h0
    refine ⟨?_, hpost a w G st (Kept.refl w) (Step.refl hst.inv) hst hN rfl (Eqv.refl _)⟩
    apply List.eq_nil_iff_forall_not_mem.2
    intro i hi
    obtain ⟨h1, o, ho, _⟩ := mem_ready.1 hi
    have := (hl i).2 ⟨(Array.getElem?_eq_some_iff.1 ho).1, h1⟩
    cases this
  | succ fuel ih =>
    intro listed l a w G st hsz hlen hs hl hdown hg hst hN hrun hpost
    refine ⟨fun h0 => ?_, fun j hj => ?_⟩
    · have := hready listed l hsz hs hl h0
      subst this
      exact hpost a w G st (Kept.refl w) (Step.refl hst.inv) hst hN rfl (Eqv.refl _)
    · obtain ⟨hun, o, ho, hall⟩ := mem_ready.1 hj
      have hjlt : j < ops.size := (Array.getElem?_eq_some_iff.1 ho).1
      have hjl : j ∈ l := (hl j).2 ⟨hjlt, hun⟩
      obtain ⟨pre, post, rfl⟩ := List.append_of_mem hjl
      have hsplit := List.pairwise_append.1 hs
      have hpre : ∀ p ∈ pre, p < j := fun p hp => hsplit.2.2 p hp j (by simp)
      have hpreun : ∀ p ∈ pre, p < ops.size ∧ listed.getD p true = false := fun p hp => (hl p).1 (by simp [hp])
      have hfree : ∀ p ∈ pre, (fo p).m.cOk = true ∧ Apart (fo p) (fo j) ∧ ((fo p).clash (fo j) = true → Disj (T p).2.2 (T j).2.2) := fun p hp => by
        have hbit : ((Region.before ops).getD j 0).testBit p = false := by
          cases hb : ((Region.before ops).getD j 0).testBit p with
          | false => rfl
          | true =>
            exfalso
            have := before_listed hdown j p (fun o' ho' e he hbd => hall e (by rw [ho] at ho'; cases ho'; exact he) hbd) hb
            have h2 := (hpreun p hp).2
            have hlt : p < listed.size := by rw [hsz]; exact (hpreun p hp).1
            simp only [Array.getD_eq_getD_getElem?] at this h2
            simp [hlt] at this h2
            rw [this] at h2; cases h2
        obtain ⟨h1, h2⟩ := hD.pair p j (hpre p hp) hjlt hbit
        exact ⟨hD.cOk p (hpreun p hp).1, FO.apart_spec h1, h2⟩
      obtain ⟨⟨k1, k2⟩, k3⟩ := move_front (S := Real gl N) (fun s ⟨w, G, tm, _, h, _⟩ => h.closed) (hD.cOk j hjlt) pre st
        (fun p hp s hr h => have hlt := (hpreun p hp).1; real_step hEx (hD.comp p ops[p] (by simp [hlt])) (hD.dst p ops[p] (by simp [hlt])) hr h) hfree ⟨w, G, a, hg, hst, hN⟩ hrun
      refine fo_wp hOp hF ho (hD.comp j o ho) (fun d hd => by rw [hN]; exact hD.dst j o ho d hd) hg hst k1 fun a' w' G' hk' hs' hst' hsz' hdf' => ?_
      refine ih (listed.setIfInBounds j true) (pre ++ post) a' w' G' _ (by simp [hsz]) (by simp at hlen ⊢; omega) ?_ (fun i => ?_) (fun i hi o' ho' e he hb => ?_) (hg.mono hs'.le) hst' (hsz'.trans hN) k2 ?_
      · exact List.pairwise_append.2 ⟨hsplit.1, (List.pairwise_cons.1 hsplit.2.1).2, fun p hp q hq => hsplit.2.2 p hp q (by simp [hq])⟩
      · by_cases hij : j = i
        · subst hij
          have h1 : j ∉ pre := fun h => Nat.lt_irrefl _ (hpre j h)
          have h2 : j ∉ post := fun h => Nat.lt_irrefl _ ((List.pairwise_cons.1 hsplit.2.1).1 j h)
          have : j < listed.size := by omega
          simp [h1, h2, this]
        · have hne : ¬ i = j := fun h => hij h.symm
          rw [getD_set_ne true hij, ← hl i]
          simp [hne]
      · by_cases hij : j = i
        · subst hij
          rw [ho] at ho'; cases ho'
          exact getD_set_true (hall e he hb)
        · rw [getD_set_ne false hij] at hi
          exact getD_set_true (hdown i hi o' ho' e he hb)
      · intro a'' w'' G'' st'' h1 h2 h3 h4 h5 h6
        exact hpost a'' w'' G'' st'' (hk'.trans h1) (hs'.trans h2) h3 h4 (h5.trans hdf') (k3.trans h6)

theorem drawOk_spec {fos : List FO} (hfos : mapO (compFO P im ops) ops.toList = some fos) (hok : drawOk ops fos = true) (hdst : ∀ (i : Nat) (o : Oper), ops[i]? = some o → ∀ d, o.dst = some d → d < N)
    {fo : Nat → FO} {T : Nat → Tr} {trs : List Tr} (hfo : ∀ i (h : i < fos.length), fo i = fos[i]) (hT : ∀ i (h : i < trs.length), T i = trs[i]) (htl : trs.length = fos.length)
    (hprs : (pairsOf ops fos).all (fun p => disj ((trs.map (·.2.2)).getD p.1 []) ((trs.map (·.2.2)).getD p.2 [])) = true) : DrawOk (im := im) P ops fo T N := by
  obtain ⟨hl, hm⟩ := mapO_get hfos
  have hl' : fos.length = ops.size := by simpa using hl
  unfold drawOk at hok
  simp only [Bool.and_eq_true] at hok
  obtain ⟨⟨he, hc⟩, hp⟩ := hok
  refine ⟨fun i o hi => ?_, hdst, fun i o hi e hee hb => ?_, fun i hi => ?_, fun i j hij hj hbit => ?_⟩
  · obtain ⟨hlt, rfl⟩ := Array.getElem?_eq_some_iff.1 hi
    rw [hfo i (by omega)]
    exact hm i (by simpa using hlt) (by omega)
  · obtain ⟨hlt, rfl⟩ := Array.getElem?_eq_some_iff.1 hi
    unfold edgesOk at he
    rw [List.all_eq_true] at he
    have h1 := he (ops[i], i) (by rw [List.mk_mem_zipIdx_iff_getElem?]; simp [hlt])
    rw [List.all_eq_true] at h1
    have h2 := h1 e (by simpa using hee)
    simpa [hb] using h2
  · rw [List.all_eq_true] at hc
    rw [hfo i (by omega)]
    exact hc _ (List.getElem_mem _)
  · rw [List.all_eq_true] at hp
    have h1 := hp (fos[j], j) (by rw [List.mk_mem_zipIdx_iff_getElem?]; simp [hl', hj])
    rw [List.all_eq_true] at h1
    have hmem : (fos[i], i) ∈ (fos.take j).zipIdx := by rw [List.mk_mem_zipIdx_iff_getElem?, List.getElem?_take]; simp [hij, show i < fos.length by omega]
    have h2 := h1 (fos[i], i) hmem
    simp only [hbit, Bool.false_or] at h2
    rw [hfo i (by omega), hfo j (by omega)]
    refine ⟨h2, fun hcl => ?_⟩
    rw [List.all_eq_true] at hprs
    have h3 := hprs (i, j) (by
      unfold pairsOf
      simp only [List.mem_flatMap, List.mem_filterMap]
      refine ⟨(fos[j], j), by rw [List.mk_mem_zipIdx_iff_getElem?]; simp [hl', hj], (fos[i], i), hmem, ?_⟩
      simp only [hbit, hcl, Bool.not_false, Bool.and_self, if_true])
    rw [disj_iff] at h3
    have e1 : (trs.map (·.2.2)).getD i [] = (T i).2.2 := by rw [hT i (by omega)]; simp [show i < trs.length by omega]
    have e2 : (trs.map (·.2.2)).getD j [] = (T j).2.2 := by rw [hT j (by omega)]; simp [show j < trs.length by omega]
    simp only [e1, e2] at h3
    exact h3

/-- A region whose order is drawn. -/
theorem draw_wp (hmix : P.follows .mixedOrders = true) (hOp : OpOk F n P gl cl) (hEx : OpEx P gl cl) (hF : ∀ f, F.fn f) {id : Nat} {fos : List FO} {a : Act} {w : World} {G : Gh} {st st' : St}
    (hfos : mapO (compFO P im ops) ops.toList = some fos) (hok : drawOk ops fos = true) (hdst : ∀ (i : Nat) (o : Oper), ops[i]? = some o → ∀ d, o.dst = some d → d < a.tmps.size)
    (hg : GlOk w.heap G gl) (hst : StOk w.heap G st a.tmps) {ks : List (List Nat)} (hev : evFlat gl cl fos st = some (st', ks))
    (hprs : (pairsOf ops fos).all (fun p => disj (ks.getD p.1 []) (ks.getD p.2 [])) = true) {Q : Exit → Act → World → Prop}
    (hQ : ∀ a' w' G', Kept w w' → Step w.heap G st.hp w'.heap G' st'.hp → StOk w'.heap G' st' a'.tmps → a'.tmps.size = a.tmps.size → a'.defers = a.defers → Q .normal a' w') :
    (Code.region id ops true).wpIn F n P Q a w := by
  obtain ⟨trs, h1, rfl, h3⟩ := evFlat_run fos st st' ks 0 hev
  obtain ⟨hl, _⟩ := mapO_get hfos
  have hl' : fos.length = ops.size := by simpa using hl
  let fo : Nat → FO := fun i => fos.getD i default
  let T : Nat → Tr := fun i => trs.getD i (.unk, [], [])
  have hfo : ∀ i (h : i < fos.length), fo i = fos[i] := fun i h => by simp [fo, h]
  have hT : ∀ i (h : i < trs.length), T i = trs[i] := fun i h => by simp [T, h]
  obtain ⟨k1, k2⟩ := h3 fo T (fun i h => by rw [Nat.zero_add]; exact hfo i h) (fun i h => by rw [Nat.zero_add]; exact hT i h)
  have hD := drawOk_spec hfos hok hdst hfo hT h1 hprs
  have hrange : List.range' 0 fos.length = List.range ops.size := by rw [hl', List.range_eq_range']
  rw [hrange] at k1 k2
  refine wpIn_region_any hmix (draw_any hOp hEx hF hD ops.size _ (List.range ops.size) a { w with drawn := w.drawn + 1 } G st (by simp) (by simp) List.pairwise_lt_range (fun i => ?_) (fun i hi => ?_) hg hst rfl k1 ?_)
  · rw [List.mem_range]
    constructor
    · intro h; exact ⟨h, by simp [Array.getD_eq_getD_getElem?, h]⟩
    · exact fun h => h.1
  · exfalso
    simp only [Array.getD_eq_getD_getElem?] at hi
    by_cases h : i < ops.size <;> simp [h] at hi
  · intro a' w' G' s2 g1 g2 g3 g4 g5 g6
    rw [k2] at g6
    exact hQ a' w' G' g1 (g2.ext fun k => (g6.hp k).symm) (g3.ext g6.symm) g4 g5
end Go.Ev
