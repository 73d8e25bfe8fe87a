/-
  Steps by hand beside the evaluator's: for given functions. No condition.
-/
import Derived.Test.YtdbppejfcolacaaEvGiv
import Derived.TacticsIn
namespace Go.Ev
open Go
set_option linter.unusedSimpArgs false
set_option linter.unusedVariables false
variable {P : Program} {F : Fence} {n : Nat} {gl : Gl} {cl : Cl} {L : Prop}

/-- How a function ends whose results name objects. -/
theorem gen_end {fn : Func} {rds : List ResD} (hres : mapO (compRes P) fn.results.toList = some rds) {imps : Hp} {a a' : Act} {w w' : World} {G G' : Gh} {st' : St} (hc : Came True gl a w G imps a' w' G' st') {rs : List AV} (hrs : readAll st' rds = some rs)
    {E : List Nat} {z : List AV × Hp × List OB} (hz : packG st' (keysH imps) rs E = some z) {r : AV} {os : Hp} {es : List OB} (he : (oneOr z.1, z.2.1, z.2.2) = (r, os, es)) :
    ∃ v, (results fn a'.tmps).run P w' = .ok v w' ∧ ∃ v1 G1, Ending.returned v = .returned v1 ∧ Kept w w' ∧ Move w.heap G imps w'.heap G1 (os ++ hpNew 0 es) ∧ (imps ≠ [] → ∀ q, SHK ≤ q → ∀ r, G1.reg q = some r → ∃ r0, G.reg q = some r0 ∧ r0.le r) ∧ RepT w'.heap G1 v1 r := by
  obtain ⟨l, os', es'⟩ := z
  simp only [Prod.mk.injEq] at he
  obtain ⟨he1, rfl, rfl⟩ := he
  obtain ⟨us, g1, g2, g3, g4⟩ := readAll_ok hc.ok hres hrs
  obtain ⟨k1, k2, kh, k3, k4⟩ := packG_ok hc.ok hz (by omega) g4
  have hrun := run_results (fn := fn) (vs := us) (by simpa using g1) fun i hi hi' => by
    have := g3 i (by simpa using hi) hi'
    simpa using this
  refine ⟨_, hrun, _, genGh G' (keysH imps) E, rfl, hc.kept, ?_, fun _ q hq r hr => hc.hand trivial q hq r (kh q hq r hr), ?_⟩
  · have m := hc.move
    exact ⟨k1, m.size, m.imm, m.yl, m.same, fun b hb => m.live b (k2 b hb), m.immNew⟩
  · subst he1
    match us, l, k3, g1, g2, k4 with
    | [], [], _, _, _, _ => exact ⟨#[], rfl, rfl, fun i h => by simp at h⟩
    | [u], [x], _, _, _, k4 =>
      have := k4 0 (by simp) (by simp)
      exact (RepT.of_known this.known).2 this
    | u1 :: u2 :: us, x1 :: x2 :: l, _, _, _, k4 =>
      refine ⟨_, rfl, by simp only [List.size_toArray]; simp only [List.length_cons] at *; omega, fun i h h' => ?_⟩
      have := k4 i (by simpa using h) h'
      simpa using this
    | [], _ :: _, h1, h2, h3, _ => simp at *; omega
    | [_], [], h1, h2, h3, _ => simp at *; omega
    | [_], _ :: _ :: _, h1, h2, h3, _ => simp at *; omega
    | _ :: _ :: _, [], h1, h2, h3, _ => simp at *; omega
    | _ :: _ :: _, [_], h1, h2, h3, _ => simp at *; omega

theorem came_refl {a : Act} {w : World} {G : Gh} {st : St} (h : StOk w.heap G st a.tmps) : Came L gl a w G st.hp a w G st :=
  ⟨Kept.refl w, Move.refl h.inv, h, rfl, rfl, fun _ _ _ r h => ⟨r, h, Rg.le_refl r⟩⟩
/-- One operation's step. -/
theorem came_step {a a1 : Act} {w w1 w2 : World} {G G1 G2 : Gh} {hp : Hp} {st : St} {d : Option Nat} {v : AV} {v' : Value} {us : Hp} (hc : Came L gl a w G hp a1 w1 G1 st) (hd : ∀ i, d = some i → i < a1.tmps.size) (hk : Kept w1 w2)
    (hs : Step w1.heap G1 st.hp w2.heap G2 (us ++ st.hp)) (hv : RepT w2.heap G2 v' v) (hlt : L → ∀ k o, (k, o) ∈ us → st.hp.get k ≠ none ∨ k < SHK) :
    Came L gl a w G hp (a1.put d v') w2 G2 (st.upd d v us) :=
  hc.trans ⟨hk, hs.move, stOk_upd hc.ok hd hs hv, put_size _ _ _, put_defers _ _ _, fun l q hq r hr => step_hand hc.ok.inv hs (fun q hq hn => upd_new (fr := st.fr) (hlt l) hq hn) hq hr⟩
/-- What is known of memory is said in another way. -/
theorem came_ghost {a a1 : Act} {w w1 : World} {G G1 G2 : Gh} {hp : Hp} {st : St} {us : Hp} (hc : Came L gl a w G hp a1 w1 G1 st)
    (hs : Step w1.heap G1 st.hp w1.heap G2 (us ++ st.hp)) (hlt : L → ∀ k o, (k, o) ∈ us → st.hp.get k ≠ none ∨ k < SHK) : Came L gl a w G hp a1 w1 G2 { fr := st.fr, hp := us ++ st.hp } :=
  hc.trans ⟨Kept.refl _, hs.move, ⟨hs.inv, fun i => (hc.ok.fr i).mono hs.le⟩, rfl, rfl, fun l q hq r hr => step_hand hc.ok.inv hs (fun q hq hn => upd_new (fr := st.fr) (hlt l) hq hn) hq hr⟩
/-- Of a variable's value less is known, or the same in another way. -/
theorem came_fr {a a1 : Act} {w w1 : World} {G G1 : Gh} {hp : Hp} {st : St} {fr : Fr} (hc : Came L gl a w G hp a1 w1 G1 st) (h : ∀ i, RepT w1.heap G1 (a1.tmps.getD i undef) (fr.get i)) : Came L gl a w G hp a1 w1 G1 { fr, hp := st.hp } :=
  ⟨hc.kept, hc.move, ⟨hc.ok.inv, h⟩, hc.size, hc.defers, hc.hand⟩

/-- Operations that the evaluator has. -/
def itsOf : List (Option Nat × MOp) → Its
  | [] => .nil
  | (d, m) :: l => .op d m (itsOf l)
theorem ops_ev {im : Im} {ops : Array Oper} {Q : Exit → Act → World → Prop} (hop : OpOk F n P gl cl) : ∀ (os : List Oper) (ms : List MOp), mapO (compOp P im) os = some ms → (∀ o ∈ os, o.guard = none) →
    ∀ (a : Act) (w : World) (G : Gh) (st st' : St), (∀ o ∈ os, ∀ d, o.dst = some d → d < a.tmps.size) → (L → (os.zip ms).all (fun q => ltO q.1.dst) = true) → GlOk w.heap G gl → StOk w.heap G st a.tmps →
      evIts gl cl (itsOf ((os.zip ms).map fun q => (q.1.dst, q.2))) st = some st' → ∀ rest, (∀ a' w' G', Came L gl a w G st.hp a' w' G' st' → wpListIn F n P ops Q rest a' w') → wpListIn F n P ops Q (os ++ rest) a w
  | [], ms, h, _, a, w, G, st, st', _, _, _, hst, hev, rest, hK => by
    simp only [mapO, Option.some.injEq] at h
    subst h
    simp only [List.zip_nil_left, List.map_nil, itsOf, evIts, Option.some.injEq] at hev
    subst hev
    exact hK a w G (came_refl hst)
  | o :: os, ms, h, hgd, a, w, G, st, st', hd, hlt, hg, hst, hev, rest, hK => by
    simp only [mapO, Option.bind_eq_some_iff, Option.map_eq_some_iff] at h
    obtain ⟨m, hm, ms', hms, rfl⟩ := h
    simp only [List.zip_cons_cons, List.map_cons, itsOf, evIts, Option.bind_eq_some_iff] at hev
    obtain ⟨⟨v, us⟩, h1, hev⟩ := hev
    refine wpListIn_plain (hgd o (by simp)) fun K hK' => hop o m a w G st v us hg hst hm h1 K Q fun v' w' G' hk hs hv => hK' _ _ ?_
    have hdo : ∀ i, o.dst = some i → i < a.tmps.size := fun i hi => hd o (by simp) i hi
    have hc1 : Came L gl a w G st.hp (a.put o.dst v') w' G' (st.upd o.dst v us) := came_step (came_refl hst) hdo hk hs hv fun l => by
      have := hlt l
      simp only [List.zip_cons_cons, List.all_cons, Bool.and_eq_true] at this
      exact stepOp_new this.1 h1
    refine ops_ev hop os ms' hms (fun o ho => hgd o (by simp [ho])) _ w' G' _ st' (fun o ho d hd' => by rw [put_size]; exact hd o (by simp [ho]) d hd') (fun l => by
      have := hlt l
      simp only [List.zip_cons_cons, List.all_cons, Bool.and_eq_true] at this
      exact this.2) (hg.mono hs.le) hc1.ok hev rest fun a2 w2 G2 hc2 => hK a2 w2 G2 (hc1.trans hc2)
/-- One operation by hand. -/
theorem val_op {ops : Array Oper} {Q : Exit → Act → World → Prop} {o : Oper} {rest : List Oper} {a : Act} {w w' : World} {v' : Value} (hF : ∀ f, F.fn f) (hgd : o.guard = none) (hnd : ∀ c, o.op ≠ .defer c) (h : (execOp a.eval o).run P w = .ok (.value v') w')
    (hK : wpListIn F n P ops Q rest (a.put o.dst v') w') : wpListIn F n P ops Q (o :: rest) a w := by
  refine wpListIn_plain hgd fun K hK' => ?_
  unfold Oper.wpIn
  refine ⟨fun f _ => hF f, ?_⟩
  rw [Oper.semAt_eq _ _ _ hnd, h, Oper.uponIn_value]; exact hK' _ _ hK
/-- Codes one after the other. -/
def seqs (cs : List Code) (rest : Code) : Code := cs.foldr Code.seq rest
def evSeq (gl : Gl) (cl : Cl) : List MC → St → Option (Ex × St)
  | [], st => some (.norm, st)
  | m :: ms, st => (evC gl cl m st).bind fun r => match r.1 with
    | .norm => evSeq gl cl ms r.2
    | e => some (e, r.2)
theorem seqs_wp {an : Ann} {id N : Nat} (S : Setting P F n gl cl) : ∀ (cs : List Code) (ms : List MC), mapO (comp P an id) cs = some ms → (L → ms.all mcLt = true) → cs.all (dstOk N) = true → ∀ (a : Act) (w : World) (G : Gh) (st st' : St) (e : Ex),
    GlOk w.heap G gl → StOk w.heap G st a.tmps → a.tmps.size = N → evSeq gl cl ms st = some (e, st') → ∀ (Q : Exit → Act → World → Prop) (rest : Code),
      (∀ a' w' G', Came L gl a w G st.hp a' w' G' st' → match e with | .norm => rest.wpIn F n P Q a' w' | e => Q (exOf e) a' w') → (seqs cs rest).wpIn F n P Q a w
  | [], ms, h, _, _, a, w, G, st, st', e, hg, hst, hN, hev, Q, rest, hK => by
    simp only [mapO, Option.some.injEq] at h
    subst h
    simp only [evSeq, Option.some.injEq, Prod.mk.injEq] at hev
    obtain ⟨rfl, rfl⟩ := hev
    exact hK a w G (came_refl hst)
  | c :: cs, ms, h, hlt, hd, a, w, G, st, st', e, hg, hst, hN, hev, Q, rest, hK => by
    simp only [mapO, Option.bind_eq_some_iff, Option.map_eq_some_iff] at h
    obtain ⟨m, hm, ms', hms, rfl⟩ := h
    simp only [List.all_cons, Bool.and_eq_true] at hlt hd
    simp only [evSeq, Option.bind_eq_some_iff] at hev
    obtain ⟨⟨e1, st1⟩, h1, hev⟩ := hev
    refine wpIn_seq (code_wp (L := L) S c id m hm (fun l => (hlt l).1) hd.1 a w G st st1 e1 hg hst hN h1 _ fun a1 w1 G1 hc1 => ?_)
    cases e1 with
    | norm =>
      exact seqs_wp S cs ms' hms (fun l => (hlt l).2) hd.2 a1 w1 G1 st1 st' e (hg.moved hc1.move) hc1.ok (hc1.size.trans hN) hev Q rest fun a2 w2 G2 hc2 => hK a2 w2 G2 (hc1.trans hc2)
    | exit j =>
      simp only [Option.some.injEq, Prod.mk.injEq] at hev
      obtain ⟨rfl, rfl⟩ := hev
      exact hK a1 w1 G1 hc1
    | ret =>
      simp only [Option.some.injEq, Prod.mk.injEq] at hev
      obtain ⟨rfl, rfl⟩ := hev
      exact hK a1 w1 G1 hc1
/-- Some variables are kept in mind. -/
def keepFr (fr : Fr) (ks : List Nat) : Fr := ks.map fun i => .set i (fr.get i)
theorem keepFr_get {fr : Fr} : ∀ {ks : List Nat} {i : Nat}, (keepFr fr ks).get i = fr.get i ∨ (keepFr fr ks).get i = .unk
  | [], i => .inr rfl
  | k :: ks, i => by
    simp only [keepFr, List.map_cons, Fr.get]
    by_cases h : k = i
    · subst h; simp
    · rw [if_neg h]; exact keepFr_get (ks := ks)
theorem came_keep {a a1 : Act} {w w1 : World} {G G1 : Gh} {hp : Hp} {st : St} (ks : List Nat) (hc : Came L gl a w G hp a1 w1 G1 st) : Came L gl a w G hp a1 w1 G1 { fr := keepFr st.fr ks, hp := st.hp } :=
  came_fr hc fun i => by
    rcases keepFr_get (fr := st.fr) (ks := ks) (i := i) with h | h <;> rw [h]
    · exact hc.ok.fr i
    · trivial
end Go.Ev
