/-
  Calls. No condition.
-/
import Derived.Test.YtdbppejfcolacaaEvCall1
set_option linter.unusedVariables false
set_option linter.unusedSimpArgs false
set_option linter.unusedSectionVars false
namespace Go.Ev
open Go
set_option linter.unusedSimpArgs false

variable {im : Im} {P : Program} {F : Fence} {gl : Gl} {cl : Cl} {w : World} {H : Heap} {G G' : Gh} {st : St}

def Entered (P : Program) (f : Nat) : Prop := ∃ fn, P.funcs[f]? = some fn ∧ (fn.name == "runtime.NumGoroutine") = false ∧ fn.body.isNone = false
/-- What is known of a call. -/
def CallOk (P : Program) (F : Fence) (gl : Gl) (cl : Cl) : Prop :=
  ∀ (f : Nat) (as : List AV) (imps : Hp) (r : AV) (imps' : Hp) (es : List OB), cl f as imps = some (r, imps', es) → Entered P f ∧
    ∀ (n : Nat) (w : World) (vs : Array Value) (G : Gh), Inv w.heap G imps → GlOk w.heap G gl → vs.size = as.length → (∀ i (h : i < vs.size) (h' : i < as.length), RepV w.heap G vs[i] as[i]) →
      CallsIn F n P f vs w fun e w' => ∃ v G', e = .returned v ∧ Kept w w' ∧ Move w.heap G imps w'.heap G' (imps' ++ hpNew 0 es) ∧ (imps ≠ [] → ∀ q, SHK ≤ q → ∀ r, G'.reg q = some r → ∃ r0, G.reg q = some r0 ∧ r0.le r) ∧ RepT w'.heap G' v r

theorem good_wp {n : Nat} {o : Oper} {a : Act} {hp : Hp} {v : AV} {us : Hp} (hF : ∀ f, F.fn f) (hnd : ∀ c, o.op ≠ .defer c) (h : Good P w G hp (execOp a.eval o) v us) {K : Act → World → Prop} {Q : Exit → Act → World → Prop}
    (hK : ∀ v' w' G', Kept w w' → Step w.heap G hp w'.heap G' (us ++ hp) → RepT w'.heap G' v' v → K (a.put o.dst v') w') : o.wpIn F n P a w K Q := by
  obtain ⟨v', w', G', hk, hr, hs, hv⟩ := h
  unfold Oper.wpIn
  refine ⟨fun f _ => hF f, ?_⟩
  rw [Oper.semAt_eq _ _ _ hnd]
  rcases hr with hr | ⟨hr, rfl⟩
  · rw [hr, Oper.uponIn_value]; exact hK v' w' G' hk hs hv
  · rw [hr, Oper.uponIn_skip]; exact hK undef w' G' hk hs hv

theorem layNew_get {hp : Hp} {d : Nat} : ∀ {es : List OB} {j : Nat} {us : Hp}, layNew hp d j es = some us → (∀ k o, us.get k = some o ↔ ∃ i, ∃ h : i < es.length, k = d + 1000 * (j + i) ∧ es[i] = o) ∧
    (∀ e ∈ es, ∃ sh els, e = .grow sh els)
  | [], j, us, h => by
    simp only [layNew, Option.some.injEq] at h
    subst h
    exact ⟨fun k o => by simp [Hp.get], fun e he => by cases he⟩
  | .grow sh els :: es, j, us, h => by
    simp only [layNew] at h
    rw [Option.ite_none_right_eq_some] at h
    obtain ⟨_, h⟩ := h
    simp only [Option.map_eq_some_iff] at h
    obtain ⟨r, hr, rfl⟩ := h
    obtain ⟨g1, g2⟩ := layNew_get hr
    refine ⟨fun k o => ?_, fun e he => ?_⟩
    · rw [Hp.get_cons]
      by_cases hk : d + 1000 * j = k
      · simp only [hk, if_true, Option.some.injEq]
        constructor
        · intro he; exact ⟨0, by simp, by omega, he⟩
        · rintro ⟨i, hi, hk', he⟩
          have : i = 0 := by omega
          subst this; exact he
      · simp only [hk, if_false]
        rw [g1]
        constructor
        · rintro ⟨i, hi, hk', he⟩; exact ⟨i + 1, by simpa using hi, by omega, by simpa using he⟩
        · rintro ⟨i, hi, hk', he⟩
          cases i with
          | zero => exact absurd (by omega) hk
          | succ i => exact ⟨i, by simpa using hi, by omega, by simpa using he⟩
    · rcases List.mem_cons.1 he with rfl | he
      · exact ⟨sh, els, rfl⟩
      · exact g2 e he
  | .fix _ _ :: _, _, _, h => by simp [layNew] at h
  | .dead :: _, _, _, h => by simp [layNew] at h
  | .log _ _ _ :: _, _, _, h => by simp [layNew] at h

mutual
theorem rn_norefs (d : Nat) : ∀ (a : AV), a.refs = [] → rn d a = a
  | .agg _, _ => rfl
  | .bool _, _ => rfl
  | .int _ _, _ => rfl
  | .str _, _ => rfl
  | .s _, _ => rfl
  | .lst _ _ _, _ => rfl
  | .cp _ _, _ => rfl
  | .unk, _ => rfl
  | .aggR l, h => by rw [AV.refs] at h; rw [rn, rns_norefs d l h]
  | .tup l, h => by rw [AV.refs] at h; rw [rn, rns_norefs d l h]
  | .sl _ _ _ _, h => by simp [AV.refs] at h
  | .ptr _ _, h => by simp [AV.refs] at h
  | .arp _ _ _ _, h => by simp [AV.refs] at h
  | .fn _ l, h => by rw [AV.refs] at h; rw [rn, rns_norefs d l h]
  | .yld _, _ => rfl
theorem rns_norefs (d : Nat) : ∀ (l : List AV), AV.refss l = [] → rns d l = l
  | [], _ => rfl
  | a :: l, h => by
    rw [AV.refss, List.append_eq_nil_iff] at h
    rw [rns, rn_norefs d a h.1, rns_norefs d l h.2]
end

/-- How a caller sees what a callee has made. -/
noncomputable def afterGh (G G' : Gh) (size d m : Nat) : Gh :=
  { imm := fun b => G.imm b ∨ (size ≤ b ∧ G'.imm b)
    yl := G'.yl
    reg := fun k => match G.reg k with
      | some r => some r
      | none => if d ≤ k ∧ (k - d) % 1000 = 0 ∧ (k - d) / 1000 < m then G'.reg (20000 + (k - d) / 1000) else none }

theorem afterGh_new {G G' : Gh} {size d m i : Nat} (h : G.reg (d + 1000 * i) = none) (hi : i < m) : (afterGh G G' size d m).reg (d + 1000 * i) = G'.reg (20000 + i) := by
  simp only [afterGh, h]
  have e : d + 1000 * i - d = 1000 * i := by omega
  rw [e, if_pos ⟨by omega, by omega, by omega⟩]
  congr 1
  omega
theorem afterGh_old {G G' : Gh} {size d m k : Nat} {r : Rg} (h : G.reg k = some r) : (afterGh G G' size d m).reg k = some r := by simp [afterGh, h]

/-- Behind a call. -/
theorem after_call {hp : Hp} {G0 : Gh} {w' : World} {d : Nat} {es : List OB} {us : Hp} {v : Value} {r : AV} (inv : Inv w.heap G hp) (himm : ∀ b, G.imm b → G0.imm b) (hyl : G0.yl = G.yl)
    (m : Move w.heap G0 [] w'.heap G' (hpNew 0 es)) (hv : RepT w'.heap G' v r) (hor : (∀ b, G0.imm b → G.imm b) ∨ (noImm r = true ∧ es.all noImmOB = true))
    (hus : layNew hp d 0 es = some us) : ∃ G'', Step w.heap G hp w'.heap G'' (us ++ hp) ∧ RepT w'.heap G'' v (rn d r) := by
  obtain ⟨hget, hgrow⟩ := layNew_get hus
  have hfresh := (layNew_frame (hp' := hp) hus fun _ _ _ h => h).2
  have hnone : ∀ i, i < es.length → hp.get (d + 1000 * i) = none := fun i hi => by
    have := (hget (d + 1000 * i) es[i]).2 ⟨i, hi, by omega, rfl⟩
    exact hfresh _ _ (Hp.get_mem this)
  have hregn : ∀ i, i < es.length → G.reg (d + 1000 * i) = none := fun i hi => inv.out _ (hnone i hi)
  have hnl : ∀ b, ¬ Live G0 [] b := fun b ⟨k, r, ⟨o, ho, _⟩, _⟩ => by cases ho
  have hsame : ∀ b, b < w.heap.size → w'.heap[b]? = w.heap[b]? := fun b hb => m.same b hb (hnl b)
  have hnew : ∀ k b rr, liveOb (hpNew 0 es) k → G'.At k b rr → w.heap.size ≤ b := fun k b rr hl hr => by
    rcases m.live b ⟨k, rr, hl, hr⟩ with h | h
    · exact absurd h (hnl b)
    · exact h
  let G2 := afterGh G G' w.heap.size d es.length
  have hreg2 : ∀ i, i < es.length → G2.reg (d + 1000 * i) = G'.reg (20000 + i) := fun i hi => afterGh_new (hregn i hi) hi
  have hle : Le w.heap G w'.heap G2 := ⟨fun b hb => ⟨.inl hb, (m.imm b (himm b hb)).2⟩, regKeep fun k rr h => afterGh_old h, fun i l h => m.yl i l (hyl ▸ h)⟩
  have himm2 : (∀ b, G0.imm b → G.imm b) → ∀ b, G'.imm b → G2.imm b := fun h b hb => by
    rcases m.immNew b hb with h1 | h1 | h1
    · exact .inl (h b h1)
    · exact .inr ⟨h1, hb⟩
    · exact absurd h1 (hnl b)
  have hcase : ∀ k o, (us ++ hp).get k = some o → (∃ i, ∃ h : i < es.length, k = d + 1000 * i ∧ es[i] = o) ∨ hp.get k = some o := fun k o hk => by
    rw [Hp.get_append] at hk
    split at hk
    · rename_i o' ho'
      cases hk
      obtain ⟨i, hi, h1, h2⟩ := (hget k o).1 ho'
      exact .inl ⟨i, hi, by omega, h2⟩
    · exact .inr hk
  have hlcase : ∀ k b rr, liveOb (us ++ hp) k → G2.At k b rr → (∃ i, i < es.length ∧ k = d + 1000 * i ∧ liveOb (hpNew 0 es) (20000 + i) ∧ G'.At (20000 + i) b rr) ∨ (liveOb hp k ∧ G.At k b rr) := by
    rintro k b rr ⟨o, ho, hd⟩ hr
    rcases hcase k o ho with ⟨i, hi, rfl, he⟩ | ho
    · left
      refine ⟨i, hi, rfl, ⟨o, hpNew_get.2 ⟨i, hi, by omega, he⟩, hd⟩, ?_⟩
      exact (Gh.at_congr (hreg2 i hi).symm).2 hr
    · right
      refine ⟨⟨o, ho, hd⟩, ?_⟩
      cases hg : G.reg k with
      | some r' => exact (Gh.at_congr (hg.trans (show G2.reg k = some r' from afterGh_old hg).symm)).2 hr
      | none =>
        exfalso
        have := inv.obs k o ho
        cases o with
        | fix sh a => obtain ⟨_, _, _, _, h, _⟩ := this; rw [hg] at h; cases h
        | grow sh els =>
          rcases this with ⟨_, h⟩ | ⟨_, _, _, _, _, h, _⟩
          · rw [hg] at h; cases h
          · rw [hg] at h; cases h
        | dead => obtain ⟨_, h⟩ := this; rw [hg] at h; cases h
        | log _ _ _ => obtain ⟨_, _, _, h, _⟩ := this; rw [hg] at h; cases h
  have hL : ∀ b, Live G2 (us ++ hp) b → Live G hp b ∨ (w.heap.size ≤ b ∧ Live G' (hpNew 0 es) b) := by
    rintro b ⟨k, rr, hl, hr⟩
    rcases hlcase k b rr hl hr with ⟨i, hi, _, h1, h2⟩ | ⟨h1, h2⟩
    · exact .inr ⟨hnew _ b rr h1 h2, ⟨_, rr, h1, h2⟩⟩
    · exact .inl ⟨k, rr, h1, h2⟩
  refine ⟨G2, ⟨⟨?_, ?_, ?_, ?_, ?_⟩, hle, m.size, fun b hb _ => hsame b hb, fun b hb => (hL b hb).imp id And.left, fun b hb => ?_⟩, ?_⟩
  · intro k o hk
    rcases hcase k o hk with ⟨i, hi, rfl, rfl⟩ | hk
    · obtain ⟨sh, els, he⟩ := hgrow es[i] (List.getElem_mem hi)
      have hob := m.inv.obs (20000 + i) es[i] (hpNew_get.2 ⟨i, hi, by omega, rfl⟩)
      rw [he] at hob ⊢
      rcases hob with ⟨h1, h2⟩ | ⟨b, cap, c, e, fz, h1, h2, h3, h4, h5, h6, h7⟩
      · exact .inl ⟨h1, (hreg2 i hi).trans h2⟩
      · refine .inr ⟨b, cap, c, e, fz, (hreg2 i hi).trans h1, h2, h3, h4, h5, h6, fun j hj => ?_⟩
        obtain ⟨u, hu1, hu2⟩ := h7 j hj
        refine ⟨u, hu1, ?_⟩
        have hno : ∀ k ∈ (AV.flats els)[j].refs, False := fun k hk => by
          rw [plain_flats els ((AV.wfp_iff els).2 fun x hx => (h6 x hx).2) _ (List.getElem_mem hj)] at hk; cases hk
        have hr := hu2.rename (G' := G2) (d := 0) (fun hni => ?_) (fun i l h => h) fun k hk => (hno k hk).elim
        · rwa [rn_norefs 0 _ (List.eq_nil_iff_forall_not_mem.2 hno)] at hr
        · rcases hor with h | ⟨_, h⟩
          · exact himm2 h
          · exfalso
            rw [List.all_eq_true] at h
            have := h es[i] (List.getElem_mem hi)
            rw [he] at this
            simp only [noImmOB] at this
            rw [noImms_flats els this _ (List.getElem_mem hj)] at hni; cases hni
    · exact ObOk.mono hle (fun hl b rr hr => hsame b (inv.lt b ⟨k, rr, hl, hr⟩)) (fun _ h => afterGh_old h) hk (inv.obs k o hk)
  · intro k hk
    rw [Hp.get_append] at hk
    split at hk
    · cases hk
    · rename_i hu
      have h1 := inv.out k hk
      simp only [G2, afterGh, h1]
      rw [if_neg]
      rintro ⟨h2, h3, h4⟩
      have hk' : k = d + 1000 * (0 + (k - d) / 1000) := by omega
      have := (hget k es[(k - d) / 1000]).2 ⟨(k - d) / 1000, h4, hk', rfl⟩
      rw [hu] at this; cases this
  · intro k k' b rr rr' hr hr' hl hl'
    rcases hlcase k b rr hl hr with ⟨i, hi, rfl, h1, h2⟩ | ⟨h1, h2⟩
    · rcases hlcase k' b rr' hl' hr' with ⟨i', hi', rfl, h1', h2'⟩ | ⟨h1', h2'⟩
      · have := m.inv.dist _ _ b rr rr' h2 h2' h1 h1'
        have : i = i' := by omega
        rw [this]
      · have e1 := hnew _ b rr h1 h2
        have e2 := inv.lt b ⟨k', rr', h1', h2'⟩
        omega
    · rcases hlcase k' b rr' hl' hr' with ⟨i', hi', rfl, h1', h2'⟩ | ⟨h1', h2'⟩
      · have e1 := hnew _ b rr' h1' h2'
        have e2 := inv.lt b ⟨k, rr, h1, h2⟩
        omega
      · exact inv.dist k k' b rr rr' h2 h2' h1 h1'
  · intro b hb
    rcases hb with hb | ⟨hs, hb⟩
    · have h1 := inv.imm b hb
      refine ⟨Nat.lt_of_lt_of_le h1.1 m.size, fun hl => ?_⟩
      rcases hL b hl with h | ⟨h, _⟩
      · exact h1.2 h
      · omega
    · have h1 := m.inv.imm b hb
      refine ⟨h1.1, fun hl => ?_⟩
      rcases hL b hl with h | ⟨_, h⟩
      · have := inv.lt b h; omega
      · exact h1.2 h
  · intro b hb
    rcases hL b hb with h | ⟨_, h⟩
    · exact Nat.lt_of_lt_of_le (inv.lt b h) m.size
    · exact m.inv.lt b h
  · rcases hb with hb | ⟨hs, _⟩
    · exact .inl hb
    · exact .inr (.inl hs)
  · refine hv.rename (hor.symm.imp And.left himm2) (fun i l h => h) fun k hk => ?_
    obtain ⟨rr, hr⟩ := hv.known_refs k hk
    obtain ⟨o, ho⟩ := m.inv.reg_get hr
    obtain ⟨i, hi, hk', _⟩ := hpNew_get.1 ho
    have e : ren d k = d + 1000 * i := by unfold ren; rw [if_pos (by omega)]; omega
    rw [e, hreg2 i hi]
    congr 1
    omega

/-- The ghost with which a callee begins. -/
def lendGh (G : Gh) (hp : Hp) (all : Bool) : Gh := { imm := fun b => G.imm b ∨ (all = true ∧ Live G hp b), yl := G.yl, reg := fun _ => none }
theorem lendGh_inv {hp : Hp} (inv : Inv H G hp) (all : Bool) : Inv H (lendGh G hp all) [] where
  obs k o h := by cases h
  out k _ := rfl
  dist k k' b r r' _ _ h := by obtain ⟨o, ho, _⟩ := h; cases ho
  imm b hb := ⟨by
    rcases hb with hb | ⟨_, hb⟩
    · exact (inv.imm b hb).1
    · exact inv.lt b hb, fun ⟨k, r, ⟨o, ho, _⟩, _⟩ => by cases ho⟩
  lt b hb := by obtain ⟨k, r, ⟨o, ho, _⟩, _⟩ := hb; cases ho

theorem lend_plain {hp : Hp} {n : Nat} {a : AV} (h : a.plain = true) : lendAV hp n a = some a := by cases n <;> simp [lendAV, h]
theorem lends_plain {hp : Hp} {n : Nat} : ∀ {l : List AV}, AV.plains l = true → mapO (lendAV hp n) l = some l
  | [], _ => rfl
  | a :: l, h => by
    simp only [AV.plains, Bool.and_eq_true] at h
    simp [mapO, lend_plain h.1, lends_plain h.2]

theorem valsE_get (gl : Gl) {fr : Fr} : ∀ {l : List Opd} {i : Nat} (h : i < (vals gl fr l).length) (h' : i < l.length), (vals gl fr l)[i] = l[i].val gl fr
  | x :: l, 0, _, _ => rfl
  | x :: l, i + 1, h, h' => by
    have := valsE_get gl (fr := fr) (l := l) (i := i) (by simpa [vals] using h) (by simpa using h')
    simpa [vals] using this
theorem vals_length {fr : Fr} : ∀ {l : List Opd}, (vals gl fr l).length = l.length
  | [] => rfl
  | x :: l => by simp [vals, vals_length (l := l)]

/-- A call's law: a function value that is known, arguments lent. -/
theorem lend_call (hF : ∀ f, F.fn f) (hdep : F.depth = none) (hcall : CallOk P F gl cl) {n : Nat} {o : Oper} {c : Call} {a : Act} {x : Operand} {f d : Nat} {cs : Array Value} {args : List AV} {v : AV} {us : Hp} {tmps : Array Value}
    (ho : o.op = .call c) (hc : c.callee = .value x) (hx : a.eval x = .func (.func f) #[] cs) (hg : GlOk w.heap G gl) (hst : StOk w.heap G st tmps)
    (hargs : (c.args.map a.eval ++ cs).size = args.length) (hrep : ∀ i (h : i < (c.args.map a.eval ++ cs).size) (h' : i < args.length), RepT w.heap G (c.args.map a.eval ++ cs)[i] args[i])
    (h : doCall cl st.hp d f args .lend = some (v, us)) {K : Act → World → Prop} {Q : Exit → Act → World → Prop}
    (hK : ∀ v' w' G', Kept w w' → Step w.heap G st.hp w'.heap G' (us ++ st.hp) → RepT w'.heap G' v' v → K (a.put o.dst v') w') : o.wpIn F n P a w K Q := by
  obtain ⟨as, r, es, has, hcl, hor, hres⟩ := doCall_lend h
  obtain ⟨⟨fn, hfn, hname, hbody⟩, hcalls⟩ := hcall f as [] r [] es hcl
  have hrun : (execOp a.eval o).run P w = .ok (.enter f (c.args.map a.eval ++ cs)) w := by
    have hcf : (callFunc f (c.args.map a.eval ++ cs)).run P w = .ok (.enter f (c.args.map a.eval ++ cs)) w := by
      have hp : (program : Sem Program).run P w = .ok P w := rfl
      simp only [callFunc, Sem.run_bind, hp, Result.andThen_ok, hfn, hname, hbody, Bool.false_eq_true, if_false, Sem.run_pure]
    simp only [execOp, ho, resolve, hc, hx, Deferred.ofValue, Sem.run_bind, Sem.run_pure, Result.andThen_ok, Array.empty_append, invoke, hcf]
  unfold Oper.wpIn
  refine ⟨fun f _ => hF f, ?_⟩
  rw [Oper.semAt_eq _ _ _ (by rw [ho]; intro c h; cases h), hrun, Oper.uponIn_enter]
  refine ⟨fun h => (by rw [hdep] at h; cases h), ?_⟩
  -- which blocks are lent
  obtain ⟨G0, inv0, himm0, hyl0, hor0, hlent⟩ : ∃ G0, Inv w.heap G0 [] ∧ (∀ b, G.imm b → G0.imm b) ∧ G0.yl = G.yl ∧ ((∀ b, G0.imm b → G.imm b) ∨ (noImm r = true ∧ es.all noImmOB = true)) ∧
      ∀ i (h : i < (c.args.map a.eval ++ cs).size) (h' : i < as.length), RepV w.heap G0 (c.args.map a.eval ++ cs)[i] as[i] := by
    have hlen := (mapO_get has).1
    rcases hor with hpl | hor
    · refine ⟨lendGh G st.hp false, lendGh_inv hst.inv false, fun b h => .inl h, rfl, .inl (fun b h => h.resolve_right (fun h => by cases h.1)), fun i hi hi' => ?_⟩
      rw [lends_plain hpl] at has
      cases has
      have hp : args[i].plain = true := by
        have : ∀ (l : List AV), AV.plains l = true → ∀ x ∈ l, x.plain = true := by
          intro l
          induction l with
          | nil => intro _ x hx; cases hx
          | cons b l ih =>
            intro h x hx
            simp only [AV.plains, Bool.and_eq_true] at h
            rcases List.mem_cons.1 hx with rfl | hx
            · exact h.1
            · exact ih h.2 x hx
        exact this args hpl _ (List.getElem_mem hi')
      have hk : args[i].known = true := by revert hp; cases args[i] <;> simp [AV.plain, AV.known]
      exact ((RepT.of_known hk).1 (hrep i hi hi')).cut (G' := lendGh G st.hp false) (fun b h => .inl h) (fun i l h => h) fun k hk => by rw [AV.plain_refs hp] at hk; cases hk
    · refine ⟨lendGh G st.hp true, lendGh_inv hst.inv true, fun b h => .inl h, rfl, .inr hor, fun i hi hi' => ?_⟩
      have hl := (mapO_get has).2 i (by omega) hi'
      exact lend_rep (G' := lendGh G st.hp true) hst.inv (fun b h => .inl h) (fun b h => .inr ⟨rfl, h⟩) (fun i l h => h) hl ((RepT.of_known (lend_known hl)).1 (hrep i hi (by omega)))
  refine (hcalls (n - 1) w _ G0 inv0 (hg.move (fun b hb => ⟨himm0 b hb, rfl⟩) fun i l h => hyl0 ▸ h) (by rw [hargs, (mapO_get has).1]) hlent).mono ?_
  rintro e w' ⟨v0, G', rfl, hkept, hm, -, hv⟩
  simp only
  rcases hres with ⟨rfl, rfl, rfl⟩ | ⟨rfl, hus⟩
  · obtain ⟨G2, h1, h2⟩ := after_call (d := d) (us := []) hst.inv himm0 hyl0 hm hv hor0 rfl
    refine hK v0 w' G2 hkept h1 ?_
    rwa [rn_norefs d v] at h2
    refine List.eq_nil_iff_forall_not_mem.2 fun k hk => ?_
    obtain ⟨rr, hr⟩ := hv.known_refs k hk
    obtain ⟨o, ho⟩ := hm.inv.reg_get hr
    simp [hpNew, Hp.get] at ho
  · obtain ⟨G2, h1, h2⟩ := after_call hst.inv himm0 hyl0 hm hv hor0 hus
    exact hK v0 w' G2 hkept h1 h2

theorem knowns_mem : ∀ {l : List AV}, AV.knowns l = true → ∀ x ∈ l, x.known = true
  | [], _, x, hx => by cases hx
  | b :: l, h, x, hx => by
    simp only [AV.knowns, Bool.and_eq_true] at h
    rcases List.mem_cons.1 hx with rfl | hx
    · exact h.1
    · exact knowns_mem h.2 x hx
/-- A call's law: objects are handed in. -/
theorem imp_call (hF : ∀ f, F.fn f) (hdep : F.depth = none) (hcall : CallOk P F gl cl) {n : Nat} {o : Oper} {c : Call} {a : Act} {x : Operand} {f d : Nat} {cs : Array Value} {args : List AV} {v : AV} {us : Hp} {tmps : Array Value}
    (ho : o.op = .call c) (hc : c.callee = .value x) (hx : a.eval x = .func (.func f) #[] cs) (hg : GlOk w.heap G gl) (hst : StOk w.heap G st tmps)
    (hargs : (c.args.map a.eval ++ cs).size = args.length) (hrep : ∀ i (h : i < (c.args.map a.eval ++ cs).size) (h' : i < args.length), RepT w.heap G (c.args.map a.eval ++ cs)[i] args[i])
    (h : doCall cl st.hp d f args .imp = some (v, us)) {K : Act → World → Prop} {Q : Exit → Act → World → Prop}
    (hK : ∀ v' w' G', Kept w w' → Step w.heap G st.hp w'.heap G' (us ++ st.hp) → RepT w'.heap G' v' v → K (a.put o.dst v') w') : o.wpIn F n P a w K Q := by
  obtain ⟨⟨h1, h2, h4, hkn⟩, r, hp2, es, us', h5, h6, h7, rfl, rfl⟩ := impCall_spec h
  generalize hks : reaches st.hp (AV.refss args) = ks at *
  rw [nodup_iff] at h4
  obtain ⟨⟨fn, hfn, hname, hbody⟩, hcalls⟩ := hcall f _ _ _ _ _ h5
  have hrun : (execOp a.eval o).run P w = .ok (.enter f (c.args.map a.eval ++ cs)) w := by
    have hcf : (callFunc f (c.args.map a.eval ++ cs)).run P w = .ok (.enter f (c.args.map a.eval ++ cs)) w := by
      have hp : (program : Sem Program).run P w = .ok P w := rfl
      simp only [callFunc, Sem.run_bind, hp, Result.andThen_ok, hfn, hname, hbody, Bool.false_eq_true, if_false, Sem.run_pure]
    simp only [execOp, ho, resolve, hc, hx, Deferred.ofValue, Sem.run_bind, Sem.run_pure, Result.andThen_ok, Array.empty_append, invoke, hcf]
  unfold Oper.wpIn
  refine ⟨fun f _ => hF f, ?_⟩
  rw [Oper.semAt_eq _ _ _ (by rw [ho]; intro c h; cases h), hrun, Oper.uponIn_enter]
  refine ⟨fun h => (by rw [hdep] at h; cases h), ?_⟩
  have hlen : (rAs (up ks) args).length = args.length := rAs_length _ _
  refine (hcalls (n - 1) w _ (upGh G ks) (up_inv hst.inv h1) (hg.move (fun b hb => ⟨hb, rfl⟩) fun i l h => h) (by rw [hargs, hlen]) fun i hi hi' => ?_).mono ?_
  · have hi2 : i < args.length := by rw [hlen] at hi'; exact hi'
    have e : (rAs (up ks) args)[i] = rA (up ks) args[i] := by simp [rAs_map]
    rw [e]
    refine up_rep ((RepT.of_known (knowns_mem hkn _ (List.getElem_mem hi2))).1 (hrep i hi hi2)) fun k hk => ?_
    rw [List.all_eq_true] at h2
    have := h2 k (mem_refss (List.getElem_mem hi2) hk)
    simpa using this
  · rintro e w' ⟨v0, G', rfl, hkept, hm, hh, hv⟩
    simp only
    obtain ⟨G2, g1, g2⟩ := after_imp hst.inv h4 h1 hm (fun hne q hq r hr => hh (by cases ks with | nil => exact absurd rfl hne | cons k l => simp [upHp]) q hq r hr) h6 h7 hv
    exact hK v0 w' G2 hkept g1 g2

/-- A call's law, either way. -/
theorem any_call (hF : ∀ f, F.fn f) (hdep : F.depth = none) (hcall : CallOk P F gl cl) {n : Nat} {o : Oper} {c : Call} {a : Act} {x : Operand} {f d : Nat} {cs : Array Value} {args : List AV} {v : AV} {us : Hp} {tmps : Array Value} {md : Mode}
    (ho : o.op = .call c) (hc : c.callee = .value x) (hx : a.eval x = .func (.func f) #[] cs) (hg : GlOk w.heap G gl) (hst : StOk w.heap G st tmps)
    (hargs : (c.args.map a.eval ++ cs).size = args.length) (hrep : ∀ i (h : i < (c.args.map a.eval ++ cs).size) (h' : i < args.length), RepT w.heap G (c.args.map a.eval ++ cs)[i] args[i])
    (h : doCall cl st.hp d f args md = some (v, us)) {K : Act → World → Prop} {Q : Exit → Act → World → Prop}
    (hK : ∀ v' w' G', Kept w w' → Step w.heap G st.hp w'.heap G' (us ++ st.hp) → RepT w'.heap G' v' v → K (a.put o.dst v') w') : o.wpIn F n P a w K Q := by
  cases md with
  | lend => exact lend_call hF hdep hcall ho hc hx hg hst hargs hrep h hK
  | imp => exact imp_call hF hdep hcall ho hc hx hg hst hargs hrep h hK

theorem opds_rep (hg : GlOk w.heap G gl) {a : Act} (hst : StOk w.heap G st a.tmps) {xs : Array Operand} {ys : List Opd} (h : mapO compOpd xs.toList = some ys) :
    (xs.map a.eval).size = (vals gl st.fr ys).length ∧ ∀ i (h : i < (xs.map a.eval).size) (h' : i < (vals gl st.fr ys).length), RepT w.heap G (xs.map a.eval)[i] (vals gl st.fr ys)[i] := by
  obtain ⟨h1, h2⟩ := mapO_get h
  have hl : (vals gl st.fr ys).length = xs.size := by rw [vals_length, h1]; simp
  refine ⟨by simp [hl], fun i hi hi' => ?_⟩
  have hi1 : i < xs.size := by simpa using hi
  have hi2 : i < ys.length := by rw [vals_length] at hi'; exact hi'
  rw [valsE_get gl hi' hi2, Array.getElem_map]
  exact opd_rep hg hst (h2 i (by simpa using hi1) hi2)

theorem compOp_call {o : Oper} {m : MOp} {c : Call} (hc : compOp P im o = some m) (ho : o.op = .call c) (hn : isAnyCall m = true) : ∃ args, mapO compOpd c.args.toList = some args ∧
    ((∃ f md, c.callee = .value (.func f) ∧ m = .call f args md) ∨ (∃ t md, c.callee = .value (.tmp t) ∧ m = .callv (.t t) args md)) := by
  simp only [compOp, ho, Option.bind_eq_some_iff] at hc
  obtain ⟨args, hargs, hc⟩ := hc
  refine ⟨args, hargs, ?_⟩
  split at hc
  · rename_i f hf; cases hc; exact .inl ⟨f, _, hf, rfl⟩
  · rename_i t ht; cases hc; exact .inr ⟨t, _, ht, rfl⟩
  · exfalso
    split at hc
    · split at hc <;> first | (cases hc; cases hn; done) | cases hc
    · cases hc
  · exfalso
    split at hc
    · split at hc
      · simp only [Option.bind_eq_some_iff, Option.map_eq_some_iff] at hc
        obtain ⟨_, _, _, _, rfl⟩ := hc; cases hn
      · simp only [Option.bind_eq_some_iff, Option.map_eq_some_iff] at hc
        obtain ⟨_, _, _, _, rfl⟩ := hc; cases hn
      · simp only [Option.bind_eq_some_iff, Option.map_eq_some_iff] at hc
        obtain ⟨_, _, _, _, rfl⟩ := hc; cases hn
      · cases hc
    · cases hc
  · exfalso
    split at hc
    · split at hc
      · simp only [Option.map_eq_some_iff] at hc
        obtain ⟨_, _, rfl⟩ := hc; cases hn
      · cases hc
    · cases hc
  · exfalso
    split at hc
    · split at hc
      · simp only [Option.map_eq_some_iff] at hc
        obtain ⟨_, _, rfl⟩ := hc; cases hn
      · cases hc
    · cases hc
  · exfalso
    split at hc
    · split at hc
      · cases hc; cases hn
      · cases hc
    · cases hc
  · cases hc; cases hn
  · cases hc; cases hn
  · cases hc

theorem scalars_mem : ∀ {l : List AV}, AV.scalars l = true → ∀ x ∈ l, x.scalar = true
  | [], _, x, hx => by cases hx
  | b :: l, h, x, hx => by
    simp only [AV.scalars, Bool.and_eq_true] at h
    rcases List.mem_cons.1 hx with rfl | hx
    · exact h.1
    · exact scalars_mem h.2 x hx

theorem call_wp (hF : ∀ f, F.fn f) (hdep : F.depth = none) (hcall : CallOk P F gl cl) (n : Nat) : OpOk F n P gl cl := by
  intro im o m a w G st v us hg hst hc hs K Q hK
  have hnd : ∀ c, o.op ≠ .defer c := fun c h => by simp [compOp, h] at hc
  by_cases hn : ∀ c, o.op = .call c → isAnyCall m = false
  · exact good_wp hF hnd (good_op hg hst hc hn hs) hK
  · have : ∃ c, o.op = .call c ∧ isAnyCall m = true := by
      apply Classical.byContradiction
      intro h
      exact hn fun c ho => by
        cases hm : isAnyCall m with
        | false => rfl
        | true => exact absurd ⟨c, ho, hm⟩ h
    obtain ⟨c, ho, hn⟩ := this
    obtain ⟨args, hargs, hor⟩ := compOp_call hc ho hn
    obtain ⟨hl, hr⟩ := opds_rep hg hst hargs
    rcases hor with ⟨f, md, hcal, rfl⟩ | ⟨t, md, hcal, rfl⟩
    · simp only [stepOp] at hs
      split at hs
      · rename_i k _
        refine any_call hF hdep hcall ho hcal (cs := #[]) rfl hg hst (args := vals gl st.fr args) (by simpa using hl) (fun i h h' => ?_) hs hK
        have := hr i (by simpa using h) h'
        simpa using this
      · cases hs
    · simp only [stepOp] at hs
      split at hs
      · rename_i k f caps _ hf
        have hv := hst.fr t
        rw [show Opd.val gl st.fr (.t t) = st.fr.get t from rfl] at hf
        rw [hf, repT_sc rfl] at hv
        generalize hvt : a.tmps.getD t undef = vt at hv
        cases hv with
        | fn _ _ vs hn hsc val hval hrr =>
          refine any_call hF hdep hcall ho hcal (cs := vs) hvt hg hst (args := vals gl st.fr args ++ caps) (by simp only [Array.size_append, List.length_append]; omega) (fun i h h' => ?_) hs hK
          rw [Array.size_append] at h
          by_cases hi : i < (c.args.map a.eval).size
          · rw [Array.getElem_append_left hi, List.getElem_append_left (by omega)]
            exact hr i hi (by omega)
          · have hi2 : i - (vals gl st.fr args).length < caps.length := by rw [List.length_append] at h'; omega
            rw [Array.getElem_append_right (by omega), List.getElem_append_right (by omega)]
            have hk : caps[i - (vals gl st.fr args).length].scalar = true := scalars_mem hsc _ (List.getElem_mem hi2)
            have e : vs[i - (c.args.map a.eval).size]'(by omega) = val (i - (vals gl st.fr args).length) := by
              have h1 : i - (c.args.map a.eval).size = i - (vals gl st.fr args).length := by omega
              have h2 : vs[i - (c.args.map a.eval).size]? = some (val (i - (vals gl st.fr args).length)) := by rw [h1]; exact hval _ hi2
              exact (Array.getElem?_eq_some_iff.1 h2).2
            rw [e, repT_sc hk]
            exact hrr _ hi2
      · cases hs

/-! ### Functions -/
theorem dstOk_mono {n m : Nat} (h : n ≤ m) : ∀ (c : Code), dstOk n c = true → dstOk m c = true := by
  intro c
  induction c with
  | region id ops d =>
    intro hc
    simp only [dstOk, Array.all_eq_true_iff_forall_mem] at hc ⊢
    intro o ho
    have := hc o ho
    cases hd : o.dst with
    | none => rfl
    | some d => rw [hd] at this; simp only [decide_eq_true_eq] at this ⊢; exact Nat.lt_of_lt_of_le this h
  | seq a b iha ihb => intro hc; simp only [dstOk, Bool.and_eq_true] at hc ⊢; exact ⟨iha hc.1, ihb hc.2⟩
  | cond c a b iha ihb => intro hc; simp only [dstOk, Bool.and_eq_true] at hc ⊢; exact ⟨iha hc.1, ihb hc.2⟩
  | block i b ih => intro hc; exact ih hc
  | loop b ih => intro hc; exact ih hc
  | _ => intro _; rfl

/-- A function's code is what the evaluator has for it. -/
structure FnCode (P : Program) (f : Nat) (fd : Fd) : Prop where
  ok : ∃ fn code an, P.funcs[f]? = some fn ∧ (fn.name == "runtime.NumGoroutine") = false ∧ fn.body = some code ∧ comp P an 1000000 code = some fd.body ∧ dstOk fn.ntmps code = true ∧ mapO (compRes P) fn.results.toList = some fd.res

/-- What is known of a given function. -/
def GivOk (P : Program) (f : Nat) (g : Cl → List AV → Hp → Option (AV × Hp × List OB)) : Prop :=
  ∀ gl cl, CallOk P Fence.wide gl cl → CallOk P Fence.wide gl fun f' as imps => if f' = f then g cl as imps else none
inductive FnOk (P : Program) (f : Nat) (fd : Fd) : Prop
  | code (h : fd.giv = none) (ok : FnCode P f fd)
  | given (g : Cl → List AV → Hp → Option (AV × Hp × List OB)) (h : fd.giv = some g) (ok : GivOk P f g)

theorem frOf_get : ∀ {l : List AV} {i j : Nat}, (frOf i l).get j = if i ≤ j ∧ j < i + l.length then l.getD (j - i) .unk else .unk
  | [], i, j => by simp [frOf, Fr.get]
  | a :: l, i, j => by
    simp only [frOf, Fr.get, frOf_get (l := l), List.length_cons]
    by_cases h : i = j
    · subst h; simp
    · rw [if_neg h]
      by_cases h' : i + 1 ≤ j ∧ j < i + 1 + l.length
      · rw [if_pos h', if_pos (by omega)]
        obtain ⟨k, rfl⟩ : ∃ k, j = i + 1 + k := ⟨j - (i + 1), by omega⟩
        rw [show i + 1 + k - (i + 1) = k by omega, show i + 1 + k - i = k + 1 by omega]
        rfl
      · rw [if_neg h', if_neg (by omega)]

/-- Objects under other names. -/
theorem inv_ren {H : Heap} {G G2 : Gh} {hp hp2 : Hp} (inv : Inv H G hp) {ρ : Nat → Nat} {K : List Nat} (himm : ∀ b, G2.imm b ↔ G.imm b) (hyl : ∀ i l, G.yl i = some l → G2.yl i = some l)
    (hreg : ∀ k ∈ K, G2.reg (ρ k) = G.reg k) (hregd : ∀ q r, G2.reg q = some r → ∃ k ∈ K, q = ρ k)
    (hget : ∀ q o, hp2.get q = some o → ∃ k ∈ K, q = ρ k ∧ ∃ o0, hp.get k = some o0 ∧ o = rOB ρ o0 ∧ ∀ j ∈ obRefs o0, j ∈ K) (hex : ∀ k ∈ K, hp2.get (ρ k) ≠ none) :
    Inv H G2 hp2 ∧ ∀ b, Live G2 hp2 b → Live G hp b := by
  have hlive : ∀ q b r, liveOb hp2 q → G2.At q b r → ∃ k, q = ρ k ∧ liveOb hp k ∧ G.At k b r := by
    rintro q b r ⟨o, ho, hd⟩ hr
    obtain ⟨k, hk, rfl, o0, h0, rfl, _⟩ := hget q o ho
    exact ⟨k, rfl, ⟨o0, h0, rOB_dead hd⟩, (Gh.at_congr (hreg k hk)).1 hr⟩
  have hl : ∀ b, Live G2 hp2 b → Live G hp b := by
    rintro b ⟨q, r, h1, h2⟩
    obtain ⟨k, _, h3, h4⟩ := hlive q b r h1 h2
    exact ⟨k, r, h3, h4⟩
  refine ⟨⟨fun q o h => ?_, fun q h => ?_, fun q q' b r r' h h' l l' => ?_, fun b hb => ?_, fun b hb => inv.lt b (hl b hb)⟩, hl⟩
  · obtain ⟨k, hk, rfl, o0, h0, rfl, hj⟩ := hget q o h
    exact obOk_ren (inv.obs k o0 h0) (hreg k hk) (fun b hb => (himm b).2 hb) hyl fun j hj' => hreg j (hj j hj')
  · cases hr : G2.reg q with
    | none => rfl
    | some r =>
      obtain ⟨k, hk, rfl⟩ := hregd q r hr
      exact absurd h (hex k hk)
  · obtain ⟨k, rfl, h1, h2⟩ := hlive q b r l h
    obtain ⟨k', rfl, h1', h2'⟩ := hlive q' b r' l' h'
    rw [inv.dist k k' b r r' h2 h2' h1 h1']
  · have := inv.imm b ((himm b).1 hb)
    exact ⟨this.1, fun h => this.2 (hl b h)⟩
open Classical in
noncomputable def genGh (G : Gh) (hk E : List Nat) : Gh :=
  { G with reg := fun q => if q ∈ hk then G.reg q else if 20000 ≤ q ∧ q - 20000 < E.length then G.reg (E.getD (q - 20000) 0) else none }
theorem handBack_get {hp : Hp} {E : List Nat} : ∀ {hk : List Nat} {q : Nat}, (handBack hp E hk).get q = if q ∈ hk then some (rOB (nm E) (getO hp q)) else none
  | [], q => by simp [handBack, Hp.get]
  | k :: l, q => by
    rw [handBack, Hp.get_cons, handBack_get]
    by_cases h : k = q
    · simp [h]
    · rw [if_neg h]
      have : ¬ q = k := fun e => h e.symm
      simp [this]
theorem packG_ok {H : Heap} {tmps : Array Value} (hst : StOk H G st tmps) {hk E : List Nat} {rs l : List AV} {hb : Hp} {es : List OB} (h : packG st hk rs E = some (l, hb, es)) {vs : List Value} (hlen : vs.length = rs.length)
    (hv : ∀ i (h : i < vs.length) (h' : i < rs.length), RepT H G vs[i] rs[i]) :
    Inv H (genGh G hk E) (hb ++ hpNew 0 es) ∧ (∀ b, Live (genGh G hk E) (hb ++ hpNew 0 es) b → Live G st.hp b) ∧ (∀ q, SHK ≤ q → ∀ r, (genGh G hk E).reg q = some r → G.reg q = some r) ∧
    l.length = rs.length ∧ ∀ i (h : i < vs.length) (h' : i < l.length), RepV H (genGh G hk E) vs[i] l[i] := by
  unfold packG at h
  rw [Option.ite_none_right_eq_some] at h
  obtain ⟨hc, h⟩ := h
  simp only [Option.some.injEq, Prod.mk.injEq] at h
  obtain ⟨rfl, rfl, rfl⟩ := h
  simp only [Bool.and_eq_true, decide_eq_true_eq, nodup_iff, List.all_eq_true (p := fun k => decide (SHK ≤ k)), List.all_eq_true (p := fun k => decide (k < SHK))] at hc
  obtain ⟨⟨⟨⟨⟨⟨c1, c2⟩, c3⟩, c4⟩, c5⟩, c6⟩, c7⟩ := hc
  rw [List.all_eq_true] at c2
  have c3' := List.nodup_append.1 c3
  have hidx : ∀ k ∈ E, idx E k < E.length ∧ E.getD (idx E k) 0 = k := fun k hk' => idx_get hk'
  have hbig : ∀ i, i < E.length → 20000 + i < SHK := fun i hi => by unfold SHK; omega
  have hnotin : ∀ q, q < SHK → q ∉ hk := fun q hq hm => absurd (c4 q hm) (Nat.not_le.2 hq)
  have hnmH : ∀ k ∈ hk, nm E k = k := fun k hm => by unfold nm; rw [if_pos (c4 k hm)]
  have hnmE : ∀ k ∈ E, nm E k = 20000 + idx E k := fun k hm => by unfold nm; rw [if_neg (Nat.not_le.2 (c5 k hm))]
  have hreg : ∀ k ∈ hk ++ E, (genGh G hk E).reg (nm E k) = G.reg k := fun k hm => by
    rcases List.mem_append.1 hm with hm | hm
    · rw [hnmH k hm]; simp only [genGh]; rw [if_pos hm]
    · have ⟨i1, i2⟩ := hidx k hm
      rw [hnmE k hm]
      simp only [genGh]
      rw [if_neg (hnotin _ (hbig _ i1)), if_pos ⟨by omega, by omega⟩, show 20000 + idx E k - 20000 = idx E k by omega, i2]
  obtain ⟨g1, g2⟩ := inv_ren (G2 := genGh G hk E) (hp2 := handBack st.hp E hk ++ hpNew 0 (E.map fun k => rOB (nm E) (getO st.hp k))) (ρ := nm E) (K := hk ++ E) hst.inv (fun _ => Iff.rfl) (fun _ _ h => h) hreg
    (fun q r hr => by
      simp only [genGh] at hr
      split at hr
      · rename_i hm; exact ⟨q, List.mem_append_left _ hm, (hnmH q hm).symm⟩
      · split at hr
        · rename_i hq
          have hm : E.getD (q - 20000) 0 ∈ E := by rw [List.getD_eq_getElem?_getD, List.getElem?_eq_getElem hq.2]; exact List.getElem_mem hq.2
          refine ⟨E.getD (q - 20000) 0, List.mem_append_right _ hm, ?_⟩
          rw [hnmE _ hm, idx_nodup c3'.2.1 hq.2]; omega
        · cases hr)
    (fun q o ho => by
      rw [Hp.get_append, handBack_get] at ho
      by_cases hm : q ∈ hk
      · rw [if_pos hm] at ho
        cases ho
        have ⟨e1, e2⟩ := closedB_spec c1 q (List.mem_append_left _ hm)
        exact ⟨q, List.mem_append_left _ hm, (hnmH q hm).symm, _, e1, rfl, e2⟩
      · rw [if_neg hm] at ho
        obtain ⟨i, hi, e, e2⟩ := hpNew_get'.1 ho
        have hi' : i < E.length := by simpa using hi
        have hm2 : E[i] ∈ E := List.getElem_mem hi'
        have ⟨f1, f2⟩ := closedB_spec c1 E[i] (List.mem_append_right _ hm2)
        refine ⟨E[i], List.mem_append_right _ hm2, ?_, _, f1, ?_, f2⟩
        · have := idx_nodup c3'.2.1 hi'
          rw [List.getD_eq_getElem?_getD, List.getElem?_eq_getElem hi'] at this
          rw [hnmE _ hm2, e]; simp only [Option.getD_some] at this; rw [this]
        · rw [← e2]; simp)
    (fun k hm => by
      rw [Hp.get_append, handBack_get]
      rcases List.mem_append.1 hm with hm | hm
      · rw [hnmH k hm, if_pos hm]; simp
      · have ⟨i1, i2⟩ := hidx k hm
        rw [hnmE k hm, if_neg (hnotin _ (hbig _ i1))]
        have : (hpNew 0 (E.map fun k => rOB (nm E) (getO st.hp k))).get (20000 + idx E k) = some _ := hpNew_get'.2 ⟨idx E k, by simpa using i1, rfl, rfl⟩
        rw [this]; simp)
  refine ⟨g1, g2, fun q hq r hr => ?_, rAs_length _ _, fun i hi hi' => ?_⟩
  · simp only [genGh] at hr
    split at hr
    · exact hr
    · split at hr
      · rename_i hq2
        have := hbig _ hq2.2
        omega
      · cases hr
  · have hi2 : i < rs.length := by omega
    have e : (rAs (nm E) rs)[i] = rA (nm E) rs[i] := by simp [rAs_map]
    rw [e]
    refine ((RepT.of_known (knowns_mem c7 _ (List.getElem_mem hi2))).1 (hv i hi hi2)).renA (.inr fun _ h => h) (fun _ _ h => h) fun k hk' => hreg k ?_
    have := c2 k (mem_refss (List.getElem_mem hi2) hk')
    simpa using this

/-- How a function with plain results ends. -/
theorem plain_end {L : Prop} {fn : Func} {res : List ResD} {pk : List Pk} {a a' : Act} {w' : World} {st' : St} {z : List AV × List OB} {r : AV} {os : Hp} {es : List OB} (hres : mapO (compRes P) fn.results.toList = some res)
    (hc : Came L gl a w G [] a' w' G' st') (hz : packs st' res pk = some z) (he : ((match z.1 with | [a] => a | l => .tup l), ([] : Hp), z.2) = (r, os, es)) :
    ∃ v, (results fn a'.tmps).run P w' = .ok v w' ∧ ∃ v1 G1, Ending.returned v = .returned v1 ∧ Kept w w' ∧ Move w.heap G [] w'.heap G1 (hpNew 0 es) ∧ RepT w'.heap G1 v1 r := by
  obtain ⟨l, es'⟩ := z
  simp only [Prod.mk.injEq] at he
  obtain ⟨he1, rfl, rfl⟩ := he
  have hz' := hz
  unfold packs at hz'
  rw [Option.bind_eq_some_iff] at hz'
  obtain ⟨rs, hrs, _⟩ := hz'
  obtain ⟨us, g1, g2, g3, g4⟩ := readAll_ok hc.ok hres hrs
  obtain ⟨k1, k2, k3, k4⟩ := packs_ok hc.ok hz hrs (by omega) g4
  have hrun := run_results (fn := fn) (vs := us) (by simpa using g1) fun i hi hi' => by
    have := g3 i (by simpa using hi) hi'
    simpa using this
  refine ⟨_, hrun, _, packGh G' st'.hp (packSrc rs pk), rfl, hc.kept, ?_, ?_⟩
  · have m := hc.move
    have hnl : ∀ b, ¬ Live G [] b := fun b ⟨k, r, ⟨o, ho, _⟩, _⟩ => by cases ho
    have hdl : ∀ b, Live G' (deads ((packSrc rs pk).filterMap id) ++ st'.hp) b → Live G' st'.hp b := by
      rintro b ⟨k, r, ⟨o, ho, hd⟩, hr⟩
      rw [deads_get] at ho
      split at ho
      · cases ho; exact absurd rfl hd
      · exact ⟨k, r, ⟨o, ho, hd⟩, hr⟩
    refine ⟨k1, m.size, fun b hb => ⟨.inl (m.imm b hb).1, (m.imm b hb).2⟩, m.yl, m.same, fun b hb => m.live b (k2 b hb), fun b hb => ?_⟩
    rcases hb with hb | hb
    · exact m.immNew b hb
    · rcases m.live b (hdl b hb) with h | h
      · exact absurd h (hnl b)
      · exact .inr (.inl h)
  · subst he1
    match us, l, k3, g1, g2, k4 with
    | [], [], _, _, _, _ => exact ⟨#[], rfl, rfl, fun i h => by simp at h⟩
    | [u], [x], _, _, _, k4 =>
      have := k4 0 (by simp) (by simp)
      exact (RepT.of_known this.known).2 this
    | u1 :: u2 :: us, x1 :: x2 :: l, _, _, _, k4 =>
      refine ⟨_, rfl, by simp only [List.size_toArray]; simp only [List.length_cons] at *; omega, fun i h h' => ?_⟩
      have := k4 i (by simpa using h) h'
      simpa using this
    | [], _ :: _, h1, h2, h3, _ => simp at *; omega
    | [_], [], h1, h2, h3, _ => simp at *; omega
    | [_], _ :: _ :: _, h1, h2, h3, _ => simp at *; omega
    | _ :: _ :: _, [], h1, h2, h3, _ => simp at *; omega
    | _ :: _ :: _, [_], h1, h2, h3, _ => simp at *; omega

theorem fn_plain (hF : ∀ f, F.fn f) (hdep : F.depth = none) (hro : F.round = none) (hmix : P.follows .mixedOrders = true) (hcall : CallOk P F gl cl) (hcallW : CallOk P Fence.wide gl cl) {f : Nat} {fd : Fd} (hfd : FnCode P f fd)
    {as : List AV} {r : AV} {os : Hp} {es : List OB} (hgen : isGen fd.pk = false) (h : evFn gl cl fd as [] = some (r, os, es)) (n : Nat) {w : World} {vs : Array Value} (inv : Inv w.heap G []) (hg : GlOk w.heap G gl) (hlen : vs.size = as.length)
    (hrep : ∀ i (h : i < vs.size) (h' : i < as.length), RepV w.heap G vs[i] as[i]) :
    CallsIn F n P f vs w fun e w' => ∃ v G', e = .returned v ∧ Kept w w' ∧ Move w.heap G [] w'.heap G' (hpNew 0 es) ∧ RepT w'.heap G' v r := by
  obtain ⟨fn, code, an, hfn, hname, hbody, hcomp, hdst, hres⟩ := hfd.ok
  simp only [evFn, hgen, Bool.false_eq_true, if_false, Option.bind_eq_some_iff] at h
  obtain ⟨⟨e, st'⟩, hev, h⟩ := h
  have S : Setting P F n gl cl := ⟨hmix, call_wp hF hdep hcall n, opEx_of_opOk (call_wp (fun _ => trivial) rfl hcallW n), hF⟩
  have hst : StOk w.heap G { fr := frOf 0 as, hp := [] } (vs ++ Array.replicate (fn.ntmps - vs.size) undef) := by
    refine ⟨inv, fun i => ?_⟩
    rw [frOf_get]
    by_cases hi : 0 ≤ i ∧ i < 0 + as.length
    · rw [if_pos hi]
      have h1 : i < vs.size := by omega
      have h2 : i < as.length := by omega
      have e1 : (vs ++ Array.replicate (fn.ntmps - vs.size) undef).getD i undef = vs[i] := by
        rw [Array.getD_eq_getD_getElem?, Array.getElem?_append_left h1]; simp [h1]
      have e2 : as.getD (i - 0) .unk = as[i] := by simp [h2]
      rw [e1, e2]
      have hv := hrep i h1 h2
      exact (RepT.of_known hv.known).2 hv
    · rw [if_neg hi]; trivial
  refine callsIn_of_wp hfn hbody (hF f) ?_ hro
  refine code_wp (L := False) S code 1000000 fd.body hcomp (fun h => h.elim) (dstOk_mono (by simp; omega) code hdst) _ w G _ st' e hg hst rfl hev _ fun a' w' G' hc => ?_
  have hdef : a'.defers = [] := hc.defers
  have key := fun z => plain_end (z := z) (pk := fd.pk) (r := r) (os := os) (es := es) hres hc
  cases e with
  | exit i => cases h
  | norm =>
    simp only [Option.map_eq_some_iff] at h
    obtain ⟨z, hz, he⟩ := h
    exact ⟨hdef, key z hz he⟩
  | ret =>
    simp only [Option.map_eq_some_iff] at h
    obtain ⟨z, hz, he⟩ := h
    exact ⟨hdef, key z hz he⟩

theorem fn_gen (hF : ∀ f, F.fn f) (hdep : F.depth = none) (hro : F.round = none) (hmix : P.follows .mixedOrders = true) (hcall : CallOk P F gl cl) (hcallW : CallOk P Fence.wide gl cl) {f : Nat} {fd : Fd} (hfd : FnCode P f fd)
    {as : List AV} {imps : Hp} {r : AV} {os : Hp} {es : List OB} (hgen : isGen fd.pk = true) (h : evFn gl cl fd as imps = some (r, os, es)) (n : Nat) {w : World} {vs : Array Value} (inv : Inv w.heap G imps) (hg : GlOk w.heap G gl) (hlen : vs.size = as.length)
    (hrep : ∀ i (h : i < vs.size) (h' : i < as.length), RepV w.heap G vs[i] as[i]) :
    CallsIn F n P f vs w fun e w' => ∃ v G', e = .returned v ∧ Kept w w' ∧ Move w.heap G imps w'.heap G' (os ++ hpNew 0 es) ∧ (imps ≠ [] → ∀ q, SHK ≤ q → ∀ r, G'.reg q = some r → ∃ r0, G.reg q = some r0 ∧ r0.le r) ∧ RepT w'.heap G' v r := by
  obtain ⟨fn, code, an, hfn, hname, hbody, hcomp, hdst, hres⟩ := hfd.ok
  simp only [evFn, hgen, if_true] at h
  split at h
  · cases h
  rename_i hlt
  have hlt : mcLt fd.body = true := by simpa using hlt
  simp only [Option.bind_eq_some_iff] at h
  obtain ⟨⟨e, st'⟩, hev, h⟩ := h
  have S : Setting P F n gl cl := ⟨hmix, call_wp hF hdep hcall n, opEx_of_opOk (call_wp (fun _ => trivial) rfl hcallW n), hF⟩
  have hst : StOk w.heap G { fr := frOf 0 as, hp := imps } (vs ++ Array.replicate (fn.ntmps - vs.size) undef) := by
    refine ⟨inv, fun i => ?_⟩
    rw [frOf_get]
    by_cases hi : 0 ≤ i ∧ i < 0 + as.length
    · rw [if_pos hi]
      have h1 : i < vs.size := by omega
      have h2 : i < as.length := by omega
      have e1 : (vs ++ Array.replicate (fn.ntmps - vs.size) undef).getD i undef = vs[i] := by
        rw [Array.getD_eq_getD_getElem?, Array.getElem?_append_left h1]; simp [h1]
      have e2 : as.getD (i - 0) .unk = as[i] := by simp [h2]
      rw [e1, e2]
      have hv := hrep i h1 h2
      exact (RepT.of_known hv.known).2 hv
    · rw [if_neg hi]; trivial
  refine callsIn_of_wp hfn hbody (hF f) ?_ hro
  refine code_wp (L := True) S code 1000000 fd.body hcomp (fun _ => hlt) (dstOk_mono (by simp; omega) code hdst) _ w G _ st' e hg hst rfl hev _ fun a' w' G' hc => ?_
  have hdef : a'.defers = [] := hc.defers
  have key : ∀ rs z, readAll st' fd.res = some rs → packG st' (keysH imps) rs (exports st' (keysH imps) rs) = some z → (oneOr z.1, z.2.1, z.2.2) = (r, os, es) →
      ∃ v, (results fn a'.tmps).run P w' = .ok v w' ∧ ∃ v1 G1, Ending.returned v = .returned v1 ∧ Kept w w' ∧ Move w.heap G imps w'.heap G1 (os ++ hpNew 0 es) ∧ (imps ≠ [] → ∀ q, SHK ≤ q → ∀ r, G1.reg q = some r → ∃ r0, G.reg q = some r0 ∧ r0.le r) ∧ RepT w'.heap G1 v1 r := by
    rintro rs ⟨l, os', es'⟩ hrs hz he
    simp only [Prod.mk.injEq] at he
    obtain ⟨he1, rfl, rfl⟩ := he
    obtain ⟨us, g1, g2, g3, g4⟩ := readAll_ok hc.ok hres hrs
    obtain ⟨k1, k2, kh, k3, k4⟩ := packG_ok hc.ok hz (by omega) g4
    have hrun := run_results (fn := fn) (vs := us) (by simpa using g1) fun i hi hi' => by
      have := g3 i (by simpa using hi) hi'
      simpa using this
    refine ⟨_, hrun, _, genGh G' (keysH imps) (exports st' (keysH imps) rs), rfl, hc.kept, ?_, fun _ q hq r hr => hc.hand trivial q hq r (kh q hq r hr), ?_⟩
    · have m := hc.move
      exact ⟨k1, m.size, m.imm, m.yl, m.same, fun b hb => m.live b (k2 b hb), m.immNew⟩
    · subst he1
      match us, l, k3, g1, g2, k4 with
      | [], [], _, _, _, _ => exact ⟨#[], rfl, rfl, fun i h => by simp at h⟩
      | [u], [x], _, _, _, k4 =>
        have := k4 0 (by simp) (by simp)
        exact (RepT.of_known this.known).2 this
      | u1 :: u2 :: us, x1 :: x2 :: l, _, _, _, k4 =>
        refine ⟨_, rfl, by simp only [List.size_toArray]; simp only [List.length_cons] at *; omega, fun i h h' => ?_⟩
        have := k4 i (by simpa using h) h'
        simpa using this
      | [], _ :: _, h1, h2, h3, _ => simp at *; omega
      | [_], [], h1, h2, h3, _ => simp at *; omega
      | [_], _ :: _ :: _, h1, h2, h3, _ => simp at *; omega
      | _ :: _ :: _, [], h1, h2, h3, _ => simp at *; omega
      | _ :: _ :: _, [_], h1, h2, h3, _ => simp at *; omega
  cases e with
  | exit i => cases h
  | norm =>
    simp only [Option.bind_eq_some_iff, Option.map_eq_some_iff] at h
    obtain ⟨rs, hrs, z, hz, he⟩ := h
    exact ⟨hdef, key rs z hrs hz he⟩
  | ret =>
    simp only [Option.bind_eq_some_iff, Option.map_eq_some_iff] at h
    obtain ⟨rs, hrs, z, hz, he⟩ := h
    exact ⟨hdef, key rs z hrs hz he⟩

theorem evFn_os {fd : Fd} {as : List AV} {r : AV} {os : Hp} {es : List OB} (hgen : isGen fd.pk = false) (h : evFn gl cl fd as [] = some (r, os, es)) : os = [] := by
  simp only [evFn, hgen, Bool.false_eq_true, if_false, Option.bind_eq_some_iff] at h
  obtain ⟨⟨e, st'⟩, hev, h⟩ := h
  cases e with
  | exit i => cases h
  | norm => simp only [Option.map_eq_some_iff, Prod.mk.injEq] at h; obtain ⟨z, hz, _, h, _⟩ := h; exact h.symm
  | ret => simp only [Option.map_eq_some_iff, Prod.mk.injEq] at h; obtain ⟨z, hz, _, h, _⟩ := h; exact h.symm

/-- Every call is as the evaluator has it. -/
theorem call_ok (hmix : P.follows .mixedOrders = true) {tab : Nat → Option Fd} (htab : ∀ f fd, tab f = some fd → FnOk P f fd) : ∀ n, CallOk P Fence.wide gl (call gl tab n)
  | 0, f, as, imps, r, os, es, h => by simp [call] at h
  | n + 1, f, as, imps, r, os, es, h => by
    simp only [call, Option.bind_eq_some_iff] at h
    obtain ⟨fd, hfd, h⟩ := h
    have ih := call_ok hmix htab n
    rcases htab f fd hfd with ⟨hgiv, hok⟩ | ⟨g, hgiv, hok⟩
    case given =>
      rw [hgiv] at h
      exact hok gl _ ih f as imps r os es ((if_pos rfl).trans h)
    rw [hgiv] at h
    replace h : evFn gl (call gl tab n) fd as imps = some (r, os, es) := h
    obtain ⟨fn, code, an, hfn, hname, hbody, _⟩ := hok.ok
    refine ⟨⟨fn, hfn, hname, by simp [hbody]⟩, fun m w vs G inv hg hlen hrep => ?_⟩
    cases hgen : isGen fd.pk with
    | true => exact fn_gen (fun _ => trivial) rfl rfl hmix ih ih hok hgen h m inv hg hlen hrep
    | false =>
      cases imps with
      | cons x l => simp [evFn, hgen] at h
      | nil =>
        have := evFn_os hgen h
        subst this
        refine (fn_plain (fun _ => trivial) rfl rfl hmix ih ih hok hgen h m inv hg hlen hrep).mono ?_
        rintro e w' ⟨v, G', h1, h2, h3, h4⟩
        exact ⟨v, G', h1, h2, h3, fun h => absurd rfl h, h4⟩
end Go.Ev
