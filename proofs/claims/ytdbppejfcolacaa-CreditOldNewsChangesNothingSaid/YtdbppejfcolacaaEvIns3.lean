/-
  Given functions of the library: slices.Insert of one element: proved. No condition.
-/
import Derived.Test.YtdbppejfcolacaaEvIns2
namespace Go.Ev
open Go
set_option linter.unusedSimpArgs false
set_option linter.unusedVariables false
variable {P : Program} {F : Fence} {n : Nat} {gl : Gl} {cl : Cl} {L : Prop} {H : Heap} {G : Gh}

theorem live_get {hp hp' : Hp} (h : ∀ k, hp'.get k = hp.get k) {b : Nat} : Live G hp' b ↔ Live G hp b := by
  simp only [Live, liveOb, h]
theorem inv_get {hp hp' : Hp} (inv : Inv H G hp) (h : ∀ k, hp'.get k = hp.get k) : Inv H G hp' :=
  ⟨fun k o hk => inv.obs k o (by rw [← h]; exact hk), fun k hk => inv.out k (by rw [← h]; exact hk),
   fun k k' b r r' h1 h2 h3 h4 => inv.dist k k' b r r' h1 h2 (by simpa only [liveOb, h] using h3) (by simpa only [liveOb, h] using h4),
   fun b hb => ⟨(inv.imm b hb).1, fun hl => (inv.imm b hb).2 ((live_get h).1 hl)⟩, fun b hb => inv.lt b ((live_get h).1 hb)⟩
theorem came_hp {a a1 : Act} {w w1 : World} {G1 : Gh} {hp hp' : Hp} {st : St} (hc : Came L gl a w G hp a1 w1 G1 st) (h : ∀ k, hp'.get k = st.hp.get k) : Came L gl a w G hp a1 w1 G1 { fr := st.fr, hp := hp' } :=
  ⟨hc.kept, ⟨inv_get hc.move.inv h, hc.move.size, hc.move.imm, hc.move.yl, hc.move.same, fun b hb => hc.move.live b ((live_get h).1 hb), hc.move.immNew⟩, ⟨inv_get hc.ok.inv h, hc.ok.fr⟩, hc.size, hc.defers, hc.hand⟩

def insertG (sh : Sh) (_ : Cl) (as : List AV) (imps : Hp) : Option (AV × Hp × List OB) :=
  match as, imps with
  | [.sl k [] 0 m, .int .i64 i, .sl k2 [] 0 1], [(q1, .grow sh1 els), (q2, .grow sh2 [x])] =>
    if k == 100000 && k2 == 100001 && q1 == 100000 && q2 == 100001 && Sh.beq sh sh1 && Sh.beq sh sh2 && decide (m = els.length ∧ 0 ≤ i ∧ i ≤ m ∧ m + 1 ≤ LIM) then
      some (.sl 20000 [] 0 (m + 1), [(100000, .dead), (100001, .grow sh [x])], [.grow sh (insL els i.toNat x)])
    else none
  | _, _ => none

theorem ins_end {fn : Func} (hres : mapO (compRes P) fn.results.toList = some [.tmp 6]) {sh : Sh} {els l : List AV} {x : AV} {K m : Nat} (hK : K = 25 ∨ K = 40 ∨ K = 200) {a a' : Act} {w w' : World} {G' : Gh} {st' : St}
    (hc : Came True gl a w G (inH sh els x) a' w' G' st') (hfr : keepFr st'.fr [6] = [.set 6 (.sl K [] 0 m)]) (hhp : ∀ k, st'.hp.get k = Hp.get [(100000, .dead), (100001, .grow sh [x]), (K, .grow sh l)] k) :
    ∃ v, (results fn a'.tmps).run P w' = .ok v w' ∧ ∃ v1 G1, Ending.returned v = .returned v1 ∧ Kept w w' ∧ Move w.heap G (inH sh els x) w'.heap G1 ([(100000, .dead), (100001, .grow sh [x])] ++ hpNew 0 [.grow sh l]) ∧
      (inH sh els x ≠ [] → ∀ q, SHK ≤ q → ∀ r, G1.reg q = some r → ∃ r0, G.reg q = some r0 ∧ r0.le r) ∧ RepT w'.heap G1 v1 (.sl 20000 [] 0 m) := by
  have h1 := came_hp (came_keep [6] hc) (hp' := [(100000, .dead), (100001, .grow sh [x]), (K, .grow sh l)]) (fun k => (hhp k).symm)
  rw [hfr] at h1
  refine gen_end hres h1 (rs := [.sl K [] 0 m]) rfl (E := [K]) (z := ([.sl 20000 [] 0 m], [(100000, .dead), (100001, .grow sh [x])], [.grow sh l])) ?_ rfl
  rcases hK with rfl | rfl | rfl <;> simp [packG, inH, keysH, closedB, Hp.get, oRefs, obRefs, AV.refss, AV.refs, nodup, AV.knowns, AV.known, SHK, rAs, rA, nm, idx, handBack, getO, rOB]

theorem ins_dst (t it bt ut : TypeId) (ov rr : Nat) : (insPre t it bt ut ov rr).all (dstOk 95) = true := by
  simp [insPre, insS3, insS6, insR0, insR1, insR2, insR3, insR4, insR5, insR6, insR7, dstOk]
theorem ins_dst10 (t it bt ut : TypeId) (ov rr : Nat) : dstOk 95 (insS10 t it bt ut ov rr) = true := by
  simp [insS10, insR10, insR11, insR12, dstOk]
theorem ins_dst15 (t it bt ut : TypeId) (ov rr : Nat) : dstOk 95 (insS15 t it bt ut ov rr) = true := by
  simp [insS15, insR15, insR16, insR17, dstOk]
theorem dst95 {l : List Oper} (h : (l.all fun o => match o.dst with | some d => decide (d < 95) | none => true) = true) {m : Nat} (hm : 95 ≤ m) : ∀ o ∈ l, ∀ d, o.dst = some d → d < m := fun o ho d hd => by
  have := List.all_eq_true.1 h o ho
  rw [hd] at this
  exact Nat.lt_of_lt_of_le (of_decide_eq_true this) hm
theorem run_cap {a : Act} {w : World} {t e it bt ut : TypeId} {ov rr m c : Nat} {b : Option Addr} (ht : P.underlying t = some (.slice e)) (h : a.eval (.tmp 29) = .slice b m c) :
    (execOp a.eval (insO8 t it bt ut ov rr)).run P w = .ok (.value (.int .i64 c)) w := by
  simp only [insO8, execOp, resolve, invoke, builtin, Builtin.cap_, Sem.run_bind, Sem.run_pure, Result.andThen_ok, List.map_toArray, List.map_cons, List.map_nil, h, List.getElem?_toArray, List.getElem?_cons_zero, run_und ht]
  rfl
theorem run_cut {a : Act} {w : World} {t e it bt ut : TypeId} {ov rr m c k o : Nat} {info : TypeInfo} (ht : P.underlying t = some (.slice e)) (hi : P.info? e = some info) (h : a.eval (.tmp 56) = .slice (some ⟨k, o, none⟩) m c)
    (h2 : a.eval (.tmp 59) = .int .i64 ((m : Int) + 1)) (hle : m + 1 ≤ c) :
    (execOp a.eval (insO13 t it bt ut ov rr)).run P w = .ok (.value (.slice (some ⟨k, o, none⟩) (m + 1) c)) w := by
  have hb : (Instr.sliceBounds true m c none (some (.int .i64 ((m : Int) + 1))) none).run P w = .ok (0, m + 1, c) w := by
    simp only [Instr.sliceBounds, Sem.run_bind, Sem.run_pure, Result.andThen_ok]
    rw [run_bound (by omega) (by omega)]
    rfl
  have hs := run_slice (lo := none) (hi := some (.int .i64 ((m : Int) + 1))) (mx := none) (b := some ⟨k, o, none⟩) ht (show (P.info? e).map (·.size) = some info.size by rw [hi]; rfl) hb
  have hc : ¬ (c = 0) := by omega
  simp only [hc, if_false, Option.map_some, Nat.zero_mul, addr_add, Nat.add_zero, Nat.sub_zero] at hs
  simp only [insO13, execOp, Option.map_none, Option.map_some, h, h2, Sem.run_bind, hs, Result.andThen_ok, Sem.run_pure]
theorem run_over {a : Act} {w : World} {t e it bt ut : TypeId} {ov rr : Nat} {b1 b2 : Addr} {l1 c1 l2 c2 : Nat} {ca cb : Array Value} {ea eb : TypeId} {fa fb : Nat × Nat} {info : TypeInfo} (ht : P.underlying t = some (.slice e)) (hi : P.info? e = some info)
    (hov : ∃ fo, P.funcs[ov]? = some fo ∧ (fo.name == "runtime.NumGoroutine") = false ∧ fo.body.isNone = true ∧ Extern.findNext fo = none ∧ Extern.find fo = some (Extern.SlicesOverlaps.overlaps #[t, t] #[bt]))
    (h1 : a.eval (.tmp 61) = .slice (some b1) l1 c1) (h2 : a.eval (.tmp 66) = .slice (some b2) l2 c2) (hne : b1.block ≠ b2.block) (ha : w.heap[b1.block]? = some (.cells ca ea fa)) (hb : w.heap[b2.block]? = some (.cells cb eb fb))
    (hfa : fa.1 = fa.2) (hcb : cb.size ≠ 0) : (execOp a.eval (insO14 t it bt ut ov rr)).run P w = .ok (.value (.bool false)) w := by
  obtain ⟨fo, hfo, hnm, hbd, hfn, hfd⟩ := hov
  have hz : ∀ w, (Go.sizeOf e).run P w = .ok info.size w := fun w => run_size (by rw [hi]; rfl)
  have hfz : ∀ o, w.frozen? ⟨b1.block, o, none⟩ = false := fun o => by
    simp only [World.frozen?, ha, hfa, Bool.and_eq_false_iff, decide_eq_false_iff_not]; omega
  have hfz1 : w.frozen? b1 = false := by
    simp only [World.frozen?, ha, hfa, Bool.and_eq_false_iff, decide_eq_false_iff_not]; omega
  have hr := Lib.run_overlaps_apart (P := P) w t bt e ht info.size hz b1 b2 l1 c1 l2 c2 hne ea eb ca.size cb.size (by simp [World.shape?, ha]) (by simp [World.shape?, hb]) hcb hfz1 (hfz _)
  have hcf : (callFunc ov #[.slice (some b1) l1 c1, .slice (some b2) l2 c2]).run P w = .ok (.value (.bool false)) w := by
    rw [run_callFunc_extern hfo hnm hbd hfn hfd, hr]; rfl
  have hef : a.eval (Operand.func ov) = .func (.func ov) #[] #[] := rfl
  simp only [insO14, execOp, resolve, hef, Deferred.ofValue, Sem.run_bind, Sem.run_pure, Result.andThen_ok, List.map_toArray, List.map_cons, List.map_nil, h1, h2, invoke, Array.empty_append, Array.append_empty, hcf]
theorem InsOk.ne {t it bt ut e : TypeId} {ov rr : Nat} {sh : Sh} {z : AV} {g sz : Nat} (ok : InsOk P t it bt ut e ov rr sh z g sz) : sh ≠ .sc := by
  rintro rfl
  exact absurd ok.hsc (by simp)
theorem reg_back {a a1 : Act} {w w1 : World} {G1 : Gh} {hp : Hp} {st : St} (hc : Came True gl a w G hp a1 w1 G1 st) {q b : Nat} {s : Sh} {r : Rg} (hq : SHK ≤ q) (h : G1.reg q = some r) (h0 : G.reg q = some (.blk b s)) : r = .blk b s := by
  obtain ⟨r0, h1, h2⟩ := hc.hand trivial q hq r h
  rw [h0] at h1; cases h1
  exact h2
theorem reg_init {a a1 : Act} {w w1 : World} {G1 : Gh} {hp : Hp} {st : St} (hc : Came True gl a w G hp a1 w1 G1 st) {q b : Nat} {s : Sh} (hq : SHK ≤ q) (h : G1.reg q = some (.blk b s)) : G.reg q = some (.blk b s) := by
  obtain ⟨r0, h1, h2⟩ := hc.hand trivial q hq _ h
  cases r0 with
  | nil => cases h2
  | blk b' s' => cases h2; exact h1
  | env X => obtain ⟨_, h2⟩ := h2; cases h2
theorem run_mk {a : Act} {w w' : World} {t it bt ut : TypeId} {ov rr : Nat} {v1 v2 r : Value} (h1 : a.eval (.tmp 34) = v1) (h2 : a.eval (.tmp 39) = v2) (h : (Builtin.append_ #[t, it] t #[v1, v2]).run P w = .ok r w') :
    (execOp a.eval (insO9 t it bt ut ov rr)).run P w = .ok (.value r) w' := by
  simp only [insO9, execOp, resolve, invoke, builtin, Sem.run_bind, Sem.run_pure, Result.andThen_ok, List.map_toArray, List.map_cons, List.map_nil, h1, h2, h]
theorem insert_ok {f : Nat} {fn : Func} {t it bt ut e : TypeId} {ov rr : Nat} {sh : Sh} {z : AV} {g sz : Nat} (hmix : P.follows .mixedOrders = true) (hfn : P.funcs[f]? = some fn) (hname : (fn.name == "runtime.NumGoroutine") = false)
    (hbody : fn.body = some (insC t it bt ut ov rr)) (hres : mapO (compRes P) fn.results.toList = some [.tmp 6]) (hn : 95 ≤ fn.ntmps) (ok : InsOk P t it bt ut e ov rr sh z g sz) : GivOk P f (insertG sh) := by
  intro gl cl hcall f' as imps r os es h
  have hF : ∀ f, Fence.wide.fn f := fun _ => trivial
  simp only [Option.ite_none_right_eq_some] at h
  obtain ⟨rfl, h⟩ := h
  unfold insertG at h
  split at h
  case h_2 => cases h
  rename_i k m i k2 q1 sh1 els q2 sh2 x
  rw [Option.ite_none_right_eq_some] at h
  obtain ⟨hc0, h⟩ := h
  cases h
  simp only [Bool.and_eq_true, beq_iff_eq, decide_eq_true_eq] at hc0
  obtain ⟨⟨⟨⟨⟨⟨rfl, rfl⟩, rfl⟩, rfl⟩, hb1⟩, hb2⟩, rfl, hi0, him, hlim⟩ := hc0
  obtain rfl := Sh.beq_eq hb1
  obtain rfl := Sh.beq_eq hb2
  obtain ⟨j, rfl⟩ : ∃ j : Nat, i = (j : Int) := ⟨i.toNat, by omega⟩
  have hj : j ≤ els.length := by omega
  rw [Int.toNat_natCast]
  obtain ⟨hszE, hszP⟩ := ok.hsz
  obtain ⟨info, hinfo, hginfo⟩ : ∃ info, P.info? e = some info ∧ (info.bytes, info.size) = (g, sz) := by
    have := ok.hi
    rw [Option.map_eq_some_iff] at this
    exact this
  obtain ⟨rfl, rfl⟩ := Prod.mk.inj hginfo
  refine ⟨⟨fn, hfn, hname, by simp [hbody]⟩, fun n w vs G inv hg hlen hrep => ?_⟩
  have S : Setting P Fence.wide n gl cl := ⟨hmix, call_wp hF rfl hcall n, opEx_of_opOk (call_wp (fun _ => trivial) rfl hcall n), hF⟩
  have hst : StOk w.heap G (inS0 sh els x j) (vs ++ Array.replicate (fn.ntmps - vs.size) undef) := enter_ok inv hlen hrep
  have hN : 95 ≤ (vs ++ Array.replicate (fn.ntmps - vs.size) undef).size := by simp; omega
  refine callsIn_of_wp hfn hbody (hF _) ?_ rfl
  by_cases hjn : j = els.length
  · -- at the end
    subst hjn
    obtain ⟨st1, hev, hst1⟩ := ins_pre_eq (gl := gl) (cl := cl) (sh := sh) (els := els) (x := x) hszE ok.hg hlim
    refine seqs_wp (L := True) S _ _ ok.pre (fun _ => by rfl) (by
      rw [List.all_eq_true]; intro c hc
      exact dstOk_mono hN c (List.all_eq_true.1 (ins_dst t it bt ut ov rr) c hc)) _ w G _ st1 .ret hg hst rfl hev _ _ fun a' w' G' hc => ?_
    obtain ⟨hfr, hhp⟩ := St.mk.inj hst1
    refine ⟨hc.defers, ?_⟩
    refine ins_end (K := 25) (l := insL els els.length x) hres (.inl rfl) hc hfr fun k => ?_
    rw [hhp]
    simp only [Hp.get, inH, insL]
    by_cases h1 : 100000 = k
    · subst h1; simp
    · by_cases h2 : 25 = k
      · subst h2; simp
      · by_cases h3 : 100001 = k
        · subst h3; simp
        · simp [h1, h2, h3]
  · have hjl : j < els.length := by omega
    obtain ⟨st1, hev, hst1⟩ := ins_pre_lt (gl := gl) (cl := cl) (sh := sh) (els := els) (x := x) (g := info.bytes) hszE hjl hlim
    refine seqs_wp (L := True) S _ _ ok.pre (fun _ => by rfl) (by
      rw [List.all_eq_true]; intro c hc
      exact dstOk_mono hN c (List.all_eq_true.1 (ins_dst t it bt ut ov rr) c hc)) _ w G _ st1 .norm hg hst rfl hev _ _ fun a1 w1 G1 hc1 => ?_
    obtain ⟨hfr1, hhp1⟩ := St.mk.inj hst1
    have hc2 : Came True gl { tmps := vs ++ Array.replicate (fn.ntmps - vs.size) undef, defers := [] } w G (inH sh els x) a1 w1 G1 (inS1 sh els x j) := by
      have := came_keep [0, 1, 2, 7, 8] hc1
      rw [hst1] at this; exact this
    clear hc1 hst1 hfr1 hhp1 hev
    have hsize : a1.tmps.size = (vs ++ Array.replicate (fn.ntmps - vs.size) undef).size := hc2.size
    -- is there room?
    refine wpIn_seq (wpIn_seq ?_)
    obtain ⟨st8, hev8, hst8⟩ := ins_8a (gl := gl) (cl := cl) (sh := sh) (els := els) (x := x) (i := j) (t := t) (it := it) (bt := bt) (ut := ut) (ov := ov) (rr := rr) hlim
    unfold insR8
    refine wpIn_region_lit (ops_ev (L := True) S.op _ _ ok.o8 (by simp [insA8]) a1 w1 G1 _ st8 (dst95 (by simp [insA8]) (hsize ▸ hN)) (fun _ => by rfl) (hg.moved hc2.move) hc2.ok hev8 _ fun a3 w3 G3 hc3 => ?_)
    have hc3 : Came True gl { tmps := vs ++ Array.replicate (fn.ntmps - vs.size) undef, defers := [] } w G (inH sh els x) a3 w3 G3 { fr := (inS1 sh els x j).fr ++ [.set 28 (.int .i64 ((els.length : Int) + 1)), .set 29 (.sl 100000 [] 0 els.length)], hp := inH sh els x } := by
      have := came_keep [0, 1, 2, 7, 8, 28, 29] (hc2.trans hc3)
      rw [hst8] at this; exact this
    have hs3 : 95 ≤ a3.tmps.size := by rw [hc3.size]; exact hN
    -- the list's block
    have hv29 := hc3.ok.fr 29
    simp only [inS1, List.cons_append, List.nil_append, Fr.get] at hv29
    simp only [Nat.reduceEqDiff, if_false, if_true] at hv29
    rw [repT_sc rfl] at hv29
    rcases hc3.ok.inv.obs 100000 (.grow sh els) rfl with ⟨h0, _⟩ | ⟨b, cap, c, e', fz, hr, hcl, hb, hcs, hf, hsh, hrc⟩
    · subst h0; simp at hjl
    rcases repS_sl hv29 with ⟨_, _, _, _, _, hreg⟩ | ⟨b', root, mm, e2, o', xo, hr', hs2, hof, hle2, hev29, hxo⟩
    · rw [hreg] at hr; cases hr
    rw [hr'] at hr
    simp only [Option.some.injEq, Rg.blk.injEq] at hr
    obtain ⟨rfl, rfl⟩ := hr
    simp only [Sh.sub, Option.some.injEq, Sh.ar.injEq] at hs2
    obtain ⟨rfl, rfl⟩ := hs2
    simp only [Sh.off, Option.some.injEq] at hof
    subst hof
    rw [Nat.sub_zero] at hev29
    have hx0 := hxo (by omega)
    simp only [Nat.zero_mul, Nat.add_zero] at hx0
    subst hx0
    refine val_op hF rfl (fun c h => by cases h) (run_cap ok.ht (by simpa [Act.eval] using hev29)) ?_
    have hc4 := came_put hc3 (d := 30) (v := .int .i64 cap) (v' := .int .i64 cap) (by omega) (repT_of_int _ _)
    have hc4 : Came True gl { tmps := vs ++ Array.replicate (fn.ntmps - vs.size) undef, defers := [] } w G (inH sh els x) (a3.put (some 30) (.int .i64 cap)) w3 G3 { fr := (inS1 sh els x j).fr ++ [.set 28 (.int .i64 ((els.length : Int) + 1)), .set 30 (.int .i64 cap)], hp := inH sh els x } :=
      came_keep [0, 1, 2, 7, 8, 28, 30] hc4
    have e30 : (insO8 t it bt ut ov rr).dst = some 30 := rfl
    rw [e30]
    generalize a3.put (some 30) (.int .i64 cap) = a4 at hc4
    have hs4 : 95 ≤ a4.tmps.size := by rw [hc4.size]; exact hN
    have hg4 := hg.moved hc4.move
    have hev31 : evIts gl cl (itsOf (((insB8 t it bt ut ov rr).zip inB8).map fun q => (q.1.dst, q.2))) { fr := (inS1 sh els x j).fr ++ [.set 28 (.int .i64 ((els.length : Int) + 1)), .set 30 (.int .i64 cap)], hp := inH sh els x } =
        some { fr := .set 31 (.bool (decide ((cap : Int) < (els.length : Int) + 1))) :: ((inS1 sh els x j).fr ++ [.set 28 (.int .i64 ((els.length : Int) + 1)), .set 30 (.int .i64 cap)]), hp := inH sh els x } := by
      simp [insB8, inB8, itsOf, evIts, stepOp, Opd.val, Fr.get, St.upd, Fr.upd, binAV, binInt, inS1]
    rw [show insB8 t it bt ut ov rr = insB8 t it bt ut ov rr ++ [] from (List.append_nil _).symm]
    refine ops_ev (L := True) S.op _ _ ok.b8 (by simp [insB8]) a4 w3 G3 _ _ (dst95 (by simp [insB8]) hs4) (fun _ => by rfl) hg4 hc4.ok hev31 _ fun a5 w5 G5 hc5 => ?_
    have hc5 : Came True gl { tmps := vs ++ Array.replicate (fn.ntmps - vs.size) undef, defers := [] } w G (inH sh els x) a5 w5 G5 { fr := .set 31 (.bool (decide ((cap : Int) < (els.length : Int) + 1))) :: (inS1 sh els x j).fr, hp := inH sh els x } :=
      came_keep [31, 0, 1, 2, 7, 8] (hc4.trans hc5)
    refine wpListIn_nil ?_
    have hx5 : a5.eval (Operand.tmp 31) = .bool (decide ((cap : Int) < (els.length : Int) + 1)) := by
      have := hc5.ok.fr 31
      exact repT_bool this
    have hc6 : Came True gl { tmps := vs ++ Array.replicate (fn.ntmps - vs.size) undef, defers := [] } w G (inH sh els x) a5 w5 G5 (inS1 sh els x j) := came_keep [0, 1, 2, 7, 8] hc5
    have hs6 : 95 ≤ a5.tmps.size := by rw [hc6.size]; exact hN
    have hg6 := hg.moved hc6.move
    refine wpIn_cond hx5 ?_
    by_cases hroom : (cap : Int) < (els.length : Int) + 1
    · -- no room
      rw [if_pos (by simp [hroom])]
      have hreg0 := reg_init hc3 (Nat.le_refl _) hr'
      refine wpIn_seq ?_
      obtain ⟨st9, hev9, hst9⟩ := ins_9a (gl := gl) (cl := cl) (sh := sh) (els := els) (x := x) (i := j) (t := t) (it := it) (bt := bt) (ut := ut) (ov := ov) (rr := rr) hjl hszE hlim
      unfold insR9
      refine wpIn_region_lit (ops_ev (L := True) S.op _ _ ok.o9 (by simp [insA9]) a5 w5 G5 _ st9 (dst95 (by simp [insA9]) hs6) (fun _ => by rfl) hg6 hc6.ok hev9 _ fun a7 w7 G7 hc7 => ?_)
      have hc7 : Came True gl { tmps := vs ++ Array.replicate (fn.ntmps - vs.size) undef, defers := [] } w G (inH sh els x) a7 w7 G7
          { fr := [.set 0 (.sl 100000 [] 0 els.length), .set 1 (.int .i64 j), .set 2 (.sl 100001 [] 0 1), .set 7 (.int .i64 1), .set 34 (.sl 100000 [] 0 j), .set 39 (.int .i64 ((els.length + 1 - j : Nat) : Int))], hp := inH sh els x } := by
        have := came_keep [0, 1, 2, 7, 34, 39] (hc6.trans hc7)
        rw [hst9] at this; exact this
      have hs7 : 95 ≤ a7.tmps.size := by rw [hc7.size]; exact hN
      have hv34 : RepT w7.heap G7 (a7.tmps.getD 34 undef) (.sl 100000 [] 0 j) := hc7.ok.fr 34
      have hv39 : RepT w7.heap G7 (a7.tmps.getD 39 undef) (.int .i64 ((els.length + 1 - j : Nat) : Int)) := hc7.ok.fr 39
      rw [repT_sc rfl] at hv34
      have hv39 := repT_int hv39
      obtain ⟨b7, cap7, hev34, hcap7⟩ : ∃ b7 cap7, a7.tmps.getD 34 undef = .slice b7 j cap7 ∧ cap7 = cap := by
        rcases repS_sl hv34 with ⟨_, _, _, _, _, hreg⟩ | ⟨b7, root7, m7, e7, o7, x7, hr7, hs7', ho7, hle7, he7, _⟩
        · have := reg_back hc7 (Nat.le_refl _) hreg hreg0; cases this
        · have := reg_back hc7 (Nat.le_refl _) hr7 hreg0
          cases this
          simp only [Sh.sub, Option.some.injEq, Sh.ar.injEq] at hs7'
          obtain ⟨rfl, rfl⟩ := hs7'
          exact ⟨_, _, he7, Nat.sub_zero _⟩
      subst hcap7
      have htl : (els.take j).length = j := by rw [List.length_take]; omega
      have hsrc := src_slice (P := P) hc7.ok.inv hv34 (show content (inH sh els x) (.sl 100000 [] 0 j) = some (sh, els.take j) by simp [content, inH, Hp.get, sub, hj])
      rw [hev34] at hsrc
      obtain ⟨newCap, c9, hrun9, hnc, hcs9, hrep9⟩ := run_append_make (P := P) (ty := t) (n := els.length + 1 - j) (l := els.take j) (b := b7) (cap := cap7) ok.ht ok.hit ok.hz hinfo ok.hg (hszE ▸ hszP) (by omega) (shx := sh) (by rw [htl]; exact hsrc) (.inr rfl) (by omega) (by omega)
      obtain ⟨hshT, zv, hzv, hshz, hzp, hzw, hrl⟩ := zeroOf_spec ok.hz
      have hsh7 : ∀ q ∈ els, hasSh sh q = true ∧ q.plain = true ∧ q.wf := hsh
      have hgrow := step_grow (sh := sh) (e := e) (fz := (0, 0)) (k := 40) (els := els.take j ++ List.replicate (els.length + 1 - j) z) (c := c9) (cap := newCap) hc7.ok.inv rfl (by simpa using hnc) hcs9 (.inl rfl)
        (fun q hq => by
          rcases List.mem_append.1 hq with hq | hq
          · exact hsh7 q (List.mem_of_mem_take hq)
          · rw [List.eq_of_mem_replicate hq]; exact ⟨hshz, hzp, hzw⟩) hrep9
      rw [htl] at hrun9 hnc
      refine val_op hF rfl (fun c h => by cases h) (run_mk (by simpa [Act.eval] using hev34) (by simpa [Act.eval] using hv39) hrun9) ?_
      have hc8 := came_step (w2 := { w7 with drawn := w7.drawn + 1, heap := w7.heap.push (.cells c9 e) }) hc7 (d := some 40) (us := [(40, .grow sh (els.take j ++ List.replicate (els.length + 1 - j) z))]) (v := .sl 40 [] 0 (j + (els.length + 1 - j))) (fun i hi => by cases hi; exact Nat.lt_of_lt_of_le (by decide) hs7) ⟨rfl, rfl⟩ hgrow (sl_new hnc)
        (fun _ k o hk => by simp only [List.mem_singleton, Prod.mk.injEq] at hk; rw [hk.1]; exact .inr (by decide))
      rw [show j + (els.length + 1 - j) = els.length + 1 by omega] at hc8
      have hc8 : Came True gl { tmps := vs ++ Array.replicate (fn.ntmps - vs.size) undef, defers := [] } w G (inH sh els x) (a7.put (some 40) (.slice (some ⟨w7.heap.size, 0, none⟩) (els.length + 1) newCap)) { w7 with drawn := w7.drawn + 1, heap := w7.heap.push (.cells c9 e) } _
          { fr := [.set 0 (.sl 100000 [] 0 els.length), .set 1 (.int .i64 j), .set 2 (.sl 100001 [] 0 1), .set 7 (.int .i64 1), .set 40 (.sl 40 [] 0 (els.length + 1))], hp := (40, .grow sh (els.take j ++ List.replicate (els.length + 1 - j) z)) :: inH sh els x } := came_keep [0, 1, 2, 7, 40] hc8
      have e40 : (insO9 t it bt ut ov rr).dst = some 40 := rfl
      rw [e40, show j + (els.length + 1 - j) = els.length + 1 by omega]
      generalize a7.put (some 40) (.slice (some ⟨w7.heap.size, 0, none⟩) (els.length + 1) newCap) = a8 at hc8
      generalize ({ w7 with drawn := w7.drawn + 1, heap := w7.heap.push (.cells c9 e) } : World) = w8 at hc8
      have hs8 : 95 ≤ a8.tmps.size := by rw [hc8.size]; exact hN
      rw [show insB9 t it bt ut ov rr = insB9 t it bt ut ov rr ++ [] from (List.append_nil _).symm]
      refine ops_ev (L := True) S.op _ _ ok.b9 (by simp [insB9]) a8 w8 _ _ _ (dst95 (by simp [insB9]) hs8) (fun _ => by rfl) (hg.moved hc8.move) hc8.ok (show _ = some _ from rfl) _ fun a9 w9 G9 hc9 => ?_
      have hc9 : Came True gl { tmps := vs ++ Array.replicate (fn.ntmps - vs.size) undef, defers := [] } w G (inH sh els x) a9 w9 G9 (inS10 sh z els x j) := came_keep [0, 1, 2, 7, 9] (hc8.trans hc9)
      refine wpListIn_nil ?_
      obtain ⟨st10, hev10, hfr10, hhp10⟩ := ins_10 (gl := gl) (cl := cl) (sh := sh) (z := z) (els := els) (x := x) (i := j) hjl hszE hlim
      refine code_wp (L := True) S _ _ _ ok.s10 (fun _ => by rfl) (dstOk_mono (by rw [hc9.size]; exact hN) _ (ins_dst10 t it bt ut ov rr)) a9 w9 G9 _ st10 .ret (hg.moved hc9.move) hc9.ok rfl hev10 _ fun a' w' G' hc10 => ?_
      have hc10 := hc9.trans hc10
      have hk10 : st10.hp.get 100000 = some (.grow sh els) := by rw [hhp10]; rfl
      have hc11 := came_ghost hc10 (us := [(100000, .dead)]) (step_dead hc10.ok.inv hk10) (fun _ k o hk => by
        simp only [List.mem_singleton, Prod.mk.injEq] at hk; rw [hk.1]; exact .inl (by rw [hk10]; simp))
      refine ⟨hc11.defers, ?_⟩
      refine ins_end (K := 40) (l := insL els j x) hres (.inr (.inl rfl)) hc11 hfr10 fun k => ?_
      simp only [List.cons_append, List.nil_append, Hp.get, hhp10, inH]
      by_cases h1 : 100000 = k
      · simp [h1]
      · by_cases h2 : 40 = k
        · subst h2; simp
        · simp [h1, h2]
    · rw [if_neg (by simp [hroom])]
      refine wpIn_skip ?_
      have hroom : els.length + 1 ≤ cap := by omega
      have hreg0 := reg_init hc3 (Nat.le_refl _) hr'
      refine wpIn_seq ?_
      obtain ⟨st13, hev13, hst13⟩ := ins_13a (gl := gl) (cl := cl) (sh := sh) (els := els) (x := x) (i := j) (t := t) (it := it) (bt := bt) (ut := ut) (ov := ov) (rr := rr) hlim
      unfold insR13
      refine wpIn_region_lit (ops_ev (L := True) S.op _ _ ok.o13 (by simp [insA13]) a5 w5 G5 _ st13 (dst95 (by simp [insA13]) hs6) (fun _ => by rfl) hg6 hc6.ok hev13 _ fun a7 w7 G7 hc7 => ?_)
      have hc7 : Came True gl { tmps := vs ++ Array.replicate (fn.ntmps - vs.size) undef, defers := [] } w G (inH sh els x) a7 w7 G7
          { fr := [.set 1 (.int .i64 j), .set 2 (.sl 100001 [] 0 1), .set 7 (.int .i64 1), .set 56 (.sl 100000 [] 0 els.length), .set 59 (.int .i64 ((els.length : Int) + 1))], hp := inH sh els x } := by
        have := came_keep [1, 2, 7, 56, 59] (hc6.trans hc7)
        rw [hst13] at this; exact this
      have hs7 : 95 ≤ a7.tmps.size := by rw [hc7.size]; exact hN
      have hv56 : RepT w7.heap G7 (a7.tmps.getD 56 undef) (.sl 100000 [] 0 els.length) := hc7.ok.fr 56
      have hv59 : RepT w7.heap G7 (a7.tmps.getD 59 undef) (.int .i64 ((els.length : Int) + 1)) := hc7.ok.fr 59
      rw [repT_sc rfl] at hv56
      have hv59 := repT_int hv59
      obtain ⟨hev56, hr7⟩ : a7.tmps.getD 56 undef = .slice (some ⟨b', 0, none⟩) els.length cap ∧ G7.reg 100000 = some (.blk b' (.ar cap sh)) := by
        rcases repS_sl hv56 with ⟨_, _, _, _, _, hreg⟩ | ⟨b7, root7, m7, e7, o7, x7, hr7, hs7', ho7, hle7, he7, hx7⟩
        · have := reg_back hc7 (Nat.le_refl _) hreg hreg0; cases this
        · have := reg_back hc7 (Nat.le_refl _) hr7 hreg0
          cases this
          simp only [Sh.sub, Option.some.injEq, Sh.ar.injEq] at hs7'
          obtain ⟨rfl, rfl⟩ := hs7'
          simp only [Sh.off, Option.some.injEq] at ho7
          subst ho7
          have hx := hx7 (by omega)
          simp only [Nat.zero_mul, Nat.add_zero] at hx
          subst hx
          exact ⟨he7, hr7⟩
      refine val_op hF rfl (fun c h => by cases h) (run_cut ok.ht hinfo (by simpa [Act.eval] using hev56) (by simpa [Act.eval] using hv59) hroom) ?_
      have hrs : RepT w7.heap G7 (.slice (some ⟨b', 0, none⟩) (els.length + 1) cap) (.sl 100000 [] 0 (els.length + 1)) := by
        have := RepS.sl (H := w7.heap) (G := G7) 100000 [] 0 (els.length + 1) b' (.ar cap sh) cap sh 0 hr7 rfl rfl (by omega)
        rw [repT_sc rfl]
        simpa using this
      have hc8 := came_put hc7 (d := 60) (Nat.lt_of_lt_of_le (by decide) hs7) hrs
      have hc8 : Came True gl { tmps := vs ++ Array.replicate (fn.ntmps - vs.size) undef, defers := [] } w G (inH sh els x) (a7.put (some 60) (.slice (some ⟨b', 0, none⟩) (els.length + 1) cap)) w7 G7
          { fr := [.set 1 (.int .i64 j), .set 2 (.sl 100001 [] 0 1), .set 7 (.int .i64 1), .set 60 (.sl 100000 [] 0 (els.length + 1))], hp := inH sh els x } := came_keep [1, 2, 7, 60] hc8
      have e60 : (insO13 t it bt ut ov rr).dst = some 60 := rfl
      rw [e60]
      generalize a7.put (some 60) (.slice (some ⟨b', 0, none⟩) (els.length + 1) cap) = a8 at hc8
      have hs8 : 95 ≤ a8.tmps.size := by rw [hc8.size]; exact hN
      rw [show insB13 t it bt ut ov rr = insB13 t it bt ut ov rr ++ [] from (List.append_nil _).symm]
      refine ops_ev (L := True) S.op _ _ ok.b13 (by simp [insB13]) a8 w7 _ _ _ (dst95 (by simp [insB13]) hs8) (fun _ => by rfl) (hg.moved hc8.move) hc8.ok (show _ = some _ from rfl) _ fun a9 w9 G9 hc9 => ?_
      have hc9 : Came True gl { tmps := vs ++ Array.replicate (fn.ntmps - vs.size) undef, defers := [] } w G (inH sh els x) a9 w9 G9 (inS14 sh els x j) := came_keep [0, 1, 2, 7] (hc8.trans hc9)
      refine wpListIn_nil ?_
      have hs9 : 95 ≤ a9.tmps.size := by rw [hc9.size]; exact hN
      -- no overlap
      refine wpIn_seq (wpIn_seq ?_)
      obtain ⟨st14, hev14, hst14⟩ := ins_14a (gl := gl) (cl := cl) (sh := sh) (els := els) (x := x) (i := j) (t := t) (it := it) (bt := bt) (ut := ut) (ov := ov) (rr := rr) hjl hszE hlim
      unfold insR14
      refine wpIn_region_lit (ops_ev (L := True) S.op _ _ ok.o14 (by simp [insA14]) a9 w9 G9 _ st14 (dst95 (by simp [insA14]) hs9) (fun _ => by rfl) (hg.moved hc9.move) hc9.ok hev14 _ fun aa wa Ga hca => ?_)
      have hca : Came True gl { tmps := vs ++ Array.replicate (fn.ntmps - vs.size) undef, defers := [] } w G (inH sh els x) aa wa Ga { fr := (inS14 sh els x j).fr ++ [.set 61 (.sl 100001 [] 0 1), .set 66 (.sl 100000 [] (j + 1) (els.length - j))], hp := inH sh els x } := by
        have := came_keep [0, 1, 2, 7, 61, 66] (hc9.trans hca)
        rw [hst14] at this; exact this
      have hsa : 95 ≤ aa.tmps.size := by rw [hca.size]; exact hN
      have hv61 : RepT wa.heap Ga (aa.tmps.getD 61 undef) (.sl 100001 [] 0 1) := hca.ok.fr 61
      have hv66 : RepT wa.heap Ga (aa.tmps.getD 66 undef) (.sl 100000 [] (j + 1) (els.length - j)) := hca.ok.fr 66
      rw [repT_sc rfl] at hv61 hv66
      have hsne : sh ≠ .sc := ok.ne
      obtain ⟨b1, c1, hev61, ⟨ca, ea, fa, hba, hfa⟩, hat1⟩ : ∃ b1 c1, aa.tmps.getD 61 undef = .slice (some b1) 1 c1 ∧ (∃ ca ea fa, wa.heap[b1.block]? = some (.cells ca ea fa) ∧ fa.1 = fa.2) ∧ Ga.At 100001 b1.block (.ar c1 sh) := by
        rcases hca.ok.inv.obs 100001 (.grow sh [x]) rfl with ⟨h0, _⟩ | ⟨bb, cap1, c1, e1, fz1, hr1, hcl1, hb1', hcs1, hf1, hsh1, hrc1⟩
        · cases h0
        rcases repS_sl hv61 with ⟨_, _, _, _, _, hreg⟩ | ⟨b7, root7, m7, e7, o7, x7, hr7', hs7', ho7, hle7, he7, hx7⟩
        · rw [hreg] at hr1; cases hr1
        rw [hr7'] at hr1
        cases hr1
        simp only [Sh.sub, Option.some.injEq, Sh.ar.injEq] at hs7'
        obtain ⟨rfl, rfl⟩ := hs7'
        refine ⟨⟨bb, x7, none⟩, cap1, by rw [he7, Nat.sub_zero], ⟨_, _, _, hb1', ?_⟩, .of hr7'⟩
        rcases hf1 with h | ⟨h, _⟩
        · exact h
        · exact absurd h hsne
      obtain ⟨b2, c2, hev66, ⟨cb, eb, fb, hbb, hcb⟩, hat2⟩ : ∃ b2 c2, aa.tmps.getD 66 undef = .slice (some b2) (els.length - j) c2 ∧ (∃ cb eb fb, wa.heap[b2.block]? = some (.cells cb eb fb) ∧ cb.size ≠ 0) ∧ Ga.At 100000 b2.block (.ar cap sh) := by
        rcases hca.ok.inv.obs 100000 (.grow sh els) rfl with ⟨h0, _⟩ | ⟨bb, cap1, c1, e1, fz1, hr1, hcl1, hb1', hcs1, hf1, hsh1, hrc1⟩
        · subst h0; simp at hjl
        have := reg_back hca (Nat.le_refl _) hr1 hreg0
        cases this
        rcases repS_sl hv66 with ⟨_, _, _, _, _, hreg⟩ | ⟨b7, root7, m7, e7, o7, x7, hr7', hs7', ho7, hle7, he7, hx7⟩
        · rw [hreg] at hr1; cases hr1
        rw [hr7'] at hr1
        cases hr1
        refine ⟨⟨_, x7, none⟩, m7 - (j + 1), he7, ⟨_, _, _, hb1', ?_⟩, .of hr7'⟩
        rw [hcs1]
        exact Nat.mul_ne_zero (by omega) (by omega)
      have hne : b1.block ≠ b2.block := fun e => by
        rw [← e] at hat2
        have := hca.ok.inv.dist 100001 100000 b1.block _ _ hat1 hat2 ⟨_, rfl, by simp⟩ ⟨_, rfl, by simp⟩
        cases this
      refine val_op hF rfl (fun c h => by cases h) (run_over ok.ht hinfo ok.hov (by simpa [Act.eval] using hev61) (by simpa [Act.eval] using hev66) hne hba hbb hfa hcb) ?_
      have hcb := came_put hca (d := 67) (Nat.lt_of_lt_of_le (by decide) hsa) (repT_of_bool false)
      have e67 : (insO14 t it bt ut ov rr).dst = some 67 := rfl
      rw [e67]
      generalize aa.put (some 67) (.bool false) = ab at hcb
      have hsb : 95 ≤ ab.tmps.size := by rw [hcb.size]; exact hN
      rw [show insB14 t it bt ut ov rr = insB14 t it bt ut ov rr ++ [] from (List.append_nil _).symm]
      refine ops_ev (L := True) S.op _ _ ok.b14 (by simp [insB14]) ab wa _ _ _ (dst95 (by simp [insB14]) hsb) (fun _ => by rfl) (hg.moved hcb.move) hcb.ok (show _ = some _ from rfl) _ fun ac wc Gc hcc => ?_
      have hcc := hcb.trans hcc
      refine wpListIn_nil ?_
      have hxc : ac.eval (Operand.tmp 68) = .bool true := repT_bool (hcc.ok.fr 68)
      have hcd : Came True gl { tmps := vs ++ Array.replicate (fn.ntmps - vs.size) undef, defers := [] } w G (inH sh els x) ac wc Gc (inS14 sh els x j) := came_keep [0, 1, 2, 7] hcc
      refine wpIn_cond hxc ?_
      rw [if_pos rfl]
      obtain ⟨st15, hev15, hfr15, hhp15⟩ := ins_15 (gl := gl) (cl := cl) (sh := sh) (els := els) (x := x) (i := j) hjl hszE hlim
      refine code_wp (L := True) S _ _ _ ok.s15 (fun _ => by rfl) (dstOk_mono (by rw [hcd.size]; exact hN) _ (ins_dst15 t it bt ut ov rr)) ac wc Gc _ st15 .ret (hg.moved hcd.move) hcd.ok rfl hev15 _ fun a' w' G' hce => ?_
      have hce := hcd.trans hce
      have hk15 : st15.hp.get 100000 = some (.grow sh (insL els j x)) := (hhp15 _).trans rfl
      have hk200 : st15.hp.get 200 = none := (hhp15 _).trans rfl
      have hfr6 : st15.fr.get 6 = .sl 100000 [] 0 (els.length + 1) := by
        have : keepFr st15.fr [6] = [.set 6 (st15.fr.get 6)] := rfl
        rw [this] at hfr15
        simpa using hfr15
      have hv6 := hce.ok.fr 6
      rw [hfr6, repT_sc rfl] at hv6
      rcases hce.ok.inv.obs _ _ hk15 with ⟨h0, _⟩ | ⟨bl, cap1, c1, e1, fz1, hr1, hcl1, hb1', hcs1, hf1, hsh1, hrc1⟩
      · simp [insL] at h0
      have hmv := step_move hce.ok.inv (k := 200) hk15 (by simp) hk200 hr1 w'.heap (.grow sh (insL els j x)) rfl (fun _ _ => rfl) fun le => .inr ⟨bl, cap1, c1, e1, fz1, by simp [Gh.with], hcl1, hb1', hcs1, hf1, hsh1, hrc1.mono le⟩
      have hcf := came_ghost hce (us := [(100000, .dead), (200, .grow sh (insL els j x))]) hmv (fun _ k o hk => by
        simp only [List.mem_cons, List.not_mem_nil, or_false, Prod.mk.injEq] at hk
        rcases hk with ⟨rfl, _⟩ | ⟨rfl, _⟩
        · exact .inl (by rw [hk15]; simp)
        · exact .inr (by decide))
      have hcg := came_fr hcf (fr := [.set 6 (.sl 200 [] 0 (els.length + 1))]) fun i => by
        simp only [Fr.get]
        by_cases h6 : 6 = i
        · subst h6
          rw [if_pos rfl, repT_sc rfl]
          rcases repS_sl hv6 with ⟨_, _, _, _, _, hreg⟩ | ⟨b7, root7, m7, e7, o7, x7, hr7', hs7', ho7, hle7, he7, hx7⟩
          · rw [hreg] at hr1; cases hr1
          rw [hr7'] at hr1
          cases hr1
          simp only [Sh.sub, Option.some.injEq, Sh.ar.injEq] at hs7'
          obtain ⟨rfl, rfl⟩ := hs7'
          simp only [Sh.off, Option.some.injEq] at ho7
          subst ho7
          have hx := hx7 (by omega)
          subst hx
          rw [he7]
          exact .sl 200 [] 0 (els.length + 1) bl (.ar cap1 sh) cap1 sh 0 (by simp [Gh.with]) rfl rfl (by omega)
        · rw [if_neg h6]; trivial
      refine ⟨hcg.defers, ?_⟩
      refine ins_end (K := 200) (l := insL els j x) hres (.inr (.inr rfl)) hcg rfl fun k => ?_
      simp only [List.cons_append, List.nil_append, Hp.get, hhp15]
      by_cases h1 : 100000 = k
      · simp [h1]
      · by_cases h2 : 200 = k
        · subst h2; simp
        · simp [h1, h2]
end Go.Ev
