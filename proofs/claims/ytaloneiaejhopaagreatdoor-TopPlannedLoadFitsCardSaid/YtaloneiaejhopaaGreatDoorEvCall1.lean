/-
  Nothing is made at the keys of what was handed in. No condition.
-/
import Derived.Test.YtaloneiaejhopaaGreatDoorEvLend
set_option linter.all false
open Option renaming map_eq_some_iff->wB,some.injEq->wC,bind_eq_some_iff->wD,ite_none_right_eq_some->wE,bind_some->wF,getD_some->wG
open Bool renaming and_eq_true->wH,and_eq_true_iff->wJ,or_eq_false_iff->wK,or_eq_true->wM
open List renaming mem_cons->wN,getElem_cons_zero->wO,mem_append->wP,getD_eq_getElem?_getD->wQ,getElem_mem->wR,getElem?_eq_getElem->wS,singleton_append->wT,nodup_cons->wU,filterMap->wW,mem_filterMap->wX,all_eq_true->wY,getElem_cons_succ->wZ,range_eq_range'->w0,not_mem_nil->w3,length_cons->w5,range->w6
open Prod renaming mk.injEq->w7,mk->w8
open Nat renaming add_sub_cancel_left->w9,zero_add->wa,add_left_cancel->wb,sub_zero->wd,add_zero->we,le_refl->wf
namespace Go.Ev
open Go
section
variable {gl :Gl} {cl:Cl} {st st':St} {d:Option Nat} {m:MOp} {v:AV} {us:Hp}
theorem vO {hp:Hp}{d:Nat}:∀{l:List OB} {j:Nat} {us:Hp},cv hp d j l=some us->∀k o,(k,o)∈us->k<SHK
 | [],j,us,h=>by simp only[cv,wC]at h;subst h;intro k o hk;cases hk
 | .grow sh els::l,j,us,h=>by
   simp only[cv]at h;rw[wE,wH,decide_eq_true_eq]at h;obtain⟨⟨_,h1⟩,h⟩:=h;simp only[wB]at h;obtain⟨r,hr,rfl⟩:=h;intro k o hk;rcases wN.1 hk with hk|hk
   . rw[(w8.inj hk).1];exact h1
   . exact vO hr k o hk
 | .fix _ _::_,_,_,h=>by simp[cv]at h
 | .dead::_,_,_,h=>by simp[cv]at h
 | .lp _ _ _::_,_,_,h=>by simp[cv]at h
theorem Ei {hp:Hp}{ks:List Nat}{d:Nat}:∀{l:List OB} {j:Nat} {us:Hp},mu hp ks d j l=some us->∀k o,(k,o)∈us->k<SHK
 | [],j,us,h=>by simp only[mu,wC]at h;subst h;intro k o hk;cases hk
 | e::l,j,us,h=>by
   simp only[mu]at h;rw[wE,wH,decide_eq_true_eq]at h;obtain⟨⟨_,h1⟩,h⟩:=h;simp only[wB]at h;obtain⟨r,hr,rfl⟩:=h;intro k o hk;rcases wN.1 hk with hk|hk
   . rw[(w8.inj hk).1];exact h1
   . exact Ei hr k o hk
theorem lg {hp:Hp}{d f:Nat}{args:List AV}{ks:List Nat}(h:dq cl hp d f args ks=some (v,us)):∀k o,(k,o)∈us->hp.get k≠none\/k<SHK:=by
 obtain⟨⟨h1,h2,h4,h3⟩,r,hp2,es,us',h5,h6,h7,rfl,rfl⟩:=dF h;intro k o hk;rcases wP.1 hk with hk|hk
 . have ⟨q,o',hq,e1,_⟩:=iC hk;have ⟨j,hj,e2⟩:=ft h6 q o' hq;have e3:q-SHK=j:=by rw[e2,wa];exact w9 SHK j
   have hk':k∈ks:=by rw[e1,e3,wQ,wS hj];exact wR hj
   unfold dT at h1;rw[wY]at h1;have:=h1 k hk';rw[wH]at this;left;intro he;rw[he]at this;cases this.1
 . exact .inr (Ei h7 k o hk)
theorem tY {hp:Hp}{d f:Nat}{args:List AV}{m:Mode}(h:dg cl hp d f args m=some (v,us)):∀k o,(k,o)∈us->hp.get k≠none\/k<SHK:=by
 cases m with
 | imp =>simp only[dg,wE]at h;exact lg h.2
 | lend =>
   obtain⟨as,r,es,has,hr,hc,hres⟩:=iQ h;rcases hres with ⟨_,_,rfl⟩|⟨_,h2⟩
   . intro k o hk;cases hk
   . exact fun k o hk=>.inr (vO h2 k o hk)
theorem mQ (hd:ltO d=true)(h:af gl cl st d m=some (v,us)):∀k o,(k,o)∈us->st.hp.get k≠none\/k<SHK:=by
 have nil:∀{a:AV} {b:AV} {us:Hp},(a,([]:Hp))=(b,us)->∀k o,(k,o)∈us->st.hp.get k≠none\/k<SHK:=by intro a b us h k o hk;cases h;cases hk
 have one:∀{k:Nat} {o:OB},st.hp.get k≠none\/k<SHK->∀k' o',(k',o')∈([(k,o)]:Hp)->st.hp.get k'≠none\/k'<SHK:=by intro k o h k' o' hk;simp only[List.mem_singleton,w7]at hk;rw[hk.1];exact h
 have lt:∀{k:Nat},ltO (some k)=true->k<SHK:=fun h=>of_decide_eq_true h
 cases m with
 | mapop k kk z l =>
   simp only[af]at h;rcases jw h with ⟨_,q,rfl,_,rfl⟩|⟨q,ys,_,hx,rfl|⟨o,_,hw,rfl⟩⟩
   . exact one (.inr (lt hd))
   . intro k o hk;cases hk
   . exact one (.inl hw)
 | lits sh z n ps =>simp only[af,wD,wE,wC,w7]at h;obtain⟨l,_,_,_,rfl⟩:=h;intro k o hk;cases hk
 | alloc sh z =>
   simp only[af]at h;split at h
   . split at h
     . cases h;exact one (.inr (lt hd))
     . cases h
   . cases h
 | box sh x =>
   simp only[af]at h;split at h
   . split at h
     . cases h;exact one (.inr (lt hd))
     . cases h
   . cases h
 | bslice sh z n ps =>
   simp only[af]at h;split at h
   . split at h
     . simp only[wD]at h;obtain⟨l,hl,h⟩:=h;split at h
       . cases h;exact one (.inr (lt hd))
       . cases h;exact one (.inr (lt hd))
     . cases h
   . cases h
 | s2b x =>
   simp only[af]at h;split at h
   . split at h
     . cases h;exact one (.inr (lt hd))
     . cases h
   . cases h
 | mkslice sh z b l c =>
   simp only[af]at h;split at h
   . split at h
     . cases h;exact one (.inr (lt hd))
     . cases h
   . cases h
 | mkarr sh z b l c =>
   simp only[af]at h;split at h
   . split at h
     . cases h;exact one (.inr (lt hd))
     . cases h
   . cases h
 | store n p x =>
   simp only[af]at h;split at h
   . rename_i k q hp;split at h
     . rename_i hk;split at h
       . split at h
         . simp only[wB,w7]at h;obtain⟨a',_,_,rfl⟩:=h;exact one (.inl (by simp[hk]))
         . cases h
       . cases h
     . rename_i hk;split at h
       . split at h
         . simp only[wB,w7]at h;obtain⟨a',_,_,rfl⟩:=h;exact one (.inl (by simp[hk]))
         . cases h
       . cases h
     . cases h
   . cases h
 | idc x =>
   simp only[af]at h;split at h
   . rename_i k p o l hx;split at h
     . rename_i hk;cases h;exact one (.inl (by simp[hk]))
     . cases h
   . cases h
 | append sh b x y =>
   rw[iV]at h;split at h
   . split at h
     . split at h
       . split at h
         . cases h;exact one (.inr (lt hd))
         . cases h
       . split at h
         . rename_i hk;split at h
           . cases h;intro k' o' hm;rcases wN.1 hm with hm|hm
             . rw[(w8.inj hm).1];exact .inl (by simp[hk])
             . exact one (.inr (lt hd)) k' o' hm
           . split at h
             . cases h;intro k' o' hm;rcases wN.1 hm with hm|hm
               . rw[(w8.inj hm).1];exact .inr (lt hd)
               . exact one (.inl (by simp[hk])) k' o' hm
             . cases h
         . cases h
       . cases h
     . cases h
   . cases h
 | copy sh x y =>
   rw[kF]at h;split at h
   . split at h
     . dsimp only at h;split at h
       . split at h
         . cases h;exact one (.inl (by simp[*]))
         . cases h
       . split at h
         . split at h
           . simp only[wB,w7]at h;obtain⟨a',_,_,rfl⟩:=h;exact one (.inl (by simp[*]))
           . cases h
         . cases h
       . cases h
     . cases h
   . obtain⟨k,o,rfl,_,hk⟩:=oO h;exact one (.inl hk)
   . cases h
 | clear sh z x =>
   simp only[af]at h;split at h
   . split at h
     . rename_i hk;split at h
       . cases h;exact one (.inl (by simp[hk]))
       . cases h
     . cases h
   . cases h
 | appmk sh z b x y =>
   simp only[af]at h;split at h
   . split at h
     . cases h;exact one (.inr (lt hd))
     . cases h
   . cases h
 | call f l md =>
   simp only[af]at h;split at h
   . exact tY h
   . cases h
 | callv f l md =>
   simp only[af]at h;split at h
   . exact tY h
   . obtain⟨_,_,_,_,_,_,_,h3,rfl⟩:=eI h;intro k o hm;rcases wP.1 hm with hm|hm
     . rcases lg h3 k o hm with h1|h1
       . by_cases hl:st.hp.get k=none
         . rw[cQ]at h1;by_cases hk:k∈(cg st.hp (vals gl st.fr l)).2
           . obtain⟨_,o',h2,_⟩:=g9 k hk;rw[hl]at h2;cases h2
           . rw[if_neg hk]at h1;exact .inl h1
         . exact .inl hl
       . exact .inr h1
     . obtain⟨_,o',h2,_⟩:=g9 k (pU hm);exact .inl (by rw[h2];simp)
   . cases h
 | nap b x y =>
   simp only[af]at h
   repeat' (first|(cases h;done)|split at h)
   . cases h;exact one (.inr (lt hd))
   . rename_i hk _;cases h;intro k o hm;simp only[wN,w7,w3,or_false]at hm;rcases hm with ⟨rfl,_⟩|⟨rfl,_⟩
     . exact .inl (by rw[hk];simp)
     . exact .inr (lt hd)
 | ntk x =>
   simp only[af]at h
   repeat' (first|(cases h;done)|split at h)
   rename_i hk _ _ _ _;cases h;intro k o hm;simp only[wN,w7,w3,or_false]at hm;rcases hm with ⟨rfl,_⟩|⟨rfl,_⟩
   . exact .inl (by rw[hk];simp)
   . exact .inr (lt hd)
 | mov x=>simp only[af,wC]at h;exact nil h
 | bin o x y=>simp only[af,wB]at h;obtain⟨r,_,h⟩:=h;exact nil h
 | binB o x y=>simp only[af,wB]at h;obtain⟨r,_,h⟩:=h;exact nil h
 | _ =>
   simp only[af]at h
   repeat' (first|(cases h;done)|(simp only[wC]at h;exact nil h)|(simp only[wB]at h;obtain⟨r,_,h⟩:=h;exact nil h)|split at h|(simp only[wD]at h;obtain⟨r,_,h⟩:=h))
theorem nN {fr:Fr}(h:∀k o,(k,o)∈us->st.hp.get k≠none\/k<SHK){q:Nat}(hq:SHK<=q)(hn:Hp.get (us++st.hp) q≠none):st.hp.get q≠none:=by
 rw[Hp.get_append]at hn
 cases hu:Hp.get us q with
 | none=>rw[hu]at hn;exact hn
 | some o =>
   rcases h q o (Hp.get_mem hu)with h|h
   . exact h
   . exact absurd h (Nat.not_lt.2 hq)
theorem yu :∀{its:Its} {st st':St},qq its=true->bA gl cl its st=some st'->∀q,SHK<=q->st'.hp.get q≠none->st.hp.get q≠none
 | .nil,st,st',_,h,q,_,hn=>by simp only[bA,wC]at h;rw[h];exact hn
 | .op d m r,st,st',hl,h,q,hq,hn=>by simp only[qq,wH]at hl;simp only[bA,wD]at h;obtain⟨⟨v,us⟩,h1,h2⟩:=h;have:=yu hl.2 h2 q hq hn;exact nN (fr:=st.fr) (mQ hl.1 h1) hq this
 | .ite c want blk lo hi d a b r,st,st',hl,h,q,hq,hn=>by
   simp only[qq,wH]at hl;simp only[bA]at h;split at h
   . rw[wD]at h;obtain⟨x,_,h⟩:=h;exact yu hl.2 h q hq hn
   . cases h
theorem tM :∀{l:List FO} {st:St} {z:St×List (List Nat)},l.all (fun o=>ltO o.d)=true->cj gl cl l st=some z->∀q,SHK<=q->z.1.hp.get q≠none->st.hp.get q≠none
 | [],st,z,_,h,q,_,hn=>by simp only[cj,wC]at h;subst h;exact hn
 | o::l,st,z,hl,h,q,hq,hn=>by
   simp only[List.all_cons,wH]at hl;rw[lA,wD]at h;obtain⟨t,h1,h2⟩:=h;simp only[wB]at h2;obtain⟨z',h2,rfl⟩:=h2;have hn':=tM hl.2 h2 q hq hn;unfold foStep at h1;split at h1
   . cases h1
   . simp only[wB]at h1;obtain⟨⟨v,us⟩,h1,rfl⟩:=h1;exact nN (fr:=st.fr) (mQ hl.1 h1) hq hn'
   . cases h1;exact hn'
theorem fW {H H':aT}{G G':Gh}{hp hp':Hp}(inv:Inv H G hp)(s:Step H G hp H' G' hp')(hk:∀q,SHK<=q->hp'.get q≠none->hp.get q≠none){q:Nat}(hq:SHK<=q){r:Rg}(h:G'.reg q=some r):∃r0,G.reg q=some r0/\r0.le r:=by
 cases hg:G.reg q with
 | some r0 =>obtain⟨r1,h1,h2⟩:=s.le.reg q r0 hg;rw[h]at h1;cases h1;exact⟨r0,rfl,h2⟩
 | none =>
   exfalso;obtain⟨o,ho⟩:=s.inv.reg_get h;have h1:=hk q hq (by rw[ho];simp)
   cases ho':hp.get q with
   | none=>exact h1 ho'
   | some o' =>obtain⟨r',h'⟩:=inv.get_reg ho';rw[hg]at h';cases h'
end
section
variable {gl :Gl} {cl:Cl} {P:Program} {F:Fence} {n N:Nat} {an:Ann}
def de (N:Nat):Code->Bool
 | .region _ ops _=>ops.all fun o=>match o.dst with|some d=>decide (d<N)|none=>true
 | .seq a b=>de N a&&de N b
 | .cond _ a b=>de N a&&de N b
 | .block _ b=>de N b
 | .loop b=>de N b
 | .scope b=>de N b
 | _=>true
theorem GJ {ops:Array Oper}(h:(ops.all fun o=>match o.dst with|some d=>decide (d<N)|none=>true)=true):∀(i:Nat) (o:Oper),ops[i]? =some o->∀d,o.dst=some d->d<N:=by intro i o ho d hd;have:=Array.all_eq_true_iff_forall_mem.1 h o (Array.mem_of_getElem? ho);rw[hd]at this;simpa using this
def C4 :Ex->Exit
 | .norm=>.normal
 | .exit id=>.exit id
 | .ret=>.ret
structure Setting (P:Program)(F:Fence)(n:Nat)(gl:Gl)(cl:Cl):Prop where
 mix:P.follows .mixedOrders=true
 op:zA F n P gl cl
 ex:LL P gl cl
 fn:∀f,F.fn f
def I1 (r:Nat):Deferred:={target:=.collected r,args:= #[]}
structure MarksOk (ms:List Nat)(w w':World)(G':Gh)(hp':Hp):Prop where
 nd:ms.Nodup
 ok:∀r∈ms,w.heap.size<=r/\w'.heap[r]? =some (.deferred (some []))/\¬bG G' hp' r/\¬G'.imm r
theorem MarksOk.nil {w w':World}{G':Gh}{hp':Hp}:MarksOk [] w w' G' hp':=⟨List.nodup_nil,fun _ h=>by cases h⟩
structure CameM (L:Prop)(gl:Gl)(ms:List Nat)(a:Act)(w:World)(G:Gh)(hp:Hp)(a':Act)(w':World)(G':Gh)(st':St):Prop where
 kept:Kept w w'
 move:Move w.heap G hp w'.heap G' st'.hp
 ok:StOk w'.heap G' st' a'.tmps
 size:a'.tmps.size=a.tmps.size
 defers:a'.defers=ms.map I1++a.defers
 hand:L->∀q,SHK<=q->∀r,G'.reg q=some r->∃r0,G.reg q=some r0/\r0.le r
 marks:MarksOk ms w w' G' st'.hp
abbrev Came (L:Prop)(gl:Gl):=CameM L gl []
theorem CameM.trans {L:Prop}{ms1 ms2:List Nat}{a a1 a2:Act}{w w1 w2:World}{G G1 G2:Gh}{hp:Hp}{st1 st2:St}(h:CameM L gl ms1 a w G hp a1 w1 G1 st1)(h':CameM L gl ms2 a1 w1 G1 st1.hp a2 w2 G2 st2):CameM L gl (ms2++ms1) a w G hp a2 w2 G2 st2 where
 kept:=h.kept.trans h'.kept
 move:=h.move.trans h'.move
 ok:=h'.ok
 size:=h'.size.trans h.size
 defers:=by rw[h'.defers,h.defers,List.map_append,List.append_assoc]
 hand:=fun l q hq r hr=>let ⟨r1,h1,h2⟩:=h'.hand l q hq r hr;let ⟨r0,h3,h4⟩:=h.hand l q hq r1 h1;⟨r0,h3,Rg.le_trans h4 h2⟩
 marks:=by
  have lt:∀r∈ms1,r<w1.heap.size:=fun r hr=>(Array.getElem?_eq_some_iff.1 (h.marks.ok r hr).2.1).1
  refine⟨List.nodup_append.2 ⟨h'.marks.nd,h.marks.nd,fun x hx y hy e=> ?_⟩,fun r hr=> ?_⟩
  . subst e;have:=(h'.marks.ok x hx).1;have:=lt x hy;omega
  . rcases wP.1 hr with hr|hr
    . obtain⟨g1,g2⟩:=h'.marks.ok r hr;exact⟨Nat.le_trans h.move.size g1,g2⟩
    . obtain⟨g1,g2,g3,g4⟩:=h.marks.ok r hr;have hlt:=lt r hr;refine⟨g1,(h'.move.same r hlt g3).trans g2,fun hl=> ?_,fun hi=> ?_⟩
      . rcases h'.move.live r hl with h1|h1
        . exact g3 h1
        . omega
      . rcases h'.move.immNew r hi with h1|h1|h1
        . exact g4 h1
        . omega
        . exact g3 h1
theorem Came.trans {L:Prop}{a a1 a2:Act}{w w1 w2:World}{G G1 G2:Gh}{hp:Hp}{st1 st2:St}(h:Came L gl a w G hp a1 w1 G1 st1)(h':Came L gl a1 w1 G1 st1.hp a2 w2 G2 st2):Came L gl a w G hp a2 w2 G2 st2:=CameM.trans (ms1:=[]) (ms2:=[]) h h'
def G8 (F:Fence)(n:Nat)(P:Program)(gl:Gl)(cl:Cl)(N:Nat):Prop :=
 ∀(L:Prop) (g:Operand) (g':Opd) (rid:Nat) (info:RInfo) (kd dc:Nat),aw g=some g'->gl.ri rid=some info->info.nt<=N->(L->kd<SHK/\dc<SHK) ->
  ∀(a:Act) (w:World) (G:Gh) (st st':St) (e:Ex),GlOk w.heap G gl->StOk w.heap G st a.tmps->a.tmps.size=N->GB cl rid info.slots kd dc st (g'.val gl st.fr)=some (e,st') ->
  ∀(Q:Exit->Act->World->Prop),(∀ms a' w' G',CameM L gl ms a w G st.hp a' w' G' st'->Q (C4 e) a' w')->(Code.rangeFunc g info.params info.assign info.body).wpIn F n P Q a w
theorem tQ {p:Nat->Prop}(h:∃k,p k):∃k,p k/\∀j,p j->k<=j:=by
 obtain⟨k,hk⟩:=h
 induction k using Nat.strongRecOn with
 | _ k ih =>
   by_cases hex:∃j,j<k/\p j
   . obtain⟨j,hj,hp⟩:=hex;exact ih j hj hp
   . exact⟨k,hk,fun j hj=>by
      rcases Nat.lt_or_ge j k with h|h
      . exact absurd ⟨j,h,hj⟩ hex
      . exact h⟩
open Classical in
noncomputable def ra (p:Nat->Prop):Nat:=if h:∃k,p k then Classical.choose (tQ h)else 0
theorem ot {p:Nat->Prop}(h:∃k,p k):p (ra p)/\∀j,p j->ra p<=j:=by unfold ra;rw[dif_pos h];exact Classical.choose_spec (tQ h)
theorem rF {c:Code}{Q:Exit->Act->World->Prop}{a:Act}{w:World}(I:Nat->Act->World->Prop){k:Nat}(h:I k a w)
  (round:∀k a w,I k a w->c.wpIn F n P (Exit.then (fun a' w'=>∃j,j<k/\I j a' w') Q) a w):(Code.loop c).wpIn F n P Q a w:=by
 refine wpIn_loop (fun a w=>∃k,I k a w) (fun a w=>ra fun k=>I k a w) ⟨k,h⟩ fun a w hI=> ?_
 obtain⟨h1,_⟩:=ot hI;refine wpIn_mono (round _ a w h1) fun e a' w' hq=> ?_
 cases e with
 | normal =>obtain⟨j,hj,hI'⟩:=hq;exact⟨⟨j,hI'⟩,Nat.lt_of_le_of_lt ((ot ⟨j,hI'⟩).2 j hI') hj⟩
 | _=>exact hq
theorem ec :∀(c:Code) (id:Nat) (mc:MC),comp P an id c=some mc->cE mc=false->∀x∈dv an N id c,gl.ri x.1=some x.2
 | .seq a b,id,mc,hc,h,x,hx=>by
   simp only[comp,wD,wB]at hc;obtain⟨mx,h1,my,h2,rfl⟩:=hc;simp only[cE,wK]at h;rcases wP.1 hx with hx|hx
   . exact ec a id mx h1 h.1 x hx
   . exact ec b id my h2 h.2 x hx
 | .cond _ a b,id,mc,hc,h,x,hx=>by
   simp only[comp,wD,wB]at hc;obtain⟨_,_,mx,h1,my,h2,rfl⟩:=hc;simp only[cE,wK]at h;rcases wP.1 hx with hx|hx
   . exact ec a id mx h1 h.1 x hx
   . exact ec b id my h2 h.2 x hx
 | .block j b,_,mc,hc,h,x,hx=>by simp only[comp,wB]at hc;obtain⟨mb,hb,hc⟩:=hc;refine ec b j mb hb ?_ x hx;split at hc<;>(subst hc;simpa[cE]using h)
 | .loop b,_,mc,hc,h,x,hx=>by simp only[comp,wB]at hc;obtain⟨mb,hb,rfl⟩:=hc;exact ec b 1000000 mb hb (by simpa[cE]using h) x hx
 | .rangeFunc g ps as b,id,mc,hc,h,x,hx=>by
   rw[comp]at hc;rw[dv]at hx;split at hc
   . simp only[wB]at hc;obtain⟨g',_,rfl⟩:=hc;simp[cE]at h
   . rename_i hq;rw[hq]at hx;cases hx
 | .skip,_,_,_,_,x,hx=>by cases hx
 | .region _ _ _,_,_,_,_,x,hx=>by cases hx
 | .exit _,_,_,_,_,x,hx=>by cases hx
 | .ret,_,_,_,_,x,hx=>by cases hx
 | .scope b,id,mc,hc,h,x,hx=>by simp only[comp,wB]at hc;obtain⟨mb,hb,rfl⟩:=hc;exact ec b id mb hb (by simpa[cE]using h) x hx
 | .label _,_,_,_,_,x,hx=>by cases hx
 | .goto _,_,_,_,_,x,hx=>by cases hx
 | .refuse _,_,_,_,_,x,hx=>by cases hx
theorem ff {P:Program}{b:Frame}{a:Act}{k:List Item}{cs:List Frame}{w:World}{c:Code} :
  step P (lone (b.atR a (.code (.scope c)::k)) cs w)= .next (lone (b.atR a (.code c::.inScope c::k)) cs w) :=
 step_lone_go (by simp[stepG,stepG.exec,Frame.atR])
theorem uJ {P:Program}{b:Frame}{a:Act}{k:List Item}{cs:List Frame}{w:World}{c:Code} :
  step P (lone (b.atR a (.inScope c::k)) cs w)= .next (lone (b.atR a k) cs w) :=
 step_lone_go (by simp[stepG,stepG.exec,Frame.atR])
theorem zE {F:Fence}{n:Nat}{P:Program}{Q:Exit->Act->World->Prop}{a:Act}{w:World}{c:Code}(h:c.wpIn F n P (fun e a w=>match e with| .goto _=>False|e=>Q e a w) a w):(Code.scope c).wpIn F n P Q a w:=by
 intro b k cs hro hb hr;have h0:(lone (b.atR a (.code (.scope c)::k)) cs w).fenced P F:=fenced_calm hb hr rfl;obtain⟨e,a₁,w₁,hq,harr⟩:=h b (.inScope c::k) cs hro hb hr
 cases e with
 | normal=>exact⟨.normal,a₁,w₁,hq,.head h0 ff (StepsIn.trans harr (.one (fenced_calm hb hr rfl) uJ))⟩
 | exit id' =>
   have hx:exitTo id' (.inScope c::k)=exitTo id' k:=by simp[exitTo]
   exact⟨.exit id',a₁,w₁,hq,fun k' hk=>.head h0 ff (harr.1 k' (by rw[hx];exact hk)),
    fun hr' hk=>let ⟨k₁,h1,h2⟩:=harr.2 hr' (by rw[hx];exact hk);⟨k₁,h1,.head h0 ff h2⟩⟩
 | goto l=>exact hq.elim
 | ret=>exact⟨_,a₁,w₁,hq,.of_steps (.one h0 ff) harr⟩
 | panic ch=>exact⟨_,a₁,w₁,hq,.of_steps (.one h0 ff) harr⟩
 | outgrown=>exact⟨_,a₁,w₁,hq,.of_steps (.one h0 ff) harr⟩
theorem ug {L:Prop}{M:Nat}(hM:M<=N)(S:Setting P F n gl cl):∀(c:Code) (id:Nat) (mc:MC),comp P an id c=some mc->(L->gR mc=true)->(cE mc=true->G8 F n P gl cl N)->(∀x∈dv an M id c,gl.ri x.1=some x.2)->de N c=true->∀(a:Act) (w:World) (G:Gh) (st st':St) (e:Ex),GlOk w.heap G gl->StOk w.heap G st a.tmps ->
  a.tmps.size=N->evC gl cl mc st=some (e,st')->∀(Q:Exit->Act->World->Prop),(∀ms a' w' G',(cE mc=false->ms=[])->CameM L gl ms a w G st.hp a' w' G' st'->Q (C4 e) a' w')->c.wpIn F n P Q a w:=by
 intro c
 induction c with
 | skip =>intro id mc hc hL hR hri _ a w G st st' e hg hst hN hev Q hQ;simp only[comp,wC]at hc;subst hc;simp only[evC,wC,w7]at hev;obtain⟨rfl,rfl⟩:=hev;exact wpIn_skip (hQ [] a w G (fun _=>rfl) ⟨Kept.refl w,Move.refl hst.inv,hst,rfl,rfl,fun _ _ _ r h=>⟨r,h,Rg.le_refl r⟩,.nil⟩)
 | exit j =>intro id mc hc hL hR hri _ a w G st st' e hg hst hN hev Q hQ;simp only[comp,wC]at hc;subst hc;simp only[evC,wC,w7]at hev;obtain⟨rfl,rfl⟩:=hev;exact wpIn_exit (hQ [] a w G (fun _=>rfl) ⟨Kept.refl w,Move.refl hst.inv,hst,rfl,rfl,fun _ _ _ r h=>⟨r,h,Rg.le_refl r⟩,.nil⟩)
 | ret =>intro id mc hc hL hR hri _ a w G st st' e hg hst hN hev Q hQ;simp only[comp,wC]at hc;subst hc;simp only[evC,wC,w7]at hev;obtain⟨rfl,rfl⟩:=hev;exact wpIn_ret (hQ [] a w G (fun _=>rfl) ⟨Kept.refl w,Move.refl hst.inv,hst,rfl,rfl,fun _ _ _ r h=>⟨r,h,Rg.le_refl r⟩,.nil⟩)
 | region rid ops draw =>
   intro id mc hc hL hR hri hd a w G st st' e hg hst hN hev Q hQ;have hdst:=GJ (N:=N) hd;rw[comp,wC]at hc
   cases hcr:rm P an ops draw with
   | none=>rw[hcr]at hc;subst hc;simp[evC]at hev
   | some mc0 =>
   rw[hcr]at hc;obtain rfl:mc0=mc:=hc;have hc:=hcr
   cases draw with
   | false =>
     simp only[rm]at hc
     cases hci:cG P an.imf ops (2*ops.size+2) none 0 0 with
     | none =>
       rw[hci]at hc;simp only[wB]at hc;obtain⟨fos,hfos,rfl⟩:=hc;simp only[evC,wD]at hev;obtain⟨⟨st1,ks⟩,hev,h⟩:=hev;rw[wE]at h;obtain⟨_,h⟩:=h;cases h;obtain⟨hl,hget⟩:=eR hfos;refine wpIn_region ?_;have hr:w6 ops.size=ix ops 0:=by unfold ix;rw[w0,wd]
       rw[hr];refine Ey (im:=an.imf) S.op S.fn fos 0 a w G st st1 ks (fun j hj=> ?_) (by rw[wa];simpa using hl) (fun i o ho d hd=>by rw[hN];exact hdst i o ho d hd) hg hst hev ?_
       . have hj':j<ops.size:=by rw[hl]at hj;simpa using hj
         exact⟨ops[j],by simp[hj'],by have:=hget j (by simpa using hj') hj;rwa [Array.getElem_toList]at this⟩
       . intro a' w' G' h1 h2 h3 h4 h5;exact hQ [] a' w' G' (fun _=>rfl) ⟨h1,h2.move,h3,h4,h5,fun l q hq r hr=>fW hst.inv h2 (tM (z:=(st1,ks)) (by simpa[gR]using hL l) hev) hq hr,.nil⟩
     | some itq =>
     obtain⟨its,q⟩:=itq;rw[hci]at hc;simp only at hc;have h:=hc;clear hc;rw[wE]at h;obtain⟨hq,h⟩:=h;subst hq;cases h;have hc:=hci;simp only[evC,wB,w7]at hev;obtain⟨st1,hev,rfl,rfl⟩:=hev;refine wpIn_region ?_;have hr:w6 ops.size=ix ops 0:=by unfold ix;rw[w0,wd]
     rw[hr];refine Se S.op S.fn _ none 0 0 its _ hc a w G st st1 (fun i o ho d hd=>by rw[hN];exact hdst i o ho d hd) trivial hg hst hev ?_;intro a' w' G' h1 h2 h3 h4 h5 _;rw[AW (wf _)];exact hQ [] a' w' G' (fun _=>rfl) ⟨h1,h2.move,h3,h4,h5,fun l q hq r hr=>fW hst.inv h2 (yu (by simpa[gR]using hL l) hev) hq hr,.nil⟩
   | true =>simp only[rm,wD]at hc;obtain⟨fos,hfos,h⟩:=hc;rw[wE]at h;obtain⟨hok,h⟩:=h;cases h;simp only[evC,wD]at hev;obtain⟨⟨st1,ks⟩,hev,h⟩:=hev;rw[wE]at h;obtain⟨hprs,h⟩:=h;cases h;refine Om S.mix S.op S.ex S.fn hfos hok (fun i o ho d hd=>by rw[hN];exact hdst i o ho d hd) hg hst hev hprs ?_;intro a' w' G' h1 h2 h3 h4 h5;exact hQ [] a' w' G' (fun _=>rfl) ⟨h1,h2.move,h3,h4,h5,fun l q hq r hr=>fW hst.inv h2 (tM (z:=(st1,ks)) (by simpa[gR]using hL l) hev) hq hr,.nil⟩
 | seq x y ihx ihy =>
   intro id mc hc hL hR hri hd a w G st st' e hg hst hN hev Q hQ;simp only[comp,wD,wB]at hc;obtain⟨mx,hx,my,hy,rfl⟩:=hc;simp only[de,wH]at hd;simp only[evC,wD]at hev;obtain⟨⟨e1,st1⟩,h1,hev⟩:=hev;simp only[cE,wM,wK]at hR hQ;simp only[dv,wP]at hri;refine wpIn_seq (ihx id mx hx (fun l=>(wJ.1 (hL l)).1) (fun h=>hR (.inl h)) (fun x hx=>hri x (.inl hx)) hd.1 a w G st st1 e1 hg hst hN h1 _ fun ms1 a1 w1 G1 hm1 hc1=> ?_)
   cases e1 with
   | norm =>
     exact ihy id my hy (fun l=>(wJ.1 (hL l)).2) (fun h=>hR (.inr h)) (fun x hx=>hri x (.inr hx)) hd.2 a1 w1 G1 st1 st' e (hg.moved hc1.move) hc1.ok (hc1.size.trans hN) hev Q fun ms2 a' w' G' hm2 hc' =>
      hQ (ms2++ms1) a' w' G' (fun h=>by rw[hm1 h.1,hm2 h.2];rfl) (hc1.trans hc')
   | exit j =>simp only[wC,w7]at hev;obtain⟨rfl,rfl⟩:=hev;exact hQ ms1 a1 w1 G1 (fun h=>hm1 h.1) hc1
   | ret =>simp only[wC,w7]at hev;obtain⟨rfl,rfl⟩:=hev;exact hQ ms1 a1 w1 G1 (fun h=>hm1 h.1) hc1
 | cond x y z ihy ihz =>
   intro id mc hc hL hR hri hd a w G st st' e hg hst hN hev Q hQ;simp only[comp,wD,wB]at hc;obtain⟨x',hx,my,hy,mz,hz,rfl⟩:=hc;simp only[de,wH]at hd;simp only[evC]at hev;simp only[cE,wM,wK]at hR hQ;simp only[dv,wP]at hri;split at hev
   . rename_i t ht;have hv:=aG hg hst hx;rw[ht]at hv;have hv:=cA hv;refine wpIn_cond hv ?_;cases t
     . exact ihz id mz hz (fun l=>(wJ.1 (hL l)).2) (fun h=>hR (.inr h)) (fun x hx=>hri x (.inr hx)) hd.2 a w G st st' e hg hst hN hev Q fun ms a' w' G' hm hc'=>hQ ms a' w' G' (fun h=>hm h.2) hc'
     . exact ihy id my hy (fun l=>(wJ.1 (hL l)).1) (fun h=>hR (.inl h)) (fun x hx=>hri x (.inl hx)) hd.1 a w G st st' e hg hst hN hev Q fun ms a' w' G' hm hc'=>hQ ms a' w' G' (fun h=>hm h.1) hc'
   . cases hev
 | block j b ih =>
   intro id mc hc hL hR hri hd a w G st st' e hg hst hN hev Q hQ;simp only[comp,wB]at hc;obtain⟨mb,hb,hc⟩:=hc;have blk:(L->gR mb=true)->(cE mb=true->G8 F n P gl cl N)->∀(st1:St) (e1:Ex),evC gl cl (.block j mb) st=some (e1,st1)->∀(Q:Exit->Act->World->Prop),(∀ms a' w' G',(cE mb=false->ms=[])->CameM L gl ms a w G st.hp a' w' G' st1->Q (C4 e1) a' w')->(Code.block j b).wpIn F n P Q a w:=by
    intro hLb hRb st1 e1 h Q hQ;simp only[evC,wB,w7]at h;obtain⟨⟨e2,st2⟩,h,rfl,rfl⟩:=h;refine wpIn_block (ih j mb hb hLb hRb hri hd a w G st st2 e2 hg hst hN h _ fun ms a' w' G' hm hc'=> ?_);have:=hQ ms a' w' G' hm hc'
    cases e2 with
    | norm=>exact this
    | ret=>exact this
    | exit i =>
      by_cases hi:i=j
      . subst hi;simp only[if_true]at this;simp only[C4,Exit.inBlock,if_true];exact this
      . have hne:¬Ex.exit i=Ex.exit j:=by simpa using hi
        simp only[hne,if_false]at this;simp only[C4,Exit.inBlock,hi,if_false];exact this
   split at hc
   . rename_i ks hks;subst hc;rw[evC,wD]at hev;obtain⟨⟨e1,st1⟩,h1,hev⟩:=hev;simp only[cE]at hR hQ;refine blk (fun l=>(wJ.1 (hL l)).2) hR st1 e1 h1 Q fun ms a' w' G' hm hc'=> ?_
     cases e1 with
     | norm =>simp only[wB,w7]at hev;obtain⟨st2,h2,rfl,rfl⟩:=hev;obtain⟨G2,k1,k2,k3⟩:=Bn hc'.ok h2;exact hQ ms a' w' G2 hm (CameM.trans (ms2:=[]) hc' ⟨Kept.refl w',k2,k1,rfl,rfl,fun l q hq r hr=>⟨r,k3 (wJ.1 (hL l)).1 q hq r hr,Rg.le_refl r⟩,.nil⟩)
     | exit i =>simp only[wC,w7]at hev;obtain⟨rfl,rfl⟩:=hev;exact hQ ms a' w' G' hm hc'
     | ret =>simp only[wC,w7]at hev;obtain⟨rfl,rfl⟩:=hev;exact hQ ms a' w' G' hm hc'
   . subst hc;exact blk hL hR st' e hev Q hQ
 | loop b ih =>
   intro id mc hc hL hR hri hd a w G st st' e hg hst hN hev Q hQ;simp only[comp,wB]at hc;obtain⟨mb,hb,rfl⟩:=hc;simp only[evC]at hev;simp only[cE]at hR hQ;generalize (BA an.loops id).getD []=ks at hev hL;refine rF (fun k a1 w1=>∃ms G1 st1,(cE mb=false->ms=[])/\CameM L gl ms a w G st.hp a1 w1 G1 st1/\fG (evC gl cl mb) ks k st1=some (e,st')) (k:=LF) ⟨[],G,st,fun _=>rfl,⟨Kept.refl w,Move.refl hst.inv,hst,rfl,rfl,fun _ _ _ r h=>⟨r,h,Rg.le_refl r⟩,.nil⟩,hev⟩ ?_;rintro k a1 w1 ⟨ms1,G1,st1,hm1,hc1,hit⟩
   cases k with
   | zero=>simp[fG]at hit
   | succ k =>
     rw[fG,wD]at hit;obtain⟨st2,hcl,hit⟩:=hit;rw[wD]at hit;obtain⟨⟨e3,st3⟩,h3,hit⟩:=hit;obtain⟨G2,k1,k2,k3⟩:=Bn hc1.ok hcl;have hc2:CameM L gl ms1 a w G st.hp a1 w1 G2 st2:=CameM.trans (ms2:=[]) hc1 ⟨Kept.refl w1,k2,k1,rfl,rfl,fun l q hq r hr=>⟨r,k3 (wJ.1 (hL l)).1 q hq r hr,Rg.le_refl r⟩,.nil⟩;refine ih 1000000 mb hb (fun l=>(wJ.1 (hL l)).2) hR hri hd a1 w1 _ st2 st3 e3 (hg.moved hc2.move) hc2.ok (hc2.size.trans hN) h3 _ fun ms2 a' w' G' hm2 hc'=> ?_
     have hm3:cE mb=false->ms2++ms1=[]:=fun h=>by rw[hm1 h,hm2 h];rfl
     cases e3 with
     | norm=>exact⟨k,Nat.lt_succ_self k,ms2++ms1,G',st3,hm3,hc2.trans hc',hit⟩
     | exit i =>simp only[wC,w7]at hit;obtain⟨rfl,rfl⟩:=hit;exact hQ (ms2++ms1) a' w' G' hm3 (hc2.trans hc')
     | ret =>simp only[wC,w7]at hit;obtain⟨rfl,rfl⟩:=hit;exact hQ (ms2++ms1) a' w' G' hm3 (hc2.trans hc')
 | rangeFunc f ps as b iha ihb =>
   intro id mc hc hL hR hri _ a w G st st' e hg hst hN hev Q hQ;rw[comp]at hc;split at hc
   . rename_i q hq;simp only[wB]at hc;obtain⟨g',hg',rfl⟩:=hc;have hi:=hri (q.rid,⟨ps,as,b,q.slots,M⟩) (by rw[dv,hq];simp);exact hR rfl L f g' q.rid ⟨ps,as,b,q.slots,M⟩ q.kd q.dc hg' hi hM (fun l=>by simpa[gR]using hL l) a w G st st' e hg hst hN (by simpa[evC]using hev) Q fun ms a' w' G' hc'=>hQ ms a' w' G' (fun h=>by simp[cE]at h) hc'
   . simp only[wC]at hc;subst hc;simp[evC]at hev
 | scope b ih =>intro id mc hc hL hR hri hd a w G st st' e hg hst hN hev Q hQ;simp only[comp,wB]at hc;obtain⟨mb,hb,rfl⟩:=hc;simp only[evC]at hev;simp only[cE]at hR hQ;refine zE (ih id mb hb hL hR hri hd a w G st st' e hg hst hN hev _ fun ms a' w' G' hm hc'=> ?_);have:=hQ ms a' w' G' hm hc';cases e<;>exact this
 | label l =>intro id mc hc hL hR hri _ a w G st st' e hg hst hN hev Q hQ;simp only[comp,wC]at hc;subst hc;simp only[evC,wC,w7]at hev;obtain⟨rfl,rfl⟩:=hev;exact wpIn_label (hQ [] a w G (fun _=>rfl) ⟨Kept.refl w,Move.refl hst.inv,hst,rfl,rfl,fun _ _ _ r h=>⟨r,h,Rg.le_refl r⟩,.nil⟩)
 | goto l=>intro id mc hc _ _ _ _ a w G st st' e _ _ _ hev;simp only[comp,wC]at hc;subst hc;simp[evC]at hev
 | refuse w=>intro id mc hc _ _ _ _ a w G st st' e _ _ _ hev;simp only[comp,wC]at hc;subst hc;simp[evC]at hev
theorem iR {L:Prop}(S:Setting P F n gl cl)(c:Code)(id:Nat)(mc:MC)(hc:comp P an id c=some mc)(hrf:cE mc=false)(hL:L->gR mc=true)(hd:de N c=true)(a:Act)(w:World)(G:Gh)(st st':St)(e:Ex)(hg:GlOk w.heap G gl)(hst:StOk w.heap G st a.tmps)
  (hN:a.tmps.size=N) (hev:evC gl cl mc st=some (e,st')) (Q:Exit->Act->World->Prop) (hQ:∀a' w' G',Came L gl a w G st.hp a' w' G' st'->Q (C4 e) a' w'):c.wpIn F n P Q a w :=
 ug (M:=N) (wf _) S c id mc hc hL (fun h=>by rw[hrf]at h;cases h) (ec c id mc hc hrf) hd a w G st st' e hg hst hN hev Q fun ms a' w' G' hm hc'=>by have:=hm hrf;subst this;exact hQ a' w' G' hc'
end
section
variable {P :Program} {w:World} {H:aT} {G G':Gh} {st:St} {tmps:Array Value}
theorem BY {a:Addr}:(asAddr (.pointer (some a))).run P w= .ok a w:=rfl
def lS (tmps:Array Value):ResultVar->Sem Value
 | .tmp t=>pure (tmps.getD t undef)
 | .cell a t=>do loadVar t (<-asAddr (tmps.getD a undef))
theorem M4 (hst:StOk w.heap G st tmps){rv:ResultVar}{rd:ResD}{x:AV}(hc:fM P rv=some rd)(h:gm st rd=some x) :
  ∃v,(lS tmps rv).run P w= .ok v w/\RepT w.heap G v x:=by
 cases rv with
 | tmp t =>simp only[fM,wC]at hc;subst hc;simp only[gm,wC]at h;subst h;exact⟨_,rfl,hst.fr t⟩
 | cell a t =>simp only[fM,wB]at hc;obtain⟨sh,hsh,rfl⟩:=hc;simp only[gm,wB]at h;obtain⟨⟨v,us⟩,hs,rfl⟩:=h;obtain⟨b,off,c,e,fz,hev,_,hb,hrc,hk,hw,hag,hn⟩:=Ay hst.inv (x':=.t a) (hst.fr a) hs;obtain⟨val,hval,hrv⟩:=ic hrc;refine⟨_,?_,(RepT.of_known hk).2 (po hk hw hrv)⟩;simp only[lS,hev,Sem.run_bind,BY,Result.andThen_ok];exact kK hsh hag hn hb hval hk
theorem rU {α:Type}{f:α->Sem Value}:∀{l:List α} {vs:List Value},vs.length=l.length->(∀i (h:i<l.length) (h':i<vs.length),(f l[i]).run P w= .ok vs[i] w)->(l.mapM f).run P w= .ok vs w
 | [],vs,h,_=>by have:vs=[]:=List.eq_nil_of_length_eq_zero h;subst this;rfl
 | a::l,[],h,_=>by simp at h
 | a::l,v::vs,h,hf=>by
   rw[List.mapM_cons];have h0:=hf 0 (by simp) (by simp);simp only[wO]at h0;simp only[Sem.run_bind,h0,Result.andThen_ok];rw[rU (l:=l) (vs:=vs) (by simpa using h) fun i hi hi'=>by
    have:=hf (i+1) (by simpa using hi) (by simpa using hi');simpa using this]
   rfl
theorem kJ {fn:Func}{vs:List Value}(h:vs.length=fn.results.size)(hf:∀i (h:i<fn.results.size) (h':i<vs.length),(lS tmps fn.results[i]).run P w= .ok vs[i] w) :
  (results fn tmps).run P w= .ok (match vs with|[v]=>v|l=>.tuple l.toArray) w:=by
 have hm:(fn.results.mapM (lS tmps)).run P w= .ok vs.toArray w:=by have:fn.results=fn.results.toList.toArray:=rfl;rw[this,List.mapM_toArray];simp only[map_eq_pure_bind,Sem.run_bind];rw[rU (vs:=vs) (by simpa using h) fun i hi hi'=>by simpa using hf i (by simpa using hi) hi'];rfl
 have e:results fn tmps=(do let vs<-fn.results.mapM (lS tmps);pure (if h:vs.size=1 then vs[0]else .tuple vs)):=by
  unfold results
  congr 1
 rw[e];simp only[Sem.run_bind,hm,Result.andThen_ok]
 match vs with
 | []=>rfl
 | [v]=>rfl
 | a::b::l=>simp
theorem jD (hst:StOk w.heap G st tmps):∀{rvs:List ResultVar} {rds:List ResD} {xs:List AV},bw (fM P) rvs=some rds->bY st rds=some xs ->
  ∃vs:List Value,vs.length=rvs.length/\xs.length=rvs.length/\(∀i (h:i<rvs.length) (h':i<vs.length),(lS tmps rvs[i]).run P w= .ok vs[i] w) /\
   ∀i (h:i<vs.length) (h':i<xs.length),RepT w.heap G vs[i] xs[i]
 | [],rds,xs,h1,h2=>by simp only[bw,wC]at h1;subst h1;simp only[bY,wC]at h2;subst h2;exact⟨[],rfl,rfl,fun i h=>by simp at h,fun i h=>by simp at h⟩
 | rv::rvs,rds,xs,h1,h2=>by
   simp only[bw,wD,wB]at h1;obtain⟨rd,hrd,rds',hrds,rfl⟩:=h1;simp only[bY,wD,wB]at h2;obtain⟨x,hx,xs',hxs,rfl⟩:=h2;obtain⟨v,hv1,hv2⟩:=M4 hst hrd hx;obtain⟨vs,g1,g2,g3,g4⟩:=jD hst hrds hxs;refine⟨v::vs,by simp[g1],by simp[g2],fun i h h'=> ?_,fun i h h'=> ?_⟩
   . cases i with
     | zero=>exact hv1
     | succ i=>exact g3 i (by simpa using h) (by simpa using h')
   . cases i with
     | zero=>exact hv2
     | succ i=>exact g4 i (by simpa using h) (by simpa using h')
def xG (r:AV):Pk->List (Option Nat)
 | .asis=>[]
 | .gen=>[]
 | .own _=>match r with
   | .sl k _ _ _=>[some k]
   | _=>[none]
def cP :List AV->List Pk->List (Option Nat)
 | [],_=>[]
 | r::rs,pks=>xG r (pks.headD .asis)++cP rs pks.tail
theorem mT :∀(rs:List AV) (pks:List Pk),eY rs pks=(cP rs pks).filterMap id
 | [],pks=>rfl
 | r::rs,pks=>by
   have e:eY (r::rs) pks=(match pks.headD .asis,r with| .own _,.sl k _ _ _=>[k]|_,_=>[])++eY rs pks.tail:=rfl;rw[cP,List.filterMap_append,<-mT rs,e]
   congr 1
   cases pks.headD .asis with
   | asis=>rfl
   | gen=>rfl
   | own sh=>cases r<;>rfl
def rL (G:Gh):Option Nat->Option Rg
 | some k=>G.reg k
 | none=>some .nil
theorem qm {hp hp':Hp}:∀{rs:List AV} {pks:List Pk} {j:Nat} {l:List AV} {es:List OB},eL hp hp' j rs pks=some (l,es) ->
  es.length=(cP rs pks).length/\∀i (h:i<es.length) (h':i<(cP rs pks).length),(∃k sh els,(cP rs pks)[i]=some k/\hp.get k=some (.grow sh els)/\es[i]= .grow sh els) \/
   (∃sh,(cP rs pks)[i]=none/\es[i]= .grow sh [])
 | [],pks,j,l,es,h=>by simp only[eL,wC,w7]at h;obtain⟨rfl,rfl⟩:=h;exact⟨rfl,fun i h=>by simp at h⟩
 | r::rs,pks,j,l,es,h=>by
   simp only[eL,wD,wB]at h;obtain⟨⟨a,e1⟩,h1,⟨l2,e2⟩,h2,h⟩:=h;cases h;obtain⟨g1,g2⟩:=qm h2;have key:(e1=[]/\xG r (pks.headD .asis)=[]) \/
     (∃k sh els,xG r (pks.headD .asis)=[some k]/\hp.get k=some (.grow sh els)/\e1=[.grow sh els]) \/
     (∃sh,xG r (pks.headD .asis)=[none]/\e1=[.grow sh []]):=by
    cases hp1:pks.headD .asis with
    | gen=>rw[hp1]at h1;simp[jh]at h1
    | asis =>rw[hp1]at h1;simp only[jh,wD]at h1;obtain⟨x,_,h1⟩:=h1;rw[wE]at h1;cases h1.2;exact .inl ⟨rfl,rfl⟩
    | own sh =>
      rw[hp1]at h1;simp only[jh]at h1;split at h1
      . rename_i k n;split at h1
        . rename_i sh' els hk;rw[wE,wH]at h1;obtain⟨⟨hb,_⟩,h1⟩:=h1;have:=Sh.beq_eq hb;subst this;cases h1;exact .inr (.inl ⟨k,sh,els,rfl,hk,rfl⟩)
        . cases h1
      . cases h1;exact .inr (.inr ⟨sh,rfl,rfl⟩)
      . cases h1
   rw[cP];rcases key with ⟨k1,k2⟩|⟨k,sh,els,k2,hk,k1⟩|⟨sh,k2,k1⟩
   . rw[k2,k1];simp only[List.nil_append];exact⟨g1,g2⟩
   . rw[k2,k1];simp only[wT,w5];refine⟨by omega,fun i h h'=> ?_⟩
     cases i with
     | zero=>exact .inl ⟨k,sh,els,rfl,hk,rfl⟩
     | succ i=>exact g2 i (by omega) (by omega)
   . rw[k2,k1];simp only[wT,w5];refine⟨by omega,fun i h h'=> ?_⟩
     cases i with
     | zero=>exact .inr ⟨sh,rfl,rfl⟩
     | succ i=>exact g2 i (by omega) (by omega)
theorem ql {hp hp':Hp}(inv0:Inv H G hp)(inv:Inv H G hp')(himm:∀b,G.imm b->G'.imm b)(hlive:∀b,bG G hp' b->G'.imm b)(hyl:∀i l,G.yl i=some l->G'.yl i=some l) :
  ∀{rs:List AV} {pks:List Pk} {j:Nat} {l:List AV} {es:List OB},eL hp hp' j rs pks=some (l,es) ->
  (∀i (h:i<(cP rs pks).length),G'.reg (20000+(j+i))=rL G (cP rs pks)[i])->∀vs:List Value,vs.length=rs.length->(∀i (h:i<vs.length) (h':i<rs.length),RepT H G vs[i] rs[i]) ->
  l.length=rs.length/\∀i (h:i<vs.length) (h':i<l.length),RepV H G' vs[i] l[i]
 | [],pks,j,l,es,h,_,vs,hvs,_=>by simp only[eL,wC,w7]at h;obtain⟨rfl,rfl⟩:=h;exact⟨rfl,fun i h h'=>by simp at h'⟩
 | r::rs,pks,j,l,es,h,hreg,[],hvs,_=>by simp at hvs
 | r::rs,pks,j,l,es,h,hreg,v::vs,hvs,hr=>by
   simp only[eL,wD,wB]at h;obtain⟨⟨a,e1⟩,h1,⟨l2,e2⟩,h2,h⟩:=h;cases h;have hr0:RepT H G v r:=hr 0 (by simp) (by simp);have key:RepV H G' v a/\(xG r (pks.headD .asis)).length=e1.length:=by
    rw[cP]at hreg
    cases hp1:pks.headD .asis with
    | gen=>rw[hp1]at h1;simp[jh]at h1
    | asis =>rw[hp1]at h1;simp only[jh,wD]at h1;obtain⟨x,hx,h1⟩:=h1;rw[wE]at h1;cases h1.2;exact⟨AC inv himm hlive hyl hx ((RepT.of_known (s9 hx)).1 hr0),rfl⟩
    | own sh =>
      rw[hp1]at h1 hreg;simp only[jh]at h1;split at h1
      . rename_i k n;split at h1
        . rename_i sh' els hk;rw[wE]at h1;obtain⟨_,h1⟩:=h1;cases h1;have hg:=hreg 0 (by simp[xG]);simp only[xG,wT,wO,rL,we]at hg;refine⟨?_,rfl⟩;rw[aq rfl]at hr0;refine(RepV.scalar rfl).2 ?_
          cases hr0 with
          | sl _ _ _ _ b root m e o hrg hs ho hle=>exact .sl _ [] 0 n b root m e o (hg.trans hrg) hs ho hle
          | slZ _ _ _ b x root m e hrg hs ho=>exact .slZ _ [] 0 b x root m e (hg.trans hrg) hs ho
          | slNil _ a hrg=>exact .slNil _ a (hg.trans hrg)
          | slN _ _ b cap X hrg hle hn=>exact absurd hrg (inv0.noN hk trivial _ _ _)
        . cases h1
      . cases h1;have hg:=hreg 0 (by simp[xG]);simp only[xG,wT,wO,rL,we]at hg;refine⟨?_,rfl⟩;rw[aq rfl]at hr0;refine(RepV.scalar rfl).2 ?_;obtain⟨b,cap,he,_,hc,_,_⟩:=eh hr0;have:=hc rfl;simp only[List.length_nil]at this he;subst this he;exact .slNil _ b hg
      . cases h1
   obtain⟨g1,g2⟩:=ql inv0 inv himm hlive hyl h2 (fun i hi=>by
    have:=hreg (e1.length+i) (by rw[cP,List.length_append,key.2];simp;omega);rw[show j+(e1.length+i)=j+e1.length+i by omega]at this;rw[this]
    congr 1
    simp only[cP];rw[List.getElem_append_right (by omega)]
    congr 1
    omega) vs (by simpa using hvs) fun i hi hi'=>by have:=hr (i+1) (by simpa using hi) (by simpa using hi');simpa using this
   refine⟨by simp[g1],fun i hi hi'=> ?_⟩
   cases i with
   | zero=>exact key.1
   | succ i=>exact g2 i (by simpa using hi) (by simpa using hi')
def cm :Nat->List OB->Hp
 | _,[]=>[]
 | j,o::l=>(20000+j,o)::cm (j+1) l
theorem dK :∀{es:List OB} {j k:Nat} {o:OB},(cm j es).get k=some o↔∃i,∃h:i<es.length,k=20000+(j+i)/\es[i]=o
 | [],j,k,o=>by simp[cm,Hp.get]
 | e::es,j,k,o=>by
   rw[cm,Hp.get_cons];by_cases h:20000+j=k
   . simp only[h,if_true,wC];constructor
     . intro he;exact⟨0,by simp,by omega,he⟩
     . rintro ⟨i,hi,hk,he⟩;have:i=0:=by omega
       subst this;exact he
   . simp only[h,if_false];rw[dK (es:=es)];constructor
     . rintro ⟨i,hi,hk,he⟩;exact⟨i+1,by simpa using hi,by omega,by simpa using he⟩
     . rintro ⟨i,hi,hk,he⟩
       cases i with
       | zero=>exact absurd (by omega) h
       | succ i=>exact⟨i,by simpa using hi,by omega,by simpa using he⟩
theorem hU :∀{ks:List Nat} {hp:Hp} {k:Nat},(ki ks++hp).get k=if k∈ks then some .dead else hp.get k
 | [],hp,k=>by simp[ki]
 | x::ks,hp,k=>by
   simp only[ki,List.cons_append,Hp.get_cons,hU (ks:=ks),wN];by_cases h:x=k
   . simp[h]
   . have:¬k=x:=fun e=>h e.symm
     simp[h,this]
theorem vS :∀{ks:List Nat} {hp:Hp},Inv H G hp->(∀k∈ks,∃o,hp.get k=some o)->Inv H G (ki ks++hp)
 | [],hp,inv,_=>inv
 | x::ks,hp,inv,h=>by
   have ih:=vS (ks:=ks) inv fun k hk=>h k (by simp[hk])
   obtain⟨o,ho⟩:=h x (by simp);by_cases hx:x∈ks
   . exact(jb ih (k:=x) (o:=.dead) (by rw[hU,if_pos hx])).inv
   . exact(jb ih (k:=x) (o:=o) (by rw[hU,if_neg hx];exact ho)).inv
theorem uT {l:List (Option Nat)}(h:(l.filterMap id).Nodup){i j k:Nat}(hi:i<l.length)(hj:j<l.length)(h1:l[i]=some k)(h2:l[j]=some k):i=j:=by
 induction l generalizing i j with
 | nil=>simp at hi
 | cons a l ih =>
   have hl:(l.filterMap id).Nodup:=by
    rw[List.filterMap_cons]at h;split at h
    . exact h
    . exact(wU.1 h).2
   have hmem:∀{i:Nat} (hi:i<l.length),l[i]=some k->k∈l.filterMap id:=fun hi h=>wX.2 ⟨some k,h▸wR hi,rfl⟩
   cases i with
   | zero =>
     cases j with
     | zero=>rfl
     | succ j =>simp only[wO]at h1;simp only[wZ]at h2;subst h1;have hc:wW id (some k::l)=k::wW id l:=rfl;rw[hc]at h;exact absurd (hmem (by simpa using hj) h2) (wU.1 h).1
   | succ i =>
     cases j with
     | zero =>simp only[wO]at h2;simp only[wZ]at h1;subst h2;have hc:wW id (some k::l)=k::wW id l:=rfl;rw[hc]at h;exact absurd (hmem (by simpa using hi) h1) (wU.1 h).1
     | succ j=>rw[ih hl (i:=i) (j:=j) (by simpa using hi) (by simpa using hj) (by simpa using h1) (by simpa using h2)]
open Classical in
noncomputable def jH (G:Gh)(hp:Hp)(src:List (Option Nat)):Gh :=
 {imm:=fun b=>G.imm b\/bG G (ki (src.filterMap id)++hp) b
  yl:=G.yl
  reg:=fun k=>if 20000<=k then(match src[k-20000]? with|some s=>rL G s|none=>none)else none}
theorem IK (hst:StOk H G st tmps){res:List ResD}{pks:List Pk}{l:List AV}{es:List OB}(h:gC st res pks=some (l,es)){rs:List AV}(hrs:bY st res=some rs){vs:List Value}(hlen:vs.length=rs.length)
  (hv:∀i (h:i<vs.length) (h':i<rs.length),RepT H G vs[i] rs[i]) :
  Inv H (jH G st.hp (cP rs pks)) (cm 0 es)/\(∀b,bG (jH G st.hp (cP rs pks)) (cm 0 es) b->bG G st.hp b) /\
  l.length=rs.length/\∀i (h:i<vs.length) (h':i<l.length),RepV H (jH G st.hp (cP rs pks)) vs[i] l[i]:=by
 simp only[gC,hrs,wF]at h;rw[wE,dJ,mT]at h;obtain⟨hn,h⟩:=h;generalize hsrc:cP rs pks=src at h hn ⊢;obtain⟨o1,o2⟩:=qm h;rw[hsrc]at o1;have o2':∀i (h:i<es.length) (h':i<src.length),(∃k sh els,src[i]=some k/\st.hp.get k=some (.grow sh els)/\es[i]= .grow sh els)\/(∃sh,src[i]=none/\es[i]= .grow sh []):=by subst hsrc;exact o2
 have hks:∀k∈src.filterMap id,∃o,st.hp.get k=some o:=fun k hk=>by
  obtain⟨s,hs,he⟩:=wX.1 hk;simp only[id]at he;subst he;obtain⟨i,hi,he⟩:=List.getElem_of_mem hs;rcases o2' i (by omega) hi with ⟨k',sh,els,h1,h2,_⟩|⟨sh,h1,_⟩
  . rw[he]at h1;cases h1;exact⟨_,h2⟩
  . rw[he]at h1;cases h1
 have invd:=vS hst.inv hks;have hreg:∀i (hi:i<src.length),(jH G st.hp src).reg (20000+i)=rL G src[i]:=fun i hi=>by simp[jH,hi]
 have hlived:∀b,bG G (ki (src.filterMap id)++st.hp) b->bG G st.hp b:=by
  rintro b ⟨k,r,⟨o,ho,hd⟩,hr⟩;rw[hU]at ho;split at ho
  . cases ho;exact absurd rfl hd
  . exact⟨k,r,⟨o,ho,hd⟩,hr⟩
 obtain⟨hinv,hlive⟩:=AJ (G':=jH G st.hp src) (hp':=cm 0 es) hst.inv (fun k=>((src[k-20000]?).bind id).getD 0) (fun b h=>.inl h) (fun i l h=>h)
  (fun k o hk=>by
    obtain⟨i,hi,rfl,rfl⟩:=dK.1 hk;have hz:=hreg i (by omega);rw[show 20000+i=20000+(0+i) by omega]at hz;rw[hz];have e:(src[20000+(0+i)-20000]?)=some src[i]:=by rw[show 20000+(0+i)-20000=i by omega];simp[show i<src.length by omega]
    rcases o2' i hi (by omega)with ⟨k',sh,els,h1,h2,h3⟩|⟨sh,h1,h3⟩
    . left;rw[e,h1,h3];exact⟨h2,rfl,fun j hj=>by cases hj⟩
    . right;rw[h1,h3];exact⟨sh,rfl,rfl⟩)
  (fun k hk=>by
    simp only[jH];split
    . rename_i h20;split
      . rename_i s hs;exfalso;obtain⟨hi,rfl⟩:=List.getElem?_eq_some_iff.1 hs;have hk20:k=20000+(0+(k-20000)):=by omega
        generalize k-20000=i at hk20 hi;have hie:i<es.length:=by omega
        have:(cm 0 es).get k=some es[i]:=dK.2 ⟨i,hie,hk20,rfl⟩;rw[hk]at this;cases this
      . rfl
    . rfl)
  (fun k k' b r r' ⟨o,ho,_⟩ ⟨o',ho',_⟩ hr hr' he=>by
    obtain⟨i,hi,rfl,rfl⟩:=dK.1 ho;obtain⟨i',hi',rfl,rfl⟩:=dK.1 ho';rw[show 20000+(0+i)=20000+i by omega]at hr;rw[show 20000+(0+i')=20000+i' by omega]at hr';have e:(src[20000+(0+i)-20000]?)=some src[i]:=by rw[show 20000+(0+i)-20000=i by omega];simp[show i<src.length by omega]
    have e':(src[20000+(0+i')-20000]?)=some src[i']:=by rw[show 20000+(0+i')-20000=i' by omega];simp[show i'<src.length by omega]
    simp only[e,e',wF,id]at he;rcases o2' i hi (by omega)with ⟨k1,sh,els,h1,h2,h3⟩|⟨sh,h1,h3⟩
    . rcases o2' i' hi' (by omega)with ⟨k1',sh',els',h1',h2',h3'⟩|⟨sh',h1',h3'⟩
      . rw[h1,h1']at he;simp only[wG]at he;subst he;rw[uT hn (by omega) (by omega) h1 h1']
      . exact(hr'.nil (by rw[hreg i' (by omega),h1'];rfl)).elim
    . exact(hr.nil (by rw[hreg i (by omega),h1];rfl)).elim)
  (fun b hb=>by
    rcases hb with hb|hb
    . exact(hst.inv.imm b hb).1
    . exact hst.inv.lt b (hlived b hb))
  (fun b hb k r hl hr hr' ⟨o,ho,_⟩=>by
    obtain⟨i,hi,rfl,rfl⟩:=dK.1 ho;have e:(src[20000+(0+i)-20000]?)=some src[i]:=by rw[show 20000+(0+i)-20000=i by omega];simp[show i<src.length by omega]
    rw[show 20000+(0+i)=20000+i by omega]at hr';simp only[e,wF,id]at hl hr;rcases o2' i hi (by omega)with ⟨k1,sh,els,h1,h2,h3⟩|⟨sh,h1,h3⟩
    . rw[h1]at hl hr;simp only[wG]at hl hr;rcases hb with hb|⟨k2,r2,⟨o2,ho2,hd2⟩,hr2⟩
      . exact(hst.inv.imm b hb).2 ⟨k1,r,hl,hr⟩
      . rw[hU]at ho2;split at ho2
        . cases ho2;exact hd2 rfl
        . rename_i hnm;have:=hst.inv.dist k1 k2 b r r2 hr hr2 hl ⟨o2,ho2,hd2⟩;subst this;exact hnm (wX.2 ⟨some k1,h1▸wR _,rfl⟩)
    . exact(hr'.nil (by rw[hreg i (by omega),h1];rfl)).elim)
 refine⟨hinv,hlive,?_⟩;have hov:eY rs pks=src.filterMap id:=by rw[mT,hsrc]
 refine ql (G':=jH G st.hp src) hst.inv invd (fun b h=>.inl h) (fun b h=>.inr h) (fun i l h=>h) h (fun i hi=> ?_) vs hlen hv;subst hsrc;rw[wa];exact hreg i hi
end
section
variable {H H':aT} {G G':Gh} {hp:Hp}
theorem dI {ks:List Nat}(h:dT hp ks=true):∀k∈ks,hp.get k=some (jT hp k)/\∀j∈bO (jT hp k),j∈ks:=by
 intro k hk;unfold dT at h;rw[wY]at h;have:=h k hk;rw[wH]at this
 cases ho:hp.get k with
 | none=>rw[ho]at this;cases this.1
 | some o =>rw[ho]at this;refine⟨by unfold jT;rw[ho];rfl,fun j hj=> ?_⟩;unfold jT at hj;rw[ho]at hj;have h2:=this.2;simp only[er,wY,List.contains_iff_mem]at h2;exact h2 j hj
theorem gV :∀{ks:List Nat} {k:Nat},k∈ks->idx ks k<ks.length/\ks.getD (idx ks k) 0=k
 | a::l,k,h=>by
   rw[idx];split
   . rename_i e;exact⟨by simp,by simp[e]⟩
   . rename_i e;rcases wN.1 h with rfl|h
     . exact absurd rfl e
     . obtain⟨h1,h2⟩:=gV h;exact⟨by simpa using h1,by simpa using h2⟩
theorem jm :∀{ks:List Nat},ks.Nodup->∀{i:Nat},i<ks.length->idx ks (ks.getD i 0)=i
 | a::l,hn,0,_=>by simp[idx]
 | a::l,hn,i+1,hi=>by
   rw[wU]at hn;have hi':i<l.length:=by simpa using hi
   have e:(a::l).getD (i+1) 0=l.getD i 0:=rfl;have hm:l.getD i 0∈l:=by rw[wQ,wS hi'];exact wR hi'
   have hne:¬a=l.getD i 0:=fun h=>hn.1 (by rw[h];exact hm)
   rw[e,idx,if_neg hne,jm hn.2 hi']
variable {ks :List Nat}
theorem Qn {a b:Nat}(ha:a∈ks)(hb:b∈ks)(h:up ks a=up ks b):a=b:=by have e:idx ks a=idx ks b:=wb h;rw[<-(gV ha).2,e,(gV hb).2]
theorem Hu (k:Nat):SHK<=up ks k:=Nat.le_add_right _ _
theorem BL (k:Nat):up ks k-SHK=idx ks k:=w9 _ _
theorem zG {all:List Nat}:∀{ks:List Nat} {q:Nat} {o:OB},(iU hp all ks).get q=some o->∃k∈ks,q=up all k/\o=rOB (up all) (jT hp k):=by
 intro ks
 induction ks with
 | nil=>intro q o h;cases h
 | cons k ks ih =>
   intro q o h;rw[iU,Hp.get_cons]at h;by_cases hk:up all k=q
   . simp only[hk,if_true,wC]at h;exact⟨k,by simp,hk.symm,h.symm⟩
   . simp only[hk,if_false]at h;obtain⟨j,hj,e⟩:=ih h;exact⟨j,by simp[hj],e⟩
theorem rG {all:List Nat}{k:Nat}(hk:k∈all):∀{ks:List Nat},(∀j∈ks,j∈all)->k∈ks->(iU hp all ks).get (up all k)=some (rOB (up all) (jT hp k)):=by
 intro ks
 induction ks with
 | nil=>intro _ h;cases h
 | cons j ks ih =>
   intro ha h;rw[iU,Hp.get_cons];by_cases hj:up all j=up all k
   . rw[if_pos hj,Qn (ha j (by simp)) hk hj]
   . rw[if_neg hj];rcases wN.1 h with rfl|h
     . exact absurd rfl hj
     . exact ih (fun i hi=>ha i (by simp[hi])) h
open Classical in
noncomputable def kD (G:Gh)(ks:List Nat):Gh:={imm:=G.imm,yl:=G.yl,reg:=fun q=>if ∃k∈ks,q=up ks k then G.reg (ks.getD (q-SHK) 0)else none}
theorem ja {k:Nat}(h:k∈ks):(kD G ks).reg (up ks k)=G.reg k:=by simp only[kD];rw[if_pos ⟨k,h,rfl⟩,BL,(gV h).2]
theorem vm {q:Nat}{r:Rg}(h:(kD G ks).reg q=some r):∃k∈ks,q=up ks k/\G.reg k=some r:=by
 simp only[kD]at h;split at h
 . rename_i hk;obtain⟨k,hk,e⟩:=hk;refine⟨k,hk,e,?_⟩;rw[e,BL,(gV hk).2]at h;exact h
 . cases h
theorem DM {q b:Nat}{r:Sh}(h:(kD G ks).At q b r):∃k∈ks,q=up ks k/\G.At k b r:=by obtain⟨x,hx,hat⟩:=h;obtain⟨k,hk,e,h⟩:=vm hx;exact⟨k,hk,e,x,h,hat⟩
theorem qQ (hc:dT hp ks=true){b:Nat}(h:bG (kD G ks) (iU hp ks ks) b):∃k∈ks,aN hp k/\∃r,G.At k b r:=by obtain⟨q,r,⟨o,ho,hd⟩,hr⟩:=h;obtain⟨k,hk,rfl,rfl⟩:=zG ho;rw[Gh.at_congr (ja hk)]at hr;exact⟨k,hk,⟨_,(dI hc k hk).1,jf hd⟩,r,hr⟩
theorem BN (inv:Inv H G hp)(hc:dT hp ks=true):Inv H (kD G ks) (iU hp ks ks) where
 obs q o h:=by obtain⟨k,hk,rfl,rfl⟩:=zG h;have ⟨h1,h2⟩:=dI hc k hk;exact kV (inv.obs k _ h1) (ja hk) (fun _ h=>h) (fun _ _ h=>h) fun j hj=>ja (h2 j hj)
 out q h:=by
  cases hr:(kD G ks).reg q with
  | none=>rfl
  | some r =>obtain⟨k,hk,rfl,_⟩:=vm hr;rw[rG hk (fun _ h=>h) hk]at h;cases h
 dist q q' b r r' h h' hl hl':=by
  obtain⟨k,hk,rfl,h1⟩:=DM h;obtain⟨k',hk',rfl,h1'⟩:=DM h';have live:∀k∈ks,aN (iU hp ks ks) (up ks k)->aN hp k:=by rintro k hk ⟨o,ho,hd⟩;rw[rG hk (fun _ h=>h) hk]at ho;cases ho;exact⟨_,(dI hc k hk).1,jf hd⟩
  rw[inv.dist k k' b r r' h1 h1' (live k hk hl) (live k' hk' hl')]
 imm b hb:=⟨(inv.imm b hb).1,fun hl=>by
  obtain⟨k,_,h1,r,h2⟩:=qQ hc hl;exact(inv.imm b hb).2 ⟨k,r,h1,h2⟩⟩
 lt b hb:=by obtain⟨k,_,h1,r,h2⟩:=qQ hc hb;exact inv.lt b ⟨k,r,h1,h2⟩
theorem BM {v:Value}{x:AV}(h:RepV H G v x)(hk:∀k∈x.refs,k∈ks):RepV H (kD G ks) v (rA (up ks) x) :=
 h.renA (.inr fun _ h=>h) (fun _ _ h=>h) fun k hk'=>ja (hk k hk')
noncomputable def lK (ks:List Nat)(G G':Gh)(d m:Nat):Gh :=
 {imm:=G'.imm
  yl:=G'.yl
  reg:=fun k=>if k∈ks then G'.reg (up ks k)else match G.reg k with
   | some r=>some r
   | none=>if d<=k/\(k-d)%1000=0/\(k-d)/1000<m then G'.reg (20000+(k-d)/1000)else none}
theorem Dp {d m i:Nat}(hk:d+1000*i∉ks)(h:G.reg (d+1000*i)=none)(hi:i<m):(lK ks G G' d m).reg (d+1000*i)=G'.reg (20000+i):=by
 simp only[lK,h,hk,if_false];have e:d+1000*i-d=1000*i:=by omega
 rw[e,if_pos ⟨by omega,by omega,by omega⟩]
 congr 1
 omega
theorem ny {d m k:Nat}{r:Rg}(hk:k∉ks)(h:G.reg k=some r):(lK ks G G' d m).reg k=some r:=by simp[lK,h,hk]
theorem xr {d m k:Nat}(hk:k∈ks):(lK ks G G' d m).reg k=G'.reg (up ks k):=by simp[lK,hk]
theorem AE {d:Nat}:∀{es:List OB} {j:Nat} {us:Hp},mu hp ks d j es=some us->(∀k o,us.get k=some o↔∃i,∃h:i<es.length,k=d+1000*(j+i)/\rOB (dn ks d) es[i]=o) /\
  ∀i,i<es.length->d+1000*(j+i)<SHK
 | [],j,us,h=>by simp only[mu,wC]at h;subst h;exact⟨fun k o=>by simp[Hp.get],fun i hi=>by simp at hi⟩
 | e::es,j,us,h=>by
   simp only[mu]at h;rw[wE,wH,decide_eq_true_eq]at h;obtain⟨⟨_,hlt⟩,h⟩:=h;simp only[wB]at h;obtain⟨r,hr,rfl⟩:=h;obtain⟨g1,g2⟩:=AE hr;refine⟨fun k o=> ?_,fun i hi=> ?_⟩
   . rw[Hp.get_cons];by_cases hk:d+1000*j=k
     . simp only[hk,if_true,wC];constructor
       . intro he;exact⟨0,by simp,by omega,he⟩
       . rintro ⟨i,hi,hk',he⟩;have:i=0:=by omega
         subst this;exact he
     . simp only[hk,if_false];rw[g1];constructor
       . rintro ⟨i,hi,hk',he⟩;exact⟨i+1,by simpa using hi,by omega,by simpa using he⟩
       . rintro ⟨i,hi,hk',he⟩
         cases i with
         | zero=>exact absurd (by omega) hk
         | succ i=>exact⟨i,by simpa using hi,by omega,by simpa using he⟩
   . cases i with
     | zero=>simpa using hlt
     | succ i=>have:=g2 i (by simpa using hi);omega
theorem nR :∀{hp':Hp} {i n:Nat},bN hp' i n=true->∀q,(∃o,hp'.get q=some o)↔∃j,j<n/\q=SHK+(i+j)
 | [],i,0,_,q=>by simp[Hp.get]
 | (p,o)::r,i,n+1,h,q=>by
   simp only[bN,wH,decide_eq_true_eq]at h;obtain⟨e,h⟩:=h;rw[Hp.get_cons];by_cases hk:p=q
   . rw[if_pos hk];exact⟨fun _=>⟨0,by omega,by rw[<-hk,e];rfl⟩,fun _=>⟨o,rfl⟩⟩
   . rw[if_neg hk,nR h q];constructor
     . rintro ⟨j,hj,e'⟩;exact⟨j+1,by omega,by rw[e'];omega⟩
     . rintro ⟨j,hj,e'⟩
       cases j with
       | zero=>exact absurd (e.trans e'.symm) hk
       | succ j=>exact⟨j,by omega,by rw[e'];omega⟩
 | [],_,_+1,h,_=>by simp[bN]at h
 | _::_,_,0,h,_=>by simp[bN]at h
theorem iI {hp':Hp}(h:bN hp' 0 ks.length=true)(hn:ks.Nodup)(q:Nat):(∃o,hp'.get q=some o)↔∃k∈ks,q=up ks k:=by
 rw[nR h];constructor
 . rintro ⟨j,hj,e⟩;refine⟨ks.getD j 0,?_,?_⟩
   . rw[wQ,wS hj];exact wR hj
   . unfold up;rw[jm hn hj,e,wa]
 . rintro ⟨k,hk,e⟩;exact⟨idx ks k,(gV hk).1,by rw[e,wa];rfl⟩
theorem xq {d:Nat}(hn:ks.Nodup):∀{hp':Hp} {i n:Nat},bN hp' i n=true->i+n=ks.length->∀k,k∈ks->i<=idx ks k->(dP ks d hp').get k=(hp'.get (up ks k)).map (rOB (dn ks d))
 | [],i,0,_,hl,k,hk,hi=>rfl
 | (q,o)::r,i,n+1,h,hl,k,hk,hi=>by
   simp only[bN,wH,decide_eq_true_eq]at h;obtain⟨e,h⟩:=h;have eq:q-SHK=i:=by rw[e];exact w9 _ _
   rw[dP,Hp.get_cons,Hp.get_cons,eq];by_cases hki:idx ks k=i
   . rw[if_pos (by rw[<-hki];exact(gV hk).2),if_pos (by rw[e,<-hki];rfl)];rfl
   . rw[if_neg fun e'=>hki (by rw[<-e'];exact jm hn (by omega)),if_neg fun e'=>hki (by have:=e.symm.trans e';exact(wb this).symm)];exact xq hn h (by omega) k hk (by omega)
 | [],_,_+1,h,_,_,_,_=>by simp[bN]at h
 | _::_,_,0,h,_,_,_,_=>by simp[bN]at h
theorem Do {d:Nat}{hp':Hp}(h:bN hp' 0 ks.length=true)(hn:ks.Nodup){k:Nat}(hk:k∈ks):(dP ks d hp').get k=(hp'.get (up ks k)).map (rOB (dn ks d)) :=
 xq hn h (by omega) k hk (Nat.zero_le _)
theorem Bx {d:Nat}{hp':Hp}(h:bN hp' 0 ks.length=true){k:Nat}(hk:k∉ks):(dP ks d hp').get k=none:=by
 refine Hp.get_none fun o ho=> ?_
 obtain⟨q,o',h1,h2,_⟩:=iC ho;obtain⟨j,hj,e⟩:=ft h q o' h1;have e3:q-SHK=j:=by rw[e,wa];exact w9 SHK j
 rw[e3,wQ,wS hj]at h2;exact hk (by rw[h2];exact wR hj)
theorem EF {d k:Nat}(h:k∈ks):dn ks d (up ks k)=k:=by unfold dn;rw[if_pos (Hu k),BL,(gV h).2]
theorem yT {d i:Nat}(h:20000+i<SHK):dn ks d (20000+i)=d+1000*i:=by unfold dn;rw[if_neg (by omega),show 20000+i-20000=i by omega]
theorem jR {es:List OB}{k:Nat}{o:OB}:(cm 0 es).get k=some o↔∃i,∃h:i<es.length,k=20000+i/\es[i]=o:=by
 rw[dK];constructor
 . rintro ⟨i,hi,hk,he⟩;exact⟨i,hi,by omega,he⟩
 . rintro ⟨i,hi,hk,he⟩;exact⟨i,hi,by omega,he⟩
theorem p6 (inv:Inv H G hp)(hn:ks.Nodup)(hc:dT hp ks=true){d:Nat}{hp' us':Hp}{es:List OB}{v:Value}{r:AV}
  (m:Move H (kD G ks) (iU hp ks ks) H' G' (hp'++cm 0 es)) (hand:ks≠[]->∀q,SHK<=q->∀r,G'.reg q=some r->∃r0,(kD G ks).reg q=some r0/\r0.le r) (hs:bN hp' 0 ks.length=true)
  (hl:mu hp ks d 0 es=some us') (hv:RepT H' G' v r):∃G2,Step H G hp H' G2 ((dP ks d hp'++us')++hp)/\RepT H' G2 v (rA (dn ks d) r):=by
 obtain⟨hget,hlt⟩:=AE hl;simp only[wa]at hget hlt;have hfresh:=(iu (hp':=hp) hl fun _ _ _ h=>h).2;have hnone:∀i,i<es.length->hp.get (d+1000*i)=none:=fun i hi=>hfresh _ _ (Hp.get_mem ((hget (d+1000*i) _).2 ⟨i,hi,rfl,rfl⟩))
 have hregn:∀i,i<es.length->G.reg (d+1000*i)=none:=fun i hi=>inv.out _ (hnone i hi)
 have hnk:∀i,i<es.length->d+1000*i∉ks:=fun i hi hk=>by have:=(dI hc _ hk).1;rw[hnone i hi]at this;cases this
 have h20:∀i,i<es.length->20000+i<SHK:=fun i hi=>by
  have:=hlt i hi;unfold SHK at *
  omega
 have hkey:∀q o,(hp'++cm 0 es).get q=some o->(∃k∈ks,q=up ks k/\hp'.get (up ks k)=some o)\/(∃i,∃h:i<es.length,q=20000+i/\es[i]=o/\hp'.get q=none):=fun q o h=>by
  rw[Hp.get_append]at h
  cases h1:hp'.get q with
  | some o' =>rw[h1]at h;obtain⟨k,hk,e⟩:=(iI hs hn q).1 ⟨o',h1⟩;exact .inl ⟨k,hk,e,by rw[<-e,h1,<-h]⟩
  | none =>rw[h1]at h;obtain⟨i,hi,e,e2⟩:=jR.1 h;exact .inr ⟨i,hi,e,e2,rfl⟩
 let G2:=lK ks G G' d es.length
 have hreg:∀q,(∃r,G'.reg q=some r)->G2.reg (dn ks d q)=G'.reg q:=by
  rintro q ⟨rr,hr⟩;obtain⟨o,ho⟩:=m.inv.reg_get hr;rcases hkey q o ho with ⟨k,hk,rfl,_⟩|⟨i,hi,rfl,_,_⟩
  . rw[EF hk];exact xr hk
  . rw[yT (h20 i hi)];exact Dp (hnk i hi) (hregn i hi) hi
 have hobref:∀q o,(hp'++cm 0 es).get q=some o->∀j∈bO o,G2.reg (dn ks d j)=G'.reg j:=fun q o ho j hj=>hreg j (m.inv.ob_refs ho j hj)
 have hle:Le H G H' G2:=⟨fun b hb=>m.imm b hb,fun k rr h=>by
  by_cases hk:k∈ks
  . obtain⟨o,ho⟩:=(iI hs hn (up ks k)).2 ⟨k,hk,rfl⟩;obtain⟨r1,hr1⟩:=m.inv.get_reg (show(hp'++cm 0 es).get (up ks k)=some o by rw[Hp.get_append,ho]);obtain⟨r0,h0,hle⟩:=hand (fun e=>by rw[e]at hk;cases hk) _ (Hu k) r1 hr1;rw[ja hk,h]at h0;cases h0;exact⟨r1,(xr hk).trans hr1,hle⟩
  . exact⟨rr,ny hk h,Rg.le_refl rr⟩,fun i l h=>m.yl i l h⟩
 have hcase:∀k o,((dP ks d hp'++us')++hp).get k=some o->(k∈ks/\∃o',hp'.get (up ks k)=some o'/\o=rOB (dn ks d) o')\/(∃i,∃h:i<es.length,k=d+1000*i/\rOB (dn ks d) es[i]=o/\hp'.get (20000+i)=none)\/(k∉ks/\hp.get k=some o):=fun k o h=>by
  rw[Hp.get_append,Hp.get_append]at h;by_cases hkk:k∈ks
  . rw[Do hs hn hkk]at h;obtain⟨o',ho'⟩:=(iI hs hn (up ks k)).2 ⟨k,hkk,rfl⟩;rw[ho']at h;exact .inl ⟨hkk,o',ho',by simpa using h.symm⟩
  . rw[Bx hs hkk]at h;have hnk:=hkk
    cases h2:us'.get k with
    | some o' =>
      rw[h2]at h;obtain⟨i,hi,e,e2⟩:=(hget k o').1 h2;refine .inr (.inl ⟨i,hi,e,by rw[e2];simpa using h,?_⟩)
      cases h3:hp'.get (20000+i)with
      | none=>rfl
      | some o3 =>obtain⟨k3,_,e3⟩:=(iI hs hn (20000+i)).1 ⟨o3,h3⟩;have:=Hu (ks:=ks) k3;have:=h20 i hi;omega
    | none=>rw[h2]at h;exact .inr (.inr ⟨hnk,h⟩)
 have hin:∀q o,hp'.get q=some o->(hp'++cm 0 es).get q=some o:=fun q o h=>by rw[Hp.get_append,h]
 have hin2:∀i (h:i<es.length),hp'.get (20000+i)=none->(hp'++cm 0 es).get (20000+i)=some es[i]:=fun i h hn=>by rw[Hp.get_append,hn];exact jR.2 ⟨i,h,rfl,rfl⟩
 have hregk:∀q o,(hp'++cm 0 es).get q=some o->∃r,G'.reg q=some r:=fun q o ho=>m.inv.get_reg ho
 have hlcase:∀k b rr,aN ((dP ks d hp'++us')++hp) k->G2.At k b rr->(∃q,k=dn ks d q/\aN (hp'++cm 0 es) q/\G'.At q b rr)\/(k∉ks/\aN hp k/\G.At k b rr):=by
  rintro k b rr ⟨o,ho,hd⟩ hr;rcases hcase k o ho with ⟨hk,o',ho',rfl⟩|⟨i,hi,rfl,rfl,hn⟩|⟨hk,ho⟩
  . left;refine⟨up ks k,(EF hk).symm,⟨o',hin _ _ ho',jf hd⟩,?_⟩;refine(Gh.at_congr (G':=G2) (k':=k) ?_).2 hr;rw[<-hreg (up ks k) (hregk _ _ (hin _ _ ho')),EF hk]
  . left;refine⟨20000+i,(yT (h20 i hi)).symm,⟨es[i],hin2 i hi hn,jf hd⟩,?_⟩;refine(Gh.at_congr (G':=G2) (k':=d+1000*i) ?_).2 hr;rw[<-hreg _ (hregk _ _ (hin2 i hi hn)),yT (h20 i hi)]
  . right;refine⟨hk,⟨o,ho,hd⟩,?_⟩;obtain⟨r',hr'⟩:=inv.get_reg ho;exact(Gh.at_congr (hr'.trans (show G2.reg k=some r' from ny hk hr').symm)).2 hr
 have hfar:∀k b rr,k∉ks->aN hp k->G.At k b rr->¬bG (kD G ks) (iU hp ks ks) b/\b<H.size:=fun k b rr hk hl hr=>by refine⟨fun h=> ?_,inv.lt b ⟨k,rr,hl,hr⟩⟩;obtain⟨k0,hk0,hl0,r0,hr0⟩:=qQ hc h;rw[inv.dist k k0 b rr r0 hr hr0 hl hl0]at hk;exact hk hk0
 have hupL:∀b,bG (kD G ks) (iU hp ks ks) b->bG G hp b:=fun b h=>by obtain⟨k,_,h1,r,h2⟩:=qQ hc h;exact⟨k,r,h1,h2⟩
 have hL:∀b,bG G2 ((dP ks d hp'++us')++hp) b->bG G hp b\/H.size<=b:=by
  rintro b ⟨k,rr,hl,hr⟩;rcases hlcase k b rr hl hr with ⟨q,_,h1,h2⟩|⟨_,h1,h2⟩
  . exact(m.live b ⟨q,rr,h1,h2⟩).imp (hupL b) id
  . exact .inl ⟨k,rr,h1,h2⟩
 refine⟨G2,⟨⟨?_,?_,?_,?_,?_⟩,hle,m.size,fun b hb hn=>m.same b hb fun h=>hn (hupL b h),hL,fun b hb=> ?_⟩,?_⟩
 . intro k o hk;rcases hcase k o hk with ⟨hkm,o',ho',rfl⟩|⟨i,hi,rfl,rfl,hn⟩|⟨hk,ho⟩
   . refine kV (m.inv.obs _ _ (hin _ _ ho')) ?_ (fun _ h=>h) (fun _ _ h=>h) (hobref _ _ (hin _ _ ho'));rw[<-hreg (up ks k) (hregk _ _ (hin _ _ ho')),EF hkm]
   . refine kV (m.inv.obs _ _ (hin2 i hi hn)) ?_ (fun _ h=>h) (fun _ _ h=>h) (hobref _ _ (hin2 i hi hn));rw[<-hreg _ (hregk _ _ (hin2 i hi hn)),yT (h20 i hi)]
   . refine ObOk.mono hle (fun hl b rr hr=> ?_) (fun _ h=>ny hk h) ho (inv.obs k o ho);obtain⟨h1,h2⟩:=hfar k b rr hk hl hr;exact m.same b h2 h1
 . intro k hk;rw[Hp.get_append,Hp.get_append]at hk
   have h1:hp.get k=none:=by
    cases h:hp.get k with
    | none=>rfl
    | some o=>rw[h]at hk;cases h2:(dP ks d hp').get k<;>rw[h2]at hk<;>first|(cases h3:us'.get k<;>rw[h3]at hk<;>cases hk;done)|cases hk
   have h2:us'.get k=none:=by
    cases h:us'.get k with
    | none=>rfl
    | some o=>rw[h]at hk;cases h2:(dP ks d hp').get k<;>rw[h2]at hk<;>cases hk
   have h3:=inv.out k h1;have hkk:k∉ks:=fun hk=>by have:=(dI hc _ hk).1;rw[h1]at this;cases this
   simp only[G2,lK,h3,hkk,if_false];rw[if_neg];rintro ⟨h4,h5,h6⟩;have hk':k=d+1000*((k-d)/1000):=by omega
   have:=(hget k _).2 ⟨(k-d)/1000,h6,hk',rfl⟩;rw[h2]at this;cases this
 . intro k k' b rr rr' hr hr' hl hl';rcases hlcase k b rr hl hr with ⟨q,e,h1,h2⟩|⟨hk,h1,h2⟩
   . rcases hlcase k' b rr' hl' hr' with ⟨q',e',h1',h2'⟩|⟨hk',h1',h2'⟩
     . rw[e,e',m.inv.dist q q' b rr rr' h2 h2' h1 h1']
     . obtain⟨g1,g2⟩:=hfar k' b rr' hk' h1' h2';rcases m.live b ⟨q,rr,h1,h2⟩with h|h
       . exact absurd h g1
       . omega
   . rcases hlcase k' b rr' hl' hr' with ⟨q',e',h1',h2'⟩|⟨hk',h1',h2'⟩
     . obtain⟨g1,g2⟩:=hfar k b rr hk h1 h2;rcases m.live b ⟨q',rr',h1',h2'⟩with h|h
       . exact absurd h g1
       . omega
     . exact inv.dist k k' b rr rr' h2 h2' h1 h1'
 . intro b hb;refine⟨(m.inv.imm b hb).1,?_⟩;rintro ⟨k,rr,hl,hr⟩;rcases hlcase k b rr hl hr with ⟨q,_,h1,h2⟩|⟨hk,h1,h2⟩
   . exact(m.inv.imm b hb).2 ⟨q,rr,h1,h2⟩
   . obtain⟨g1,g2⟩:=hfar k b rr hk h1 h2;rcases m.immNew b hb with h|h|h
     . exact(inv.imm b h).2 ⟨k,rr,h1,h2⟩
     . omega
     . exact g1 h
 . rintro b ⟨k,rr,hl,hr⟩;rcases hlcase k b rr hl hr with ⟨q,_,h1,h2⟩|⟨hk,h1,h2⟩
   . exact m.inv.lt b ⟨q,rr,h1,h2⟩
   . exact Nat.lt_of_lt_of_le (inv.lt b ⟨k,rr,h1,h2⟩) m.size
 . rcases m.immNew b hb with h|h|h
   . exact .inl h
   . exact .inr (.inl h)
   . exact .inr (.inr (hupL b h))
 . exact hv.renA (.inr fun _ h=>h) (fun _ _ h=>h) fun k hk=>hreg k (hv.known_refs k hk)
end
end Go.Ev
