/-
  Nothing is made at the keys of what was handed in. No condition.
-/
import Derived.Test.YtaloneiaejhopaaDoorEvReg4
import Derived.Test.YtaloneiaejhopaaDoorEvLend
set_option linter.all false
open Option renaming map_eq_some_iff->wB,some.injEq->wC,bind_eq_some_iff->wD,ite_none_right_eq_some->wE
open Bool renaming and_eq_true_iff->wF,and_eq_true->wG,or_eq_false_iff->wH,or_eq_true->wJ
open List renaming mem_append->wK,mem_cons->wL,range_eq_range'->wM,range->wN
open Prod renaming mk.injEq->wO,mk->wP
namespace Go.Ev
open Go
variable {gl :Gl} {cl:Cl} {st st':St} {d:Option Nat} {m:MOp} {v:AV} {us:Hp}
theorem zsh {hp:Hp}{d:Nat}:∀{l:List OB} {j:Nat} {us:Hp},zcf hp d j l=some us->∀k o,(k,o)∈us->k<SHK
 | [],j,us,h=>by simp only[zcf,wC]at h;subst h;intro k o hk;cases hk
 | .grow sh els::l,j,us,h=>by
   simp only[zcf]at h
   rw[wE,wG,decide_eq_true_eq]at h
   obtain⟨⟨_,h1⟩,h⟩:=h
   simp only[wB]at h
   obtain⟨r,hr,rfl⟩:=h
   intro k o hk
   rcases wL.1 hk with hk|hk
   . rw[(wP.inj hk).1];exact h1
   . exact zsh hr k o hk
 | .fix _ _::_,_,_,h=>by simp[zcf]at h
 | .dead::_,_,_,h=>by simp[zcf]at h
 | .lp _ _ _::_,_,_,h=>by simp[zcf]at h
theorem z2i {hp:Hp}{ks:List Nat}{d:Nat}:∀{l:List OB} {j:Nat} {us:Hp},layG hp ks d j l=some us->∀k o,(k,o)∈us->k<SHK
 | [],j,us,h=>by simp only[layG,wC]at h;subst h;intro k o hk;cases hk
 | e::l,j,us,h=>by
   simp only[layG]at h
   rw[wE,wG,decide_eq_true_eq]at h
   obtain⟨⟨_,h1⟩,h⟩:=h
   simp only[wB]at h
   obtain⟨r,hr,rfl⟩:=h
   intro k o hk
   rcases wL.1 hk with hk|hk
   . rw[(wP.inj hk).1];exact h1
   . exact z2i hr k o hk
theorem ze6 {hp:Hp}{d f:Nat}{args:List AV}{ks:List Nat}(h:zb4 cl hp d f args ks=some (v,us)):∀k o,(k,o)∈us->hp.get k≠none\/k<SHK:=by
 obtain⟨⟨h1,h2,h4,h3⟩,r,hp2,es,us',h5,h6,h7,rfl,rfl⟩:=zb8 h
 intro k o hk
 rcases wK.1 hk with hk|hk
 . have ⟨q,o',hq,e1,_⟩:=zf7 hk
   have ⟨j,hj,e2⟩:=zd5 h6 q o' hq
   have e3:q-SHK=j:=by rw[e2,Nat.zero_add];exact Nat.add_sub_cancel_left SHK j
   have hk':k∈ks:=by
    rw[e1,e3,List.getD_eq_getElem?_getD,List.getElem?_eq_getElem hj]
    exact List.getElem_mem hj
   unfold zdp at h1
   rw[List.all_eq_true]at h1
   have:=h1 k hk'
   rw[wG]at this
   left
   intro he
   rw[he]at this;cases this.1
 . exact .inr (z2i h7 k o hk)
theorem zot {hp:Hp}{d f:Nat}{args:List AV}{m:Mode}(h:zc3 cl hp d f args m=some (v,us)):∀k o,(k,o)∈us->hp.get k≠none\/k<SHK:=by
 cases m with
 | imp =>
   simp only[zc3,wE]at h
   exact ze6 h.2
 | lend =>
   obtain⟨as,r,es,has,hr,hc,hres⟩:=zgo h
   rcases hres with ⟨_,_,rfl⟩|⟨_,h2⟩
   . intro k o hk;cases hk
   . exact fun k o hk=>.inr (zsh h2 k o hk)
theorem zjw (hd:ltO d=true)(h:zaa gl cl st d m=some (v,us)):∀k o,(k,o)∈us->st.hp.get k≠none\/k<SHK:=by
 have nil:∀{a:AV} {b:AV} {us:Hp},(a,([]:Hp))=(b,us)->∀k o,(k,o)∈us->st.hp.get k≠none\/k<SHK:=by
  intro a b us h k o hk;cases h;cases hk
 have one:∀{k:Nat} {o:OB},st.hp.get k≠none\/k<SHK->∀k' o',(k',o')∈([(k,o)]:Hp)->st.hp.get k'≠none\/k'<SHK:=by
  intro k o h k' o' hk;simp only[List.mem_singleton,wO]at hk;rw[hk.1];exact h
 have lt:∀{k:Nat},ltO (some k)=true->k<SHK:=fun h=>of_decide_eq_true h
 cases m with
 | mapop k kk z l =>
   simp only[zaa]at h
   rcases zgw h with ⟨_,q,rfl,_,rfl⟩|⟨q,ys,_,hx,rfl|⟨o,_,hw,rfl⟩⟩
   . exact one (.inr (lt hd))
   . intro k o hk;cases hk
   . exact one (.inl hw)
 | lits sh z n ps =>
   simp only[zaa,wD,wE,wC,wO]at h
   obtain⟨l,_,_,_,rfl⟩:=h
   intro k o hk;cases hk
 | alloc sh z =>
   simp only[zaa]at h
   split at h
   . split at h
     . cases h;exact one (.inr (lt hd))
     . cases h
   . cases h
 | box sh x =>
   simp only[zaa]at h
   split at h
   . split at h
     . cases h;exact one (.inr (lt hd))
     . cases h
   . cases h
 | bslice sh z n ps =>
   simp only[zaa]at h
   split at h
   . split at h
     . simp only[wD]at h
       obtain⟨l,hl,h⟩:=h
       split at h
       . cases h;exact one (.inr (lt hd))
       . cases h;exact one (.inr (lt hd))
     . cases h
   . cases h
 | s2b x =>
   simp only[zaa]at h
   split at h
   . split at h
     . cases h;exact one (.inr (lt hd))
     . cases h
   . cases h
 | mkslice sh z b l c =>
   simp only[zaa]at h
   split at h
   . split at h
     . cases h;exact one (.inr (lt hd))
     . cases h
   . cases h
 | mkarr sh z b l c =>
   simp only[zaa]at h
   split at h
   . split at h
     . cases h;exact one (.inr (lt hd))
     . cases h
   . cases h
 | store n p x =>
   simp only[zaa]at h
   split at h
   . rename_i k q hp
     split at h
     . rename_i hk
       split at h
       . split at h
         . simp only[wB,wO]at h
           obtain⟨a',_,_,rfl⟩:=h
           exact one (.inl (by simp[hk]))
         . cases h
       . cases h
     . rename_i hk
       split at h
       . split at h
         . simp only[wB,wO]at h
           obtain⟨a',_,_,rfl⟩:=h
           exact one (.inl (by simp[hk]))
         . cases h
       . cases h
     . cases h
   . cases h
 | idc x =>
   simp only[zaa]at h
   split at h
   . rename_i k p o l hx
     split at h
     . rename_i hk;cases h;exact one (.inl (by simp[hk]))
     . cases h
   . cases h
 | append sh b x y =>
   rw[zf9]at h
   split at h
   . split at h
     . split at h
       . split at h
         . cases h;exact one (.inr (lt hd))
         . cases h
       . split at h
         . rename_i hk
           split at h
           . cases h
             intro k' o' hm
             rcases wL.1 hm with hm|hm
             . rw[(wP.inj hm).1];exact .inl (by simp[hk])
             . exact one (.inr (lt hd)) k' o' hm
           . split at h
             . cases h
               intro k' o' hm
               rcases wL.1 hm with hm|hm
               . rw[(wP.inj hm).1];exact .inr (lt hd)
               . exact one (.inl (by simp[hk])) k' o' hm
             . cases h
         . cases h
       . cases h
     . cases h
   . cases h
 | copy sh x y =>
   rw[zh7]at h
   split at h
   . split at h
     . dsimp only at h
       split at h
       . split at h
         . cases h;exact one (.inl (by simp[*]))
         . cases h
       . split at h
         . split at h
           . simp only[wB,wO]at h
             obtain⟨a',_,_,rfl⟩:=h
             exact one (.inl (by simp[*]))
           . cases h
         . cases h
       . cases h
     . cases h
   . obtain⟨k,o,rfl,_,hk⟩:=zk2 h
     exact one (.inl hk)
   . cases h
 | clear sh z x =>
   simp only[zaa]at h
   split at h
   . split at h
     . rename_i hk
       split at h
       . cases h;exact one (.inl (by simp[hk]))
       . cases h
     . cases h
   . cases h
 | appmk sh z b x y =>
   simp only[zaa]at h
   split at h
   . split at h
     . cases h;exact one (.inr (lt hd))
     . cases h
   . cases h
 | call f l md =>
   simp only[zaa]at h
   split at h
   . exact zot h
   . cases h
 | callv f l md =>
   simp only[zaa]at h
   split at h
   . exact zot h
   . obtain⟨_,_,_,_,h⟩:=zee h;exact ze6 h
   . cases h
 | mov x=>simp only[zaa,wC]at h;exact nil h
 | bin o x y=>simp only[zaa,wB]at h;obtain⟨r,_,h⟩:=h;exact nil h
 | binB o x y=>simp only[zaa,wB]at h;obtain⟨r,_,h⟩:=h;exact nil h
 | _ =>
   simp only[zaa]at h
   repeat' (first|(cases h;done)|(simp only[wC]at h;exact nil h)|(simp only[wB]at h;obtain⟨r,_,h⟩:=h;exact nil h)|split at h|(simp only[wD]at h;obtain⟨r,_,h⟩:=h))
theorem zjt {fr:Fr}(h:∀k o,(k,o)∈us->st.hp.get k≠none\/k<SHK){q:Nat}(hq:SHK<=q)(hn:Hp.get (us++st.hp) q≠none):st.hp.get q≠none:=by
 rw[Hp.get_append]at hn
 cases hu:Hp.get us q with
 | none=>rw[hu]at hn;exact hn
 | some o =>
   rcases h q o (Hp.get_mem hu)with h|h
   . exact h
   . exact absurd h (Nat.not_lt.2 hq)
theorem zut :∀{its:Its} {st st':St},zsl its=true->zbz gl cl its st=some st'->∀q,SHK<=q->st'.hp.get q≠none->st.hp.get q≠none
 | .nil,st,st',_,h,q,_,hn=>by simp only[zbz,wC]at h;rw[h];exact hn
 | .op d m r,st,st',hl,h,q,hq,hn=>by
   simp only[zsl,wG]at hl
   simp only[zbz,wD]at h
   obtain⟨⟨v,us⟩,h1,h2⟩:=h
   have:=zut hl.2 h2 q hq hn
   exact zjt (fr:=st.fr) (zjw hl.1 h1) hq this
 | .ite c want blk lo hi d a b r,st,st',hl,h,q,hq,hn=>by
   simp only[zsl,wG]at hl
   simp only[zbz]at h
   split at h
   . rw[wD]at h
     obtain⟨x,_,h⟩:=h
     exact zut hl.2 h q hq hn
   . cases h
theorem zlk :∀{l:List FO} {st:St} {z:St×List (List Nat)},l.all (fun o=>ltO o.d)=true->zb0 gl cl l st=some z->∀q,SHK<=q->z.1.hp.get q≠none->st.hp.get q≠none
 | [],st,z,_,h,q,_,hn=>by simp only[zb0,wC]at h;subst h;exact hn
 | o::l,st,z,hl,h,q,hq,hn=>by
   simp only[List.all_cons,wG]at hl
   rw[zgm,wD]at h
   obtain⟨t,h1,h2⟩:=h
   simp only[wB]at h2
   obtain⟨z',h2,rfl⟩:=h2
   have hn':=zlk hl.2 h2 q hq hn
   unfold foStep at h1
   split at h1
   . cases h1
   . simp only[wB]at h1
     obtain⟨⟨v,us⟩,h1,rfl⟩:=h1
     exact zjt (fr:=st.fr) (zjw hl.1 h1) hq hn'
   . cases h1;exact hn'
theorem zdg {H H':Heap}{G G':Gh}{hp hp':Hp}(inv:Inv H G hp)(s:Step H G hp H' G' hp')(hk:∀q,SHK<=q->hp'.get q≠none->hp.get q≠none){q:Nat}(hq:SHK<=q){r:Rg}(h:G'.reg q=some r):∃r0,G.reg q=some r0/\r0.le r:=by
 cases hg:G.reg q with
 | some r0 =>
   obtain⟨r1,h1,h2⟩:=s.le.reg q r0 hg
   rw[h]at h1;cases h1;exact⟨r0,rfl,h2⟩
 | none =>
   exfalso
   obtain⟨o,ho⟩:=s.inv.reg_get h
   have h1:=hk q hq (by rw[ho];simp)
   cases ho':hp.get q with
   | none=>exact h1 ho'
   | some o' =>
     have:=inv.obs q o' ho'
     cases o' with
     | fix sh a=>obtain⟨b,_,_,_,h,_⟩:=this;rw[hg]at h;cases h
     | grow sh els =>
       rcases this with ⟨_,h⟩|⟨_,_,_,_,_,h,_⟩
       . rw[hg]at h;cases h
       . rw[hg]at h;cases h
     | dead=>obtain⟨r,h⟩:=this;rw[hg]at h;cases h
     | lp _ _ _=>obtain⟨_,_,_,h,_⟩:=this;rw[hg]at h;cases h
     | mp _ _=>obtain⟨_,h,_⟩:=this;rw[hg]at h;cases h
end Go.Ev
namespace Go.Ev
open Go
variable {gl :Gl} {cl:Cl} {P:Program} {F:Fence} {n N:Nat} {an:Ann}
def zc4 (N:Nat):Code->Bool
 | .region _ ops _=>ops.all fun o=>match o.dst with|some d=>decide (d<N)|none=>true
 | .seq a b=>zc4 N a&&zc4 N b
 | .cond _ a b=>zc4 N a&&zc4 N b
 | .block _ b=>zc4 N b
 | .loop b=>zc4 N b
 | .scope b=>zc4 N b
 | _=>true
theorem zs8 {ops:Array Oper}(h:(ops.all fun o=>match o.dst with|some d=>decide (d<N)|none=>true)=true):∀(i:Nat) (o:Oper),ops[i]? =some o->∀d,o.dst=some d->d<N:=by
 intro i o ho d hd
 have:=Array.all_eq_true_iff_forall_mem.1 h o (Array.mem_of_getElem? ho)
 rw[hd]at this
 simpa using this
def exOf :Ex->Exit
 | .norm=>.normal
 | .exit id=>.exit id
 | .ret=>.ret
structure Setting (P:Program)(F:Fence)(n:Nat)(gl:Gl)(cl:Cl):Prop where
 mix:P.follows .mixedOrders=true
 op:OpOk F n P gl cl
 ex:OpEx P gl cl
 fn:∀f,F.fn f
def z91 (r:Nat):Deferred:={target:=.collected r,args:= #[]}
structure MarksOk (ms:List Nat)(w w':World)(G':Gh)(hp':Hp):Prop where
 nd:ms.Nodup
 ok:∀r∈ms,w.heap.size<=r/\w'.heap[r]? =some (.deferred (some []))/\¬Live G' hp' r/\¬G'.imm r
theorem MarksOk.nil {w w':World}{G':Gh}{hp':Hp}:MarksOk [] w w' G' hp':=⟨List.nodup_nil,fun _ h=>by cases h⟩
structure CameM (L:Prop)(gl:Gl)(ms:List Nat)(a:Act)(w:World)(G:Gh)(hp:Hp)(a':Act)(w':World)(G':Gh)(st':St):Prop where
 kept:Kept w w'
 move:Move w.heap G hp w'.heap G' st'.hp
 ok:StOk w'.heap G' st' a'.tmps
 size:a'.tmps.size=a.tmps.size
 defers:a'.defers=ms.map z91++a.defers
 hand:L->∀q,SHK<=q->∀r,G'.reg q=some r->∃r0,G.reg q=some r0/\r0.le r
 marks:MarksOk ms w w' G' st'.hp
abbrev Came (L:Prop)(gl:Gl):=CameM L gl []
theorem CameM.trans {L:Prop}{ms1 ms2:List Nat}{a a1 a2:Act}{w w1 w2:World}{G G1 G2:Gh}{hp:Hp}{st1 st2:St}(h:CameM L gl ms1 a w G hp a1 w1 G1 st1)(h':CameM L gl ms2 a1 w1 G1 st1.hp a2 w2 G2 st2):CameM L gl (ms2++ms1) a w G hp a2 w2 G2 st2 where
 kept:=h.kept.trans h'.kept
 move:=h.move.trans h'.move
 ok:=h'.ok
 size:=h'.size.trans h.size
 defers:=by rw[h'.defers,h.defers,List.map_append,List.append_assoc]
 hand:=fun l q hq r hr=>let ⟨r1,h1,h2⟩:=h'.hand l q hq r hr;let ⟨r0,h3,h4⟩:=h.hand l q hq r1 h1;⟨r0,h3,Rg.le_trans h4 h2⟩
 marks:=by
  have lt:∀r∈ms1,r<w1.heap.size:=fun r hr=>(Array.getElem?_eq_some_iff.1 (h.marks.ok r hr).2.1).1
  refine⟨List.nodup_append.2 ⟨h'.marks.nd,h.marks.nd,fun x hx y hy e=> ?_⟩,fun r hr=> ?_⟩
  . subst e
    have:=(h'.marks.ok x hx).1
    have:=lt x hy
    omega
  . rcases wK.1 hr with hr|hr
    . obtain⟨g1,g2⟩:=h'.marks.ok r hr
      exact⟨Nat.le_trans h.move.size g1,g2⟩
    . obtain⟨g1,g2,g3,g4⟩:=h.marks.ok r hr
      have hlt:=lt r hr
      refine⟨g1,(h'.move.same r hlt g3).trans g2,fun hl=> ?_,fun hi=> ?_⟩
      . rcases h'.move.live r hl with h1|h1
        . exact g3 h1
        . omega
      . rcases h'.move.immNew r hi with h1|h1|h1
        . exact g4 h1
        . omega
        . exact g3 h1
theorem Came.trans {L:Prop}{a a1 a2:Act}{w w1 w2:World}{G G1 G2:Gh}{hp:Hp}{st1 st2:St}(h:Came L gl a w G hp a1 w1 G1 st1)(h':Came L gl a1 w1 G1 st1.hp a2 w2 G2 st2):Came L gl a w G hp a2 w2 G2 st2:=CameM.trans (ms1:=[]) (ms2:=[]) h h'
def RfOk (F:Fence)(n:Nat)(P:Program)(gl:Gl)(cl:Cl)(N:Nat):Prop :=
 ∀(L:Prop) (g:Operand) (g':Opd) (rid:Nat) (info:RInfo) (kd dc:Nat),zag g=some g'->gl.ri rid=some info->info.nt<=N->(L->kd<SHK/\dc<SHK) ->
  ∀(a:Act) (w:World) (G:Gh) (st st':St) (e:Ex),GlOk w.heap G gl->StOk w.heap G st a.tmps->a.tmps.size=N->evRf cl rid info.slots kd dc st (g'.val gl st.fr)=some (e,st') ->
  ∀(Q:Exit->Act->World->Prop),(∀ms a' w' G',CameM L gl ms a w G st.hp a' w' G' st'->Q (exOf e) a' w')->(Code.rangeFunc g info.params info.assign info.body).wpIn F n P Q a w
theorem zom {p:Nat->Prop}(h:∃k,p k):∃k,p k/\∀j,p j->k<=j:=by
 obtain⟨k,hk⟩:=h
 induction k using Nat.strongRecOn with
 | _ k ih =>
   by_cases hex:∃j,j<k/\p j
   . obtain⟨j,hj,hp⟩:=hex;exact ih j hj hp
   . exact⟨k,hk,fun j hj=>by
      rcases Nat.lt_or_ge j k with h|h
      . exact absurd ⟨j,h,hj⟩ hex
      . exact h⟩
open Classical in
noncomputable def zqe (p:Nat->Prop):Nat:=if h:∃k,p k then Classical.choose (zom h)else 0
theorem zku {p:Nat->Prop}(h:∃k,p k):p (zqe p)/\∀j,p j->zqe p<=j:=by
 unfold zqe;rw[dif_pos h];exact Classical.choose_spec (zom h)
theorem zne {c:Code}{Q:Exit->Act->World->Prop}{a:Act}{w:World}(I:Nat->Act->World->Prop){k:Nat}(h:I k a w)
  (round:∀k a w,I k a w->c.wpIn F n P (Exit.then (fun a' w'=>∃j,j<k/\I j a' w') Q) a w):(Code.loop c).wpIn F n P Q a w:=by
 refine wpIn_loop (fun a w=>∃k,I k a w) (fun a w=>zqe fun k=>I k a w) ⟨k,h⟩ fun a w hI=> ?_
 obtain⟨h1,_⟩:=zku hI
 refine wpIn_mono (round _ a w h1) fun e a' w' hq=> ?_
 cases e with
 | normal =>
   obtain⟨j,hj,hI'⟩:=hq
   exact⟨⟨j,hI'⟩,Nat.lt_of_le_of_lt ((zku ⟨j,hI'⟩).2 j hI') hj⟩
 | _=>exact hq
theorem zdb :∀(c:Code) (id:Nat) (mc:MC),comp P an id c=some mc->zcm mc=false->∀x∈zds an N id c,gl.ri x.1=some x.2
 | .seq a b,id,mc,hc,h,x,hx=>by
   simp only[comp,wD,wB]at hc
   obtain⟨mx,h1,my,h2,rfl⟩:=hc
   simp only[zcm,wH]at h
   rcases wK.1 hx with hx|hx
   . exact zdb a id mx h1 h.1 x hx
   . exact zdb b id my h2 h.2 x hx
 | .cond _ a b,id,mc,hc,h,x,hx=>by
   simp only[comp,wD,wB]at hc
   obtain⟨_,_,mx,h1,my,h2,rfl⟩:=hc
   simp only[zcm,wH]at h
   rcases wK.1 hx with hx|hx
   . exact zdb a id mx h1 h.1 x hx
   . exact zdb b id my h2 h.2 x hx
 | .block j b,_,mc,hc,h,x,hx=>by
   simp only[comp,wB]at hc
   obtain⟨mb,hb,hc⟩:=hc
   refine zdb b j mb hb ?_ x hx
   split at hc<;>(subst hc;simpa[zcm]using h)
 | .loop b,_,mc,hc,h,x,hx=>by
   simp only[comp,wB]at hc
   obtain⟨mb,hb,rfl⟩:=hc
   exact zdb b 1000000 mb hb (by simpa[zcm]using h) x hx
 | .rangeFunc g ps as b,id,mc,hc,h,x,hx=>by
   rw[comp]at hc
   rw[zds]at hx
   split at hc
   . simp only[wB]at hc
     obtain⟨g',_,rfl⟩:=hc
     simp[zcm]at h
   . rename_i hq;rw[hq]at hx;cases hx
 | .skip,_,_,_,_,x,hx=>by cases hx
 | .region _ _ _,_,_,_,_,x,hx=>by cases hx
 | .exit _,_,_,_,_,x,hx=>by cases hx
 | .ret,_,_,_,_,x,hx=>by cases hx
 | .scope b,id,mc,hc,h,x,hx=>by
   simp only[comp,wB]at hc
   obtain⟨mb,hb,rfl⟩:=hc
   exact zdb b id mb hb (by simpa[zcm]using h) x hx
 | .label _,_,_,_,_,x,hx=>by cases hx
 | .goto _,_,_,_,_,x,hx=>by cases hx
 | .refuse _,_,_,_,_,x,hx=>by cases hx
theorem zdv {P:Program}{b:Frame}{a:Act}{k:List Item}{cs:List Frame}{w:World}{c:Code} :
  step P (lone (b.atR a (.code (.scope c)::k)) cs w)= .next (lone (b.atR a (.code c::.inScope c::k)) cs w) :=
 step_lone_go (by simp[stepG,stepG.exec,Frame.atR])
theorem zpg {P:Program}{b:Frame}{a:Act}{k:List Item}{cs:List Frame}{w:World}{c:Code} :
  step P (lone (b.atR a (.inScope c::k)) cs w)= .next (lone (b.atR a k) cs w) :=
 step_lone_go (by simp[stepG,stepG.exec,Frame.atR])
theorem zts {F:Fence}{n:Nat}{P:Program}{Q:Exit->Act->World->Prop}{a:Act}{w:World}{c:Code}(h:c.wpIn F n P (fun e a w=>match e with| .goto _=>False|e=>Q e a w) a w):(Code.scope c).wpIn F n P Q a w:=by
 intro b k cs hro hb hr
 have h0:(lone (b.atR a (.code (.scope c)::k)) cs w).fenced P F:=fenced_calm hb hr rfl
 obtain⟨e,a₁,w₁,hq,harr⟩:=h b (.inScope c::k) cs hro hb hr
 cases e with
 | normal=>exact⟨.normal,a₁,w₁,hq,.head h0 zdv (StepsIn.trans harr (.one (fenced_calm hb hr rfl) zpg))⟩
 | exit id' =>
   have hx:exitTo id' (.inScope c::k)=exitTo id' k:=by simp[exitTo]
   exact⟨.exit id',a₁,w₁,hq,fun k' hk=>.head h0 zdv (harr.1 k' (by rw[hx];exact hk)),
    fun hr' hk=>let ⟨k₁,h1,h2⟩:=harr.2 hr' (by rw[hx];exact hk);⟨k₁,h1,.head h0 zdv h2⟩⟩
 | goto l=>exact hq.elim
 | ret=>exact⟨_,a₁,w₁,hq,.of_steps (.one h0 zdv) harr⟩
 | panic ch=>exact⟨_,a₁,w₁,hq,.of_steps (.one h0 zdv) harr⟩
 | outgrown=>exact⟨_,a₁,w₁,hq,.of_steps (.one h0 zdv) harr⟩
theorem zqy {L:Prop}{M:Nat}(hM:M<=N)(S:Setting P F n gl cl):∀(c:Code) (id:Nat) (mc:MC),comp P an id c=some mc->(L->mcLt mc=true)->(zcm mc=true->RfOk F n P gl cl N)->(∀x∈zds an M id c,gl.ri x.1=some x.2)->zc4 N c=true->∀(a:Act) (w:World) (G:Gh) (st st':St) (e:Ex),GlOk w.heap G gl->StOk w.heap G st a.tmps ->
  a.tmps.size=N->evC gl cl mc st=some (e,st')->∀(Q:Exit->Act->World->Prop),(∀ms a' w' G',(zcm mc=false->ms=[])->CameM L gl ms a w G st.hp a' w' G' st'->Q (exOf e) a' w')->c.wpIn F n P Q a w:=by
 intro c
 induction c with
 | skip =>
   intro id mc hc hL hR hri _ a w G st st' e hg hst hN hev Q hQ
   simp only[comp,wC]at hc
   subst hc
   simp only[evC,wC,wO]at hev
   obtain⟨rfl,rfl⟩:=hev
   exact wpIn_skip (hQ [] a w G (fun _=>rfl) ⟨Kept.refl w,Move.refl hst.inv,hst,rfl,rfl,fun _ _ _ r h=>⟨r,h,Rg.le_refl r⟩,.nil⟩)
 | exit j =>
   intro id mc hc hL hR hri _ a w G st st' e hg hst hN hev Q hQ
   simp only[comp,wC]at hc
   subst hc
   simp only[evC,wC,wO]at hev
   obtain⟨rfl,rfl⟩:=hev
   exact wpIn_exit (hQ [] a w G (fun _=>rfl) ⟨Kept.refl w,Move.refl hst.inv,hst,rfl,rfl,fun _ _ _ r h=>⟨r,h,Rg.le_refl r⟩,.nil⟩)
 | ret =>
   intro id mc hc hL hR hri _ a w G st st' e hg hst hN hev Q hQ
   simp only[comp,wC]at hc
   subst hc
   simp only[evC,wC,wO]at hev
   obtain⟨rfl,rfl⟩:=hev
   exact wpIn_ret (hQ [] a w G (fun _=>rfl) ⟨Kept.refl w,Move.refl hst.inv,hst,rfl,rfl,fun _ _ _ r h=>⟨r,h,Rg.le_refl r⟩,.nil⟩)
 | region rid ops draw =>
   intro id mc hc hL hR hri hd a w G st st' e hg hst hN hev Q hQ
   have hdst:=zs8 (N:=N) hd
   rw[comp,wC]at hc
   cases hcr:zqx P an ops draw with
   | none=>rw[hcr]at hc;subst hc;simp[evC]at hev
   | some mc0 =>
   rw[hcr]at hc
   obtain rfl:mc0=mc:=hc
   have hc:=hcr
   cases draw with
   | false =>
     simp only[zqx]at hc
     cases hci:zch P an.imf ops (2*ops.size+2) none 0 0 with
     | none =>
       rw[hci]at hc
       simp only[wB]at hc
       obtain⟨fos,hfos,rfl⟩:=hc
       simp only[evC,wD]at hev
       obtain⟨⟨st1,ks⟩,hev,h⟩:=hev
       rw[wE]at h
       obtain⟨_,h⟩:=h
       cases h
       obtain⟨hl,hget⟩:=zdm hfos
       refine wpIn_region ?_
       have hr:wN ops.size=zf2 ops 0:=by unfold zf2;rw[wM,Nat.sub_zero]
       rw[hr]
       refine z31 (im:=an.imf) S.op S.fn fos 0 a w G st st1 ks (fun j hj=> ?_) (by rw[Nat.zero_add];simpa using hl) (fun i o ho d hd=>by rw[hN];exact hdst i o ho d hd) hg hst hev ?_
       . have hj':j<ops.size:=by rw[hl]at hj;simpa using hj
         exact⟨ops[j],by simp[hj'],by have:=hget j (by simpa using hj') hj;rwa [Array.getElem_toList]at this⟩
       . intro a' w' G' h1 h2 h3 h4 h5
         exact hQ [] a' w' G' (fun _=>rfl) ⟨h1,h2.move,h3,h4,h5,fun l q hq r hr=>zdg hst.inv h2 (zlk (z:=(st1,ks)) (by simpa[mcLt]using hL l) hev) hq hr,.nil⟩
     | some itq =>
     obtain⟨its,q⟩:=itq
     rw[hci]at hc
     simp only at hc
     have h:=hc
     clear hc
     rw[wE]at h
     obtain⟨hq,h⟩:=h
     subst hq
     cases h
     have hc:=hci
     simp only[evC,wB,wO]at hev
     obtain⟨st1,hev,rfl,rfl⟩:=hev
     refine wpIn_region ?_
     have hr:wN ops.size=zf2 ops 0:=by unfold zf2;rw[wM,Nat.sub_zero]
     rw[hr]
     refine qib S.op S.fn _ none 0 0 its _ hc a w G st st1 (fun i o ho d hd=>by rw[hN];exact hdst i o ho d hd) trivial hg hst hev ?_
     intro a' w' G' h1 h2 h3 h4 h5 _
     rw[zql (Nat.le_refl _)]
     exact hQ [] a' w' G' (fun _=>rfl) ⟨h1,h2.move,h3,h4,h5,fun l q hq r hr=>zdg hst.inv h2 (zut (by simpa[mcLt]using hL l) hev) hq hr,.nil⟩
   | true =>
     simp only[zqx,wD]at hc
     obtain⟨fos,hfos,h⟩:=hc
     rw[wE]at h
     obtain⟨hok,h⟩:=h
     cases h
     simp only[evC,wD]at hev
     obtain⟨⟨st1,ks⟩,hev,h⟩:=hev
     rw[wE]at h
     obtain⟨hprs,h⟩:=h
     cases h
     refine qee S.mix S.op S.ex S.fn hfos hok (fun i o ho d hd=>by rw[hN];exact hdst i o ho d hd) hg hst hev hprs ?_
     intro a' w' G' h1 h2 h3 h4 h5
     exact hQ [] a' w' G' (fun _=>rfl) ⟨h1,h2.move,h3,h4,h5,fun l q hq r hr=>zdg hst.inv h2 (zlk (z:=(st1,ks)) (by simpa[mcLt]using hL l) hev) hq hr,.nil⟩
 | seq x y ihx ihy =>
   intro id mc hc hL hR hri hd a w G st st' e hg hst hN hev Q hQ
   simp only[comp,wD,wB]at hc
   obtain⟨mx,hx,my,hy,rfl⟩:=hc
   simp only[zc4,wG]at hd
   simp only[evC,wD]at hev
   obtain⟨⟨e1,st1⟩,h1,hev⟩:=hev
   simp only[zcm,wJ,wH]at hR hQ
   simp only[zds,wK]at hri
   refine wpIn_seq (ihx id mx hx (fun l=>(wF.1 (hL l)).1) (fun h=>hR (.inl h)) (fun x hx=>hri x (.inl hx)) hd.1 a w G st st1 e1 hg hst hN h1 _ fun ms1 a1 w1 G1 hm1 hc1=> ?_)
   cases e1 with
   | norm =>
     exact ihy id my hy (fun l=>(wF.1 (hL l)).2) (fun h=>hR (.inr h)) (fun x hx=>hri x (.inr hx)) hd.2 a1 w1 G1 st1 st' e (hg.moved hc1.move) hc1.ok (hc1.size.trans hN) hev Q fun ms2 a' w' G' hm2 hc' =>
      hQ (ms2++ms1) a' w' G' (fun h=>by rw[hm1 h.1,hm2 h.2];rfl) (hc1.trans hc')
   | exit j =>
     simp only[wC,wO]at hev
     obtain⟨rfl,rfl⟩:=hev
     exact hQ ms1 a1 w1 G1 (fun h=>hm1 h.1) hc1
   | ret =>
     simp only[wC,wO]at hev
     obtain⟨rfl,rfl⟩:=hev
     exact hQ ms1 a1 w1 G1 (fun h=>hm1 h.1) hc1
 | cond x y z ihy ihz =>
   intro id mc hc hL hR hri hd a w G st st' e hg hst hN hev Q hQ
   simp only[comp,wD,wB]at hc
   obtain⟨x',hx,my,hy,mz,hz,rfl⟩:=hc
   simp only[zc4,wG]at hd
   simp only[evC]at hev
   simp only[zcm,wJ,wH]at hR hQ
   simp only[zds,wK]at hri
   split at hev
   . rename_i t ht
     have hv:=zam hg hst hx
     rw[ht]at hv
     have hv:=zb7 hv
     refine wpIn_cond hv ?_
     cases t
     . exact ihz id mz hz (fun l=>(wF.1 (hL l)).2) (fun h=>hR (.inr h)) (fun x hx=>hri x (.inr hx)) hd.2 a w G st st' e hg hst hN hev Q fun ms a' w' G' hm hc'=>hQ ms a' w' G' (fun h=>hm h.2) hc'
     . exact ihy id my hy (fun l=>(wF.1 (hL l)).1) (fun h=>hR (.inl h)) (fun x hx=>hri x (.inl hx)) hd.1 a w G st st' e hg hst hN hev Q fun ms a' w' G' hm hc'=>hQ ms a' w' G' (fun h=>hm h.1) hc'
   . cases hev
 | block j b ih =>
   intro id mc hc hL hR hri hd a w G st st' e hg hst hN hev Q hQ
   simp only[comp,wB]at hc
   obtain⟨mb,hb,hc⟩:=hc
   have blk:(L->mcLt mb=true)->(zcm mb=true->RfOk F n P gl cl N)->∀(st1:St) (e1:Ex),evC gl cl (.block j mb) st=some (e1,st1)->∀(Q:Exit->Act->World->Prop),(∀ms a' w' G',(zcm mb=false->ms=[])->CameM L gl ms a w G st.hp a' w' G' st1->Q (exOf e1) a' w')->(Code.block j b).wpIn F n P Q a w:=by
    intro hLb hRb st1 e1 h Q hQ
    simp only[evC,wB,wO]at h
    obtain⟨⟨e2,st2⟩,h,rfl,rfl⟩:=h
    refine wpIn_block (ih j mb hb hLb hRb hri hd a w G st st2 e2 hg hst hN h _ fun ms a' w' G' hm hc'=> ?_)
    have:=hQ ms a' w' G' hm hc'
    cases e2 with
    | norm=>exact this
    | ret=>exact this
    | exit i =>
      by_cases hi:i=j
      . subst hi
        simp only[if_true]at this
        simp only[exOf,Exit.inBlock,if_true]
        exact this
      . have hne:¬Ex.exit i=Ex.exit j:=by simpa using hi
        simp only[hne,if_false]at this
        simp only[exOf,Exit.inBlock,hi,if_false]
        exact this
   split at hc
   . rename_i ks hks
     subst hc
     rw[evC,wD]at hev
     obtain⟨⟨e1,st1⟩,h1,hev⟩:=hev
     simp only[zcm]at hR hQ
     refine blk (fun l=>(wF.1 (hL l)).2) hR st1 e1 h1 Q fun ms a' w' G' hm hc'=> ?_
     cases e1 with
     | norm =>
       simp only[wB,wO]at hev
       obtain⟨st2,h2,rfl,rfl⟩:=hev
       obtain⟨G2,k1,k2,k3⟩:=zxk hc'.ok h2
       exact hQ ms a' w' G2 hm (CameM.trans (ms2:=[]) hc' ⟨Kept.refl w',k2,k1,rfl,rfl,fun l q hq r hr=>⟨r,k3 (wF.1 (hL l)).1 q hq r hr,Rg.le_refl r⟩,.nil⟩)
     | exit i =>
       simp only[wC,wO]at hev
       obtain⟨rfl,rfl⟩:=hev
       exact hQ ms a' w' G' hm hc'
     | ret =>
       simp only[wC,wO]at hev
       obtain⟨rfl,rfl⟩:=hev
       exact hQ ms a' w' G' hm hc'
   . subst hc
     exact blk hL hR st' e hev Q hQ
 | loop b ih =>
   intro id mc hc hL hR hri hd a w G st st' e hg hst hN hev Q hQ
   simp only[comp,wB]at hc
   obtain⟨mb,hb,rfl⟩:=hc
   simp only[evC]at hev
   simp only[zcm]at hR hQ
   generalize (qe1 an.loops id).getD []=ks at hev hL
   refine zne (fun k a1 w1=>∃ms G1 st1,(zcm mb=false->ms=[])/\CameM L gl ms a w G st.hp a1 w1 G1 st1/\iter (evC gl cl mb) ks k st1=some (e,st')) (k:=LF) ⟨[],G,st,fun _=>rfl,⟨Kept.refl w,Move.refl hst.inv,hst,rfl,rfl,fun _ _ _ r h=>⟨r,h,Rg.le_refl r⟩,.nil⟩,hev⟩ ?_
   rintro k a1 w1 ⟨ms1,G1,st1,hm1,hc1,hit⟩
   cases k with
   | zero=>simp[iter]at hit
   | succ k =>
     rw[iter,wD]at hit
     obtain⟨st2,hcl,hit⟩:=hit
     rw[wD]at hit
     obtain⟨⟨e3,st3⟩,h3,hit⟩:=hit
     obtain⟨G2,k1,k2,k3⟩:=zxk hc1.ok hcl
     have hc2:CameM L gl ms1 a w G st.hp a1 w1 G2 st2:=CameM.trans (ms2:=[]) hc1 ⟨Kept.refl w1,k2,k1,rfl,rfl,fun l q hq r hr=>⟨r,k3 (wF.1 (hL l)).1 q hq r hr,Rg.le_refl r⟩,.nil⟩
     refine ih 1000000 mb hb (fun l=>(wF.1 (hL l)).2) hR hri hd a1 w1 _ st2 st3 e3 (hg.moved hc2.move) hc2.ok (hc2.size.trans hN) h3 _ fun ms2 a' w' G' hm2 hc'=> ?_
     have hm3:zcm mb=false->ms2++ms1=[]:=fun h=>by rw[hm1 h,hm2 h];rfl
     cases e3 with
     | norm=>exact⟨k,Nat.lt_succ_self k,ms2++ms1,G',st3,hm3,hc2.trans hc',hit⟩
     | exit i =>
       simp only[wC,wO]at hit
       obtain⟨rfl,rfl⟩:=hit
       exact hQ (ms2++ms1) a' w' G' hm3 (hc2.trans hc')
     | ret =>
       simp only[wC,wO]at hit
       obtain⟨rfl,rfl⟩:=hit
       exact hQ (ms2++ms1) a' w' G' hm3 (hc2.trans hc')
 | rangeFunc f ps as b iha ihb =>
   intro id mc hc hL hR hri _ a w G st st' e hg hst hN hev Q hQ
   rw[comp]at hc
   split at hc
   . rename_i q hq
     simp only[wB]at hc
     obtain⟨g',hg',rfl⟩:=hc
     have hi:=hri (q.rid,⟨ps,as,b,q.slots,M⟩) (by rw[zds,hq];simp)
     exact hR rfl L f g' q.rid ⟨ps,as,b,q.slots,M⟩ q.kd q.dc hg' hi hM (fun l=>by simpa[mcLt]using hL l) a w G st st' e hg hst hN (by simpa[evC]using hev) Q fun ms a' w' G' hc'=>hQ ms a' w' G' (fun h=>by simp[zcm]at h) hc'
   . simp only[wC]at hc;subst hc;simp[evC]at hev
 | scope b ih =>
   intro id mc hc hL hR hri hd a w G st st' e hg hst hN hev Q hQ
   simp only[comp,wB]at hc
   obtain⟨mb,hb,rfl⟩:=hc
   simp only[evC]at hev
   simp only[zcm]at hR hQ
   refine zts (ih id mb hb hL hR hri hd a w G st st' e hg hst hN hev _ fun ms a' w' G' hm hc'=> ?_)
   have:=hQ ms a' w' G' hm hc'
   cases e<;>exact this
 | label l =>
   intro id mc hc hL hR hri _ a w G st st' e hg hst hN hev Q hQ
   simp only[comp,wC]at hc
   subst hc
   simp only[evC,wC,wO]at hev
   obtain⟨rfl,rfl⟩:=hev
   exact wpIn_label (hQ [] a w G (fun _=>rfl) ⟨Kept.refl w,Move.refl hst.inv,hst,rfl,rfl,fun _ _ _ r h=>⟨r,h,Rg.le_refl r⟩,.nil⟩)
 | goto l=>intro id mc hc _ _ _ _ a w G st st' e _ _ _ hev;simp only[comp,wC]at hc;subst hc;simp[evC]at hev
 | refuse w=>intro id mc hc _ _ _ _ a w G st st' e _ _ _ hev;simp only[comp,wC]at hc;subst hc;simp[evC]at hev
theorem ze8 {L:Prop}(S:Setting P F n gl cl)(c:Code)(id:Nat)(mc:MC)(hc:comp P an id c=some mc)(hrf:zcm mc=false)(hL:L->mcLt mc=true)(hd:zc4 N c=true)(a:Act)(w:World)(G:Gh)(st st':St)(e:Ex)(hg:GlOk w.heap G gl)(hst:StOk w.heap G st a.tmps)
  (hN:a.tmps.size=N) (hev:evC gl cl mc st=some (e,st')) (Q:Exit->Act->World->Prop) (hQ:∀a' w' G',Came L gl a w G st.hp a' w' G' st'->Q (exOf e) a' w'):c.wpIn F n P Q a w :=
 zqy (M:=N) (Nat.le_refl _) S c id mc hc hL (fun h=>by rw[hrf]at h;cases h) (zdb c id mc hc hrf) hd a w G st st' e hg hst hN hev Q fun ms a' w' G' hm hc'=>by
  have:=hm hrf
  subst this
  exact hQ a' w' G' hc'
end Go.Ev
