/-
  Calls. No condition.
-/
import Derived.Test.YtaloneiaejhopaaGreatDoorEvCall1
import Derived.RangeFuncRecord
import Derived.RangeFuncLeaves
import Derived.ProofKit
set_option linter.all false
open Option renaming bind_eq_some_iff->wB,ite_none_right_eq_some->wC,map_eq_some_iff->wD,some.injEq->wE
open List renaming getElem_mem->wF,all_eq_true->wG,getElem?_eq_getElem->wH,length_cons->wJ,mem_cons->wK,mem_append_right->wM,mem_append_left->wN,range->wO,length_append->wP,getElem_range->wQ,getD_eq_getElem?_getD->wR,append_nil->wS,size_toArray->wT,map_map->wU,length_range->wW,flatten_cons->wX,append_assoc->wY,eq_nil_iff_forall_not_mem->wZ,mem_append->w0,getElem_append_right->w2,map_cons->w5,getElem_append_left->w6,range_succ_eq_map->w7,map_congr_left->w8,getElem_of_mem->w9,length_drop->wa,getElem_map->wb,nodup_cons->wd,foldl_cons->we,drop_drop->wg,mem_map->wh
open Nat renaming lt_of_lt_of_le->wi,div_add_mod->wj,mul_comm->wk,le_refl->wm,lt_irrefl->wn,zero_add->wo,not_le->wp
open Bool renaming and_eq_true->wr,false_eq_true->ws
open Go.Sem renaming run_pure->wt,run_bind->wu
open Go.Result renaming andThen_ok->wv
open Array renaming getElem?_eq_some_iff->ww,getD_eq_getD_getElem?->wx,getElem_append_right->wy,getElem_append_left->WA,size_append->WD,length_toList->WF,empty_append->WG,append_empty->WH,getElem?_append_left->WJ,size_setIfInBounds->WK,getElem?_push->WL
open Prod renaming mk.injEq->WM
open Function renaming comp->WN
namespace Go.Ev
open Go
section
variable {im :Im} {P:Program} {F:Fence} {gl:Gl} {cl:Cl} {w:World} {H:aT} {G G':Gh} {st:St}
def EV (P:Program)(f:Nat):Prop:=∃fn,P.funcs[f]? =some fn/\(fn.name== "runtime.NumGoroutine")=false/\fn.body.isNone=false
def O5 (P:Program)(F:Fence)(gl:Gl)(cl:Cl):Prop :=
 ∀(f:Nat) (as:List AV) (imps:Hp) (r:AV) (imps':Hp) (es:List OB),cl f as imps=some (r,imps',es)->EV P f /\
  ∀(n:Nat) (w:World) (vs:Array Value) (G:Gh),Inv w.heap G imps->GlOk w.heap G gl->vs.size=as.length->(∀i (h:i<vs.size) (h':i<as.length),RepV w.heap G vs[i] as[i]) ->
   CallsIn F n P f vs w fun e w'=>∃v G',e= .returned v/\Kept w w'/\Move w.heap G imps w'.heap G' (imps'++cm 0 es)/\(imps≠[]->∀q,SHK<=q->∀r,G'.reg q=some r->∃r0,G.reg q=some r0/\r0.le r)/\RepT w'.heap G' v r
def O4 (P:Program)(F:Fence)(gl:Gl)(cl:Cl):Prop :=
 ∀(f:Nat) (as:List AV) (imps:Hp) (r:AV) (imps':Hp) (es:List OB),(imps≠[]->f<RB)->cl f as imps=some (r,imps',es)->EV P f /\
  ∀(n:Nat) (w:World) (vs:Array Value) (G:Gh),Inv w.heap G imps->GlOk w.heap G gl->vs.size=as.length->(∀i (h:i<vs.size) (h':i<as.length),RepV w.heap G vs[i] as[i]) ->
   CallsIn F n P f vs w fun e w'=>∃v G',e= .returned v/\Kept w w'/\Move w.heap G imps w'.heap G' (imps'++cm 0 es)/\(imps≠[]->∀q,SHK<=q->∀r,G'.reg q=some r->∃r0,G.reg q=some r0/\r0.le r)/\RepT w'.heap G' v r
def Xq (P:Program)(F:Fence)(gl:Gl)(cl:Cl):Prop :=
 ∀(rid:Nat) (as:List AV) (imps:Hp) (r:AV) (imps':Hp) (es:List OB),cl (RB+rid) as imps=some (r,imps',es) ->
  ∀(n:Nat) (w:World) (vs:Array Value) (G:Gh) (b:Nat) (rc:Loop) (vals:List AV),Inv w.heap G imps->GlOk w.heap G gl->vs.size=as.length->(∀i (h:i<vs.size) (h':i<as.length),RepV w.heap G vs[i] as[i]) ->
   imps.get SHK=some (.lp rid vals .ready)->G.reg SHK=some (.blk b .sc)->w.heap[b]? =some (.loop rc) ->
   vs.size=rc.params.size/\RoundIn F n P b rc.fn ((rc.params.zip vs).foldl (fun tmps (t,a)=>tmps.setIfInBounds t a) rc.tmps) rc.assign rc.body w
    fun e w'=>∃v G',e= .returned v/\Kept w w'/\Move w.heap G imps w'.heap G' (imps'++cm 0 es)/\(imps≠[]->∀q,SHK<=q->∀r,G'.reg q=some r->∃r0,G.reg q=some r0/\r0.le r)/\RepT w'.heap G' v r
structure CallOk (P:Program)(F:Fence)(gl:Gl)(cl:Cl):Prop where
 call:O4 P F gl cl
 rnd:Xq P F gl cl
theorem NX {n:Nat}{o:Oper}{a:Act}{hp:Hp}{v:AV}{us:Hp}(hF:∀f,F.fn f)(hnd:∀c,o.op≠.defer c)(h:bX P w G hp (execOp a.eval o) v us){K:Act->World->Prop}{Q:Exit->Act->World->Prop}
  (hK:∀v' w' G',Kept w w'->Step w.heap G hp w'.heap G' (us++hp)->RepT w'.heap G' v' v->K (a.put o.dst v') w'):o.wpIn F n P a w K Q:=by
 obtain⟨v',w',G',hk,hr,hs,hv⟩:=h;unfold Oper.wpIn;refine⟨fun f _=>hF f,?_⟩;rw[Oper.semAt_eq _ _ _ hnd];rcases hr with hr|⟨hr,rfl⟩
 . rw[hr,Oper.uponIn_value];exact hK v' w' G' hk hs hv
 . rw[hr,Oper.uponIn_skip];exact hK undef w' G' hk hs hv
theorem tf {hp:Hp}{d:Nat}:∀{es:List OB} {j:Nat} {us:Hp},cv hp d j es=some us->(∀k o,us.get k=some o↔∃i,∃h:i<es.length,k=d+1000*(j+i)/\es[i]=o) /\
  (∀e∈es,∃sh els,e= .grow sh els)
 | [],j,us,h=>by simp only[cv,wE]at h;subst h;exact⟨fun k o=>by simp[Hp.get],fun e he=>by cases he⟩
 | .grow sh els::es,j,us,h=>by
   simp only[cv]at h;rw[wC]at h;obtain⟨_,h⟩:=h;simp only[wD]at h;obtain⟨r,hr,rfl⟩:=h;obtain⟨g1,g2⟩:=tf hr;refine⟨fun k o=> ?_,fun e he=> ?_⟩
   . rw[Hp.get_cons];by_cases hk:d+1000*j=k
     . simp only[hk,if_true,wE];constructor
       . intro he;exact⟨0,by simp,by omega,he⟩
       . rintro ⟨i,hi,hk',he⟩;have:i=0:=by omega
         subst this;exact he
     . simp only[hk,if_false];rw[g1];constructor
       . rintro ⟨i,hi,hk',he⟩;exact⟨i+1,by simpa using hi,by omega,by simpa using he⟩
       . rintro ⟨i,hi,hk',he⟩
         cases i with
         | zero=>exact absurd (by omega) hk
         | succ i=>exact⟨i,by simpa using hi,by omega,by simpa using he⟩
   . rcases wK.1 he with rfl|he
     . exact⟨sh,els,rfl⟩
     . exact g2 e he
 | .fix _ _::_,_,_,h=>by simp[cv]at h
 | .dead::_,_,_,h=>by simp[cv]at h
 | .lp _ _ _::_,_,_,h=>by simp[cv]at h
mutual
theorem pj (d:Nat):∀(a:AV),a.refs=[]->rn d a=a
 | .agg _,_=>rfl
 | .bool _,_=>rfl
 | .int _ _,_=>rfl
 | .str _,_=>rfl
 | .s _,_=>rfl
 | .lst _ _ _,_=>rfl
 | .cp _ _,_=>rfl
 | .unk,_=>rfl
 | .aggR l,h=>by rw[AV.refs]at h;rw[rn,jC d l h]
 | .tup l,h=>by rw[AV.refs]at h;rw[rn,jC d l h]
 | .sl _ _ _ _,h=>by simp[AV.refs]at h
 | .ptr _ _,h=>by simp[AV.refs]at h
 | .arp _ _ _ _,h=>by simp[AV.refs]at h
 | .fn _ l,h=>by rw[AV.refs]at h;rw[rn,jC d l h]
 | .yld _,h=>by simp[AV.refs]at h
 | .mp _,h=>by simp[AV.refs]at h
theorem jC (d:Nat):∀(l:List AV),AV.refss l=[]->rns d l=l
 | [],_=>rfl
 | a::l,h=>by rw[AV.refss,List.append_eq_nil_iff]at h;rw[rns,pj d a h.1,jC d l h.2]
end
noncomputable def mj (G G':Gh)(size d m:Nat):Gh :=
 {imm:=fun b=>G.imm b\/(size<=b/\G'.imm b)
  yl:=G'.yl
  reg:=fun k=>match G.reg k with
   | some r=>some r
   | none=>if d<=k/\(k-d)%1000=0/\(k-d)/1000<m then G'.reg (20000+(k-d)/1000)else none}
theorem BD {G G':Gh}{size d m i:Nat}(h:G.reg (d+1000*i)=none)(hi:i<m):(mj G G' size d m).reg (d+1000*i)=G'.reg (20000+i):=by
 simp only[mj,h];have e:d+1000*i-d=1000*i:=by omega
 rw[e,if_pos ⟨by omega,by omega,by omega⟩]
 congr 1
 omega
theorem lM {G G':Gh}{size d m k:Nat}{r:Rg}(h:G.reg k=some r):(mj G G' size d m).reg k=some r:=by simp[mj,h]
theorem uy {hp:Hp}{G0:Gh}{w':World}{d:Nat}{es:List OB}{us:Hp}{v:Value}{r:AV}(inv:Inv w.heap G hp)(himm:∀b,G.imm b->G0.imm b)(hyl:G0.yl=G.yl)
  (m:Move w.heap G0 [] w'.heap G' (cm 0 es)) (hv:RepT w'.heap G' v r) (hor:(∀b,G0.imm b->G.imm b)\/(db r=true/\es.all gn=true))
  (hus:cv hp d 0 es=some us):∃G'',Step w.heap G hp w'.heap G'' (us++hp)/\RepT w'.heap G'' v (rn d r):=by
 obtain⟨hget,hgrow⟩:=tf hus;have hfresh:=(gS (hp':=hp) hus fun _ _ _ h=>h).2;have hnone:∀i,i<es.length->hp.get (d+1000*i)=none:=fun i hi=>by have:=(hget (d+1000*i) es[i]).2 ⟨i,hi,by omega,rfl⟩;exact hfresh _ _ (Hp.get_mem this)
 have hregn:∀i,i<es.length->G.reg (d+1000*i)=none:=fun i hi=>inv.out _ (hnone i hi)
 have hnl:∀b,¬bG G0 [] b:=fun b ⟨k,r,⟨o,ho,_⟩,_⟩=>by cases ho
 have hsame:∀b,b<w.heap.size->w'.heap[b]? =w.heap[b]? :=fun b hb=>m.same b hb (hnl b)
 have hnew:∀k b rr,aN (cm 0 es) k->G'.At k b rr->w.heap.size<=b:=fun k b rr hl hr=>by
  rcases m.live b ⟨k,rr,hl,hr⟩with h|h
  . exact absurd h (hnl b)
  . exact h
 let G2:=mj G G' w.heap.size d es.length
 have hreg2:∀i,i<es.length->G2.reg (d+1000*i)=G'.reg (20000+i):=fun i hi=>BD (hregn i hi) hi
 have hle:Le w.heap G w'.heap G2:=⟨fun b hb=>⟨.inl hb,(m.imm b (himm b hb)).2⟩,fv fun k rr h=>lM h,fun i l h=>m.yl i l (hyl▸h)⟩;have himm2:(∀b,G0.imm b->G.imm b)->∀b,G'.imm b->G2.imm b:=fun h b hb=>by
  rcases m.immNew b hb with h1|h1|h1
  . exact .inl (h b h1)
  . exact .inr ⟨h1,hb⟩
  . exact absurd h1 (hnl b)
 have hcase:∀k o,(us++hp).get k=some o->(∃i,∃h:i<es.length,k=d+1000*i/\es[i]=o)\/hp.get k=some o:=fun k o hk=>by
  rw[Hp.get_append]at hk;split at hk
  . rename_i o' ho';cases hk;obtain⟨i,hi,h1,h2⟩:=(hget k o).1 ho';exact .inl ⟨i,hi,by omega,h2⟩
  . exact .inr hk
 have hlcase:∀k b rr,aN (us++hp) k->G2.At k b rr->(∃i,i<es.length/\k=d+1000*i/\aN (cm 0 es) (20000+i)/\G'.At (20000+i) b rr)\/(aN hp k/\G.At k b rr):=by
  rintro k b rr ⟨o,ho,hd⟩ hr;rcases hcase k o ho with ⟨i,hi,rfl,he⟩|ho
  . left;refine⟨i,hi,rfl,⟨o,dK.2 ⟨i,hi,by omega,he⟩,hd⟩,?_⟩;exact(Gh.at_congr (hreg2 i hi).symm).2 hr
  . right;refine⟨⟨o,ho,hd⟩,?_⟩
    cases hg:G.reg k with
    | some r'=>exact(Gh.at_congr (hg.trans (show G2.reg k=some r' from lM hg).symm)).2 hr
    | none =>exfalso;obtain⟨r',h'⟩:=inv.get_reg ho;rw[hg]at h';cases h'
 have hL:∀b,bG G2 (us++hp) b->bG G hp b\/(w.heap.size<=b/\bG G' (cm 0 es) b):=by
  rintro b ⟨k,rr,hl,hr⟩;rcases hlcase k b rr hl hr with ⟨i,hi,_,h1,h2⟩|⟨h1,h2⟩
  . exact .inr ⟨hnew _ b rr h1 h2,⟨_,rr,h1,h2⟩⟩
  . exact .inl ⟨k,rr,h1,h2⟩
 refine⟨G2,⟨⟨?_,?_,?_,?_,?_⟩,hle,m.size,fun b hb _=>hsame b hb,fun b hb=>(hL b hb).imp id And.left,fun b hb=> ?_⟩,?_⟩
 . intro k o hk;rcases hcase k o hk with ⟨i,hi,rfl,rfl⟩|hk
   . obtain⟨sh,els,he⟩:=hgrow es[i] (wF hi);have hob:=m.inv.obs (20000+i) es[i] (dK.2 ⟨i,hi,by omega,rfl⟩);rw[he]at hob ⊢;rcases hob with ⟨h1,h2⟩|⟨b,cap,c,e,fz,h1,h2,h3,h4,h5,h6,h7⟩
     . exact .inl ⟨h1,(hreg2 i hi).trans h2⟩
     . refine .inr ⟨b,cap,c,e,fz,(hreg2 i hi).trans h1,h2,h3,h4,h5,h6,fun j hj=> ?_⟩;obtain⟨u,hu1,hu2⟩:=h7 j hj;refine⟨u,hu1,?_⟩;have hno:∀k∈(AV.flats els)[j].refs,False:=fun k hk=>by rw[cz els ((AV.wfp_iff els).2 fun x hx=>(h6 x hx).2) _ (wF hj)]at hk;cases hk
       have hr:=hu2.rename (G':=G2) (d:=0) (fun hni=> ?_) (fun i l h=>h) fun k hk=>(hno k hk).elim
       . rwa [pj 0 _ (wZ.2 hno)]at hr
       . rcases hor with h|⟨_,h⟩
         . exact himm2 h
         . exfalso;rw[wG]at h;have:=h es[i] (wF hi);rw[he]at this;simp only[gn]at this;rw[gO els this _ (wF hj)]at hni;cases hni
   . exact ObOk.mono hle (fun hl b rr hr=>hsame b (inv.lt b ⟨k,rr,hl,hr⟩)) (fun _ h=>lM h) hk (inv.obs k o hk)
 . intro k hk;rw[Hp.get_append]at hk;split at hk
   . cases hk
   . rename_i hu;have h1:=inv.out k hk;simp only[G2,mj,h1];rw[if_neg];rintro ⟨h2,h3,h4⟩;have hk':k=d+1000*(0+(k-d)/1000):=by omega
     have:=(hget k es[(k-d)/1000]).2 ⟨(k-d)/1000,h4,hk',rfl⟩;rw[hu]at this;cases this
 . intro k k' b rr rr' hr hr' hl hl';rcases hlcase k b rr hl hr with ⟨i,hi,rfl,h1,h2⟩|⟨h1,h2⟩
   . rcases hlcase k' b rr' hl' hr' with ⟨i',hi',rfl,h1',h2'⟩|⟨h1',h2'⟩
     . have:=m.inv.dist _ _ b rr rr' h2 h2' h1 h1';have:i=i':=by omega
       rw[this]
     . have e1:=hnew _ b rr h1 h2;have e2:=inv.lt b ⟨k',rr',h1',h2'⟩;omega
   . rcases hlcase k' b rr' hl' hr' with ⟨i',hi',rfl,h1',h2'⟩|⟨h1',h2'⟩
     . have e1:=hnew _ b rr' h1' h2';have e2:=inv.lt b ⟨k,rr,h1,h2⟩;omega
     . exact inv.dist k k' b rr rr' h2 h2' h1 h1'
 . intro b hb;rcases hb with hb|⟨hs,hb⟩
   . have h1:=inv.imm b hb;refine⟨wi h1.1 m.size,fun hl=> ?_⟩;rcases hL b hl with h|⟨h,_⟩
     . exact h1.2 h
     . omega
   . have h1:=m.inv.imm b hb;refine⟨h1.1,fun hl=> ?_⟩;rcases hL b hl with h|⟨_,h⟩
     . have:=inv.lt b h;omega
     . exact h1.2 h
 . intro b hb;rcases hL b hb with h|⟨_,h⟩
   . exact wi (inv.lt b h) m.size
   . exact m.inv.lt b h
 . rcases hb with hb|⟨hs,_⟩
   . exact .inl hb
   . exact .inr (.inl hs)
 . refine hv.rename (hor.symm.imp And.left himm2) (fun i l h=>h) fun k hk=> ?_
   obtain⟨rr,hr⟩:=hv.known_refs k hk;obtain⟨o,ho⟩:=m.inv.reg_get hr;obtain⟨i,hi,hk',_⟩:=dK.1 ho;have e:ren d k=d+1000*i:=by unfold ren;rw[if_pos (by omega)];omega
   rw[e,hreg2 i hi]
   congr 1
   omega
def td (G:Gh)(hp:Hp)(all:Bool):Gh:={imm:=fun b=>G.imm b\/(all=true/\bG G hp b),yl:=G.yl,reg:=fun _=>none}
theorem tc {hp:Hp}(inv:Inv H G hp)(all:Bool):Inv H (td G hp all) [] where
 obs k o h:=by cases h
 out k _:=rfl
 dist k k' b r r' _ _ h:=by obtain⟨o,ho,_⟩:=h;cases ho
 imm b hb:=⟨by
  rcases hb with hb|⟨_,hb⟩
  . exact(inv.imm b hb).1
  . exact inv.lt b hb,fun⟨k,r,⟨o,ho,_⟩,_⟩=>by cases ho⟩
 lt b hb:=by obtain⟨k,r,⟨o,ho,_⟩,_⟩:=hb;cases ho
theorem Cn {hp:Hp}{n:Nat}{a:AV}(h:a.plain=true):aW hp n a=some a:=by cases n<;>simp[aW,h]
theorem qo {hp:Hp}{n:Nat}:∀{l:List AV},AV.plains l=true->bw (aW hp n) l=some l
 | [],_=>rfl
 | a::l,h=>by simp only[AV.plains,wr]at h;simp[bw,Cn h.1,qo h.2]
theorem vk (gl:Gl){fr:Fr}:∀{l:List Opd} {i:Nat} (h:i<(vals gl fr l).length) (h':i<l.length),(vals gl fr l)[i]=l[i].val gl fr
 | x::l,0,_,_=>rfl
 | x::l,i+1,h,h'=>by have:=vk gl (fr:=fr) (l:=l) (i:=i) (by simpa[vals]using h) (by simpa using h');simpa[vals]using this
theorem kC {fr:Fr}:∀{l:List Opd},(vals gl fr l).length=l.length
 | []=>rfl
 | x::l=>by simp[vals,kC (l:=l)]
theorem FG (hF:∀f,F.fn f)(hdep:F.depth=none)(hcall:CallOk P F gl cl){n:Nat}{o:Oper}{c:Call}{a:Act}{x:Operand}{f d:Nat}{fs cs:Array Value}{args:List AV}{v:AV}{us:Hp}{tmps:Array Value}
  (ho:o.op= .call c) (hc:c.callee= .value x) (hx:a.eval x= .func (.func f) fs cs) (hg:GlOk w.heap G gl) (hst:StOk w.heap G st tmps)
  (hargs:(fs++c.args.map a.eval++cs).size=args.length) (hrep:∀i (h:i<(fs++c.args.map a.eval++cs).size) (h':i<args.length),RepT w.heap G (fs++c.args.map a.eval++cs)[i] args[i])
  (h:dg cl st.hp d f args .lend=some (v,us)) {K:Act->World->Prop} {Q:Exit->Act->World->Prop}
  (hK:∀v' w' G',Kept w w'->Step w.heap G st.hp w'.heap G' (us++st.hp)->RepT w'.heap G' v' v->K (a.put o.dst v') w'):o.wpIn F n P a w K Q:=by
 obtain⟨as,r,es,has,hcl,hor,hres⟩:=iQ h;obtain⟨⟨fn,hfn,hname,hbody⟩,hcalls⟩:=hcall.call f as [] r [] es (fun h=>absurd rfl h) hcl;have hrun:(execOp a.eval o).run P w= .ok (.enter f (fs++c.args.map a.eval++cs)) w:=by
  have hcf:(callFunc f (fs++c.args.map a.eval++cs)).run P w= .ok (.enter f (fs++c.args.map a.eval++cs)) w:=by have hp:(program:Sem Program).run P w= .ok P w:=rfl;simp only[callFunc,wu,hp,wv,hfn,hname,hbody,ws,if_false,wt]
  simp only[execOp,ho,resolve,hc,hx,Deferred.ofValue,wu,wt,wv,invoke,hcf]
 unfold Oper.wpIn;refine⟨fun f _=>hF f,?_⟩;rw[Oper.semAt_eq _ _ _ (by rw[ho];intro c h;cases h),hrun,Oper.uponIn_enter];refine⟨fun h=>(by rw[hdep]at h;cases h),?_⟩;obtain⟨G0,inv0,himm0,hyl0,hor0,hlent⟩:∃G0,Inv w.heap G0 []/\(∀b,G.imm b->G0.imm b)/\G0.yl=G.yl/\((∀b,G0.imm b->G.imm b)\/(db r=true/\es.all gn=true)) /\
   ∀i (h:i<(fs++c.args.map a.eval++cs).size) (h':i<as.length),RepV w.heap G0 (fs++c.args.map a.eval++cs)[i] as[i]:=by
  have hlen:=(eR has).1;rcases hor with hpl|hor
  . refine⟨td G st.hp false,tc hst.inv false,fun b h=>.inl h,rfl,.inl (fun b h=>h.resolve_right (fun h=>by cases h.1)),fun i hi hi'=> ?_⟩;rw[qo hpl]at has;cases has
    have hp:args[i].plain=true:=by
     have:∀(l:List AV),AV.plains l=true->∀x∈l,x.plain=true:=by
      intro l
      induction l with
      | nil=>intro _ x hx;cases hx
      | cons b l ih =>
        intro h x hx;simp only[AV.plains,wr]at h;rcases wK.1 hx with rfl|hx
        . exact h.1
        . exact ih h.2 x hx
     exact this args hpl _ (wF hi')
    have hk:args[i].known=true:=by revert hp;cases args[i]<;>simp[AV.plain,AV.known]
    exact((RepT.of_known hk).1 (hrep i hi hi')).cut (G':=td G st.hp false) (fun b h=>.inl h) (fun i l h=>h) fun k hk=>by rw[AV.plain_refs hp]at hk;cases hk
  . refine⟨td G st.hp true,tc hst.inv true,fun b h=>.inl h,rfl,.inr hor,fun i hi hi'=> ?_⟩;have hl:=(eR has).2 i (by omega) hi';exact AC (G':=td G st.hp true) hst.inv (fun b h=>.inl h) (fun b h=>.inr ⟨rfl,h⟩) (fun i l h=>h) hl ((RepT.of_known (s9 hl)).1 (hrep i hi (by omega)))
 refine(hcalls (n-1) w _ G0 inv0 (hg.move (fun b hb=>⟨himm0 b hb,rfl⟩) fun i l h=>hyl0▸h) (by rw[hargs,(eR has).1]) hlent).mono ?_;rintro e w' ⟨v0,G',rfl,hkept,hm,-,hv⟩;simp only;rcases hres with ⟨rfl,rfl,rfl⟩|⟨rfl,hus⟩
 . obtain⟨G2,h1,h2⟩:=uy (d:=d) (us:=[]) hst.inv himm0 hyl0 hm hv hor0 rfl;refine hK v0 w' G2 hkept h1 ?_
   rwa [pj d v]at h2
   refine wZ.2 fun k hk=> ?_
   obtain⟨rr,hr⟩:=hv.known_refs k hk;obtain⟨o,ho⟩:=hm.inv.reg_get hr;simp[cm,Hp.get]at ho
 . obtain⟨G2,h1,h2⟩:=uy hst.inv himm0 hyl0 hm hv hor0 hus;exact hK v0 w' G2 hkept h1 h2
theorem jP :∀{l:List AV},AV.knowns l=true->∀x∈l,x.known=true
 | [],_,x,hx=>by cases hx
 | b::l,h,x,hx=>by
   simp only[AV.knowns,wr]at h;rcases wK.1 hx with rfl|hx
   . exact h.1
   . exact jP h.2 x hx
theorem JO (hF:∀f,F.fn f)(hdep:F.depth=none)(hcall:CallOk P F gl cl){n:Nat}{o:Oper}{c:Call}{a:Act}{x:Operand}{f d:Nat}{fs cs:Array Value}{args:List AV}{v:AV}{us:Hp}{tmps:Array Value}
  (ho:o.op= .call c) (hc:c.callee= .value x) (hx:a.eval x= .func (.func f) fs cs) (hg:GlOk w.heap G gl) (hst:StOk w.heap G st tmps)
  (hargs:(fs++c.args.map a.eval++cs).size=args.length) (hrep:∀i (h:i<(fs++c.args.map a.eval++cs).size) (h':i<args.length),RepT w.heap G (fs++c.args.map a.eval++cs)[i] args[i])
  (h:dg cl st.hp d f args .imp=some (v,us)) {K:Act->World->Prop} {Q:Exit->Act->World->Prop}
  (hK:∀v' w' G',Kept w w'->Step w.heap G st.hp w'.heap G' (us++st.hp)->RepT w'.heap G' v' v->K (a.put o.dst v') w'):o.wpIn F n P a w K Q:=by
 simp only[dg,wC]at h;obtain⟨hfb,h⟩:=h;obtain⟨⟨h1,h2,h4,hkn⟩,r,hp2,es,us',h5,h6,h7,rfl,rfl⟩:=dF h;generalize hks:aZ st.hp (AV.refss args)=ks at *
 rw[dJ]at h4;obtain⟨⟨fn,hfn,hname,hbody⟩,hcalls⟩:=hcall.call f _ _ _ _ _ (fun _=>hfb) h5;have hrun:(execOp a.eval o).run P w= .ok (.enter f (fs++c.args.map a.eval++cs)) w:=by
  have hcf:(callFunc f (fs++c.args.map a.eval++cs)).run P w= .ok (.enter f (fs++c.args.map a.eval++cs)) w:=by have hp:(program:Sem Program).run P w= .ok P w:=rfl;simp only[callFunc,wu,hp,wv,hfn,hname,hbody,ws,if_false,wt]
  simp only[execOp,ho,resolve,hc,hx,Deferred.ofValue,wu,wt,wv,invoke,hcf]
 unfold Oper.wpIn;refine⟨fun f _=>hF f,?_⟩;rw[Oper.semAt_eq _ _ _ (by rw[ho];intro c h;cases h),hrun,Oper.uponIn_enter];refine⟨fun h=>(by rw[hdep]at h;cases h),?_⟩;have hlen:(rAs (up ks) args).length=args.length:=bI _ _;refine(hcalls (n-1) w _ (kD G ks) (BN hst.inv h1) (hg.move (fun b hb=>⟨hb,rfl⟩) fun i l h=>h) (by rw[hargs,hlen]) fun i hi hi'=> ?_).mono ?_
 . have hi2:i<args.length:=by rw[hlen]at hi';exact hi'
   have e:(rAs (up ks) args)[i]=rA (up ks) args[i]:=by simp[dz]
   rw[e];refine BM ((RepT.of_known (jP hkn _ (wF hi2))).1 (hrep i hi hi2)) fun k hk=> ?_
   rw[wG]at h2;have:=h2 k (bL (wF hi2) hk);simpa using this
 . rintro e w' ⟨v0,G',rfl,hkept,hm,hh,hv⟩;simp only;obtain⟨G2,g1,g2⟩:=p6 hst.inv h4 h1 hm (fun hne q hq r hr=>hh (by cases ks with|nil=>exact absurd rfl hne|cons k l=>simp[iU]) q hq r hr) h6 h7 hv;exact hK v0 w' G2 hkept g1 g2
theorem ux (hF:∀f,F.fn f)(hdep:F.depth=none)(hcall:CallOk P F gl cl){n:Nat}{o:Oper}{c:Call}{a:Act}{x:Operand}{f d:Nat}{fs cs:Array Value}{args:List AV}{v:AV}{us:Hp}{tmps:Array Value}{md:Mode}
  (ho:o.op= .call c) (hc:c.callee= .value x) (hx:a.eval x= .func (.func f) fs cs) (hg:GlOk w.heap G gl) (hst:StOk w.heap G st tmps)
  (hargs:(fs++c.args.map a.eval++cs).size=args.length) (hrep:∀i (h:i<(fs++c.args.map a.eval++cs).size) (h':i<args.length),RepT w.heap G (fs++c.args.map a.eval++cs)[i] args[i])
  (h:dg cl st.hp d f args md=some (v,us)) {K:Act->World->Prop} {Q:Exit->Act->World->Prop}
  (hK:∀v' w' G',Kept w w'->Step w.heap G st.hp w'.heap G' (us++st.hp)->RepT w'.heap G' v' v->K (a.put o.dst v') w'):o.wpIn F n P a w K Q:=by
 cases md with
 | lend=>exact FG hF hdep hcall ho hc hx hg hst hargs hrep h hK
 | imp=>exact JO hF hdep hcall ho hc hx hg hst hargs hrep h hK
theorem IR (hg:GlOk w.heap G gl){a:Act}(hst:StOk w.heap G st a.tmps){xs:Array Operand}{ys:List Opd}(h:bw aw xs.toList=some ys) :
  (xs.map a.eval).size=(vals gl st.fr ys).length/\∀i (h:i<(xs.map a.eval).size) (h':i<(vals gl st.fr ys).length),RepT w.heap G (xs.map a.eval)[i] (vals gl st.fr ys)[i]:=by
 obtain⟨h1,h2⟩:=eR h;have hl:(vals gl st.fr ys).length=xs.size:=by rw[kC,h1];simp
 refine⟨by simp[hl],fun i hi hi'=> ?_⟩;have hi1:i<xs.size:=by simpa using hi
 have hi2:i<ys.length:=by rw[kC]at hi';exact hi'
 rw[vk gl hi' hi2,Array.getElem_map];exact aG hg hst (h2 i (by simpa using hi1) hi2)
theorem Bm {o:Oper}{m:MOp}{c:Call}(hc:aF P im o=some m)(ho:o.op= .call c)(hn:gZ m=true):∃args,bw aw c.args.toList=some args /\
  ((∃f md,c.callee= .value (.func f)/\m= .call f args md)\/(∃t md,c.callee= .value (.tmp t)/\m= .callv (.t t) args md)):=by
 simp only[aF,ho,wB]at hc;obtain⟨args,hargs,hc⟩:=hc;refine⟨args,hargs,?_⟩;split at hc
 . rename_i f hf;cases hc;exact .inl ⟨f,_,hf,rfl⟩
 . rename_i t ht;cases hc;exact .inr ⟨t,_,ht,rfl⟩
 . exfalso;split at hc
   . split at hc<;>first|(cases hc;cases hn;done)|cases hc
   . cases hc
 . exfalso;split at hc
   . split at hc
     . simp only[wB,wD]at hc;obtain⟨_,_,_,_,hc⟩:=hc
       repeat' (first|(cases hc;cases hn;done)|(cases hc;done)|split at hc)
     . simp only[wB,wD]at hc;obtain⟨_,_,_,_,rfl⟩:=hc;cases hn
     . simp only[wB,wD]at hc;obtain⟨_,_,_,_,rfl⟩:=hc;cases hn
     . cases hc
   . cases hc
 . exfalso;split at hc
   . split at hc
     . simp only[wD]at hc;obtain⟨_,_,rfl⟩:=hc;cases hn
     . cases hc
   . cases hc
 . exfalso;split at hc
   . split at hc
     . simp only[wD]at hc;obtain⟨_,_,rfl⟩:=hc;cases hn
     . cases hc
   . cases hc
 . exfalso;split at hc
   . split at hc
     . cases hc;cases hn
     . cases hc
   . cases hc
 . exfalso;split at hc
   . simp only[wD]at hc;obtain⟨_,_,rfl⟩:=hc;cases hn
   . cases hc
 . cases hc;cases hn
 . cases hc;cases hn
 . cases hc
theorem jE {hp:Hp}:∀{n:Nat} {l acc:List Nat},∃t,eo hp n l acc=acc++t
 | 0,l,acc=>⟨[],by simp[eo]⟩
 | n+1,[],acc=>⟨[],by simp[eo]⟩
 | n+1,k::l,acc=>by
   rw[eo];split
   . exact jE
   . obtain⟨t,ht⟩:=jE (hp:=hp) (n:=n) (l:=er (hp.get k)++l) (acc:=acc++[k]);exact⟨k::t,by rw[ht,wY];rfl⟩
theorem xX {hp:Hp}{q:Nat}{l:List Nat}:∃t,aZ hp (q::l)=q::t:=by unfold aZ;rw[eo,if_neg (by simp)];exact jE
theorem zU {b:Nat}{rc:Loop}{o:Oper}{c:Call}{a:Act}{x:Operand}(ho:o.op= .call c)(hc:c.callee= .value x)(hx:a.eval x= .func (.yield b) #[] #[])(hb:w.heap[b]? =some (.loop rc))(hn:(c.args.map a.eval).size=rc.params.size) :
  (execOp a.eval o).run P w= .ok (.round b rc.fn ((rc.params.zip (c.args.map a.eval)).foldl (fun tmps (t,a)=>tmps.setIfInBounds t a) rc.tmps) rc.assign rc.body) w:=by
 have h:=run_yield (P:=P) (args:=c.args.map a.eval) hb hn;simp only[execOp,ho,resolve,hc,hx,Deferred.ofValue,wu,wt,wv,WG,WH,invoke,h]
theorem zC (hF:∀f,F.fn f)(hdep:F.depth=none)(hcall:CallOk P F gl cl){n:Nat}{o:Oper}{c:Call}{a:Act}{x:Operand}{b d q rid:Nat}{args vals:List AV}{v:AV}{us hp:Hp}
  (ho:o.op= .call c) (hc:c.callee= .value x) (hx:a.eval x= .func (.yield b) #[] #[]) (hq:G.reg q=some (.blk b .sc)) (hg:GlOk w.heap G gl) (inv:Inv w.heap G hp)
  (hargs:(c.args.map a.eval).size=args.length) (hrep:∀i (h:i<(c.args.map a.eval).size) (h':i<args.length),RepT w.heap G (c.args.map a.eval)[i] args[i])
  (hrec:hp.get q=some (.lp rid vals .ready)) (h:dq cl hp d (RB+rid) args (aZ hp (q::AV.refss args))=some (v,us)) {K:Act->World->Prop} {Q:Exit->Act->World->Prop}
  (hK:∀v' w' G',Kept w w'->Step w.heap G hp w'.heap G' (us++hp)->RepT w'.heap G' v' v->K (a.put o.dst v') w'):o.wpIn F n P a w K Q:=by
 obtain⟨⟨h1,h2,h4,hkn⟩,r,hp2,es,us',h5,h6,h7,rfl,rfl⟩:=dF h;obtain⟨t,hks⟩:=xX (hp:=hp) (q:=q) (l:=AV.refss args);generalize aZ hp (q::AV.refss args)=ks at *
 rw[dJ]at h4;obtain⟨b',rc,info,hr,hb,hy,hrc,hv⟩:=inv.obs q _ hrec;obtain rfl:b'=b:=by rw[hq]at hr;cases hr;rfl
 have hqk:q∈ks:=by rw[hks];simp
 have hup:up ks q=SHK:=by rw[hks,up,idx,if_pos rfl];rfl
 have hget:=rG (hp:=hp) (all:=ks) hqk (fun _ h=>h) hqk;rw[hup,jT,hrec]at hget;have hreg:(kD G ks).reg SHK=some (.blk b' .sc):=by rw[<-hup,ja hqk];exact hq
 have hlen:(rAs (up ks) args).length=args.length:=bI _ _;obtain⟨hsz,hrnd⟩:=hcall.rnd rid _ _ _ _ _ h5 (n-1) w (c.args.map a.eval) (kD G ks) b' rc _ (BN inv h1) (hg.move (fun b hb=>⟨hb,rfl⟩) fun i l h=>h) (by rw[hargs,hlen]) (fun i hi hi'=>by
  have hi2:i<args.length:=by rw[hlen]at hi';exact hi'
  have e:(rAs (up ks) args)[i]=rA (up ks) args[i]:=by simp[dz]
  rw[e];refine BM ((RepT.of_known (jP hkn _ (wF hi2))).1 (hrep i hi hi2)) fun k hk=> ?_
  rw[wG]at h2;have:=h2 k (bL (wF hi2) hk);simpa using this) hget hreg hb
 unfold Oper.wpIn;refine⟨fun f _=>hF f,?_⟩;rw[Oper.semAt_eq _ _ _ (by rw[ho];intro c h;cases h),zU ho hc hx hb hsz,Oper.uponIn_round];refine⟨fun h=>(by rw[hdep]at h;cases h),hrnd.mono ?_⟩;rintro e w' ⟨v0,G',rfl,hkept,hm,hh,hv⟩;simp only;obtain⟨G2,g1,g2⟩:=p6 inv h4 h1 hm (fun hne q hq r hr=>hh (by cases ks with|nil=>exact absurd rfl hne|cons k l=>simp[iU]) q hq r hr) h6 h7 hv;exact hK v0 w' G2 hkept g1 g2
theorem l7 {hp:Hp}:∀{l:List AV},(cg hp l).1.length=l.length
 | []=>rfl
 | x::l=>by rw[cg,wJ,wJ,l7]
theorem xa {H:aT}{hp:Hp}(inv:Inv H G hp){K:List Nat}:∀{l:List AV},(∀k∈(cg hp l).2,k∈K)->∀i (h:i<l.length) (h':i<(cg hp l).1.length) v,RepT H G v l[i]->RepT H (nf G K) v (cg hp l).1[i]
 | [],_,i,h,_,_,_=>by simp at h
 | x::l,hK,i,h,h',v,hv=>by
   simp only[cg]at hK ⊢
   cases i with
   | zero =>
     simp only[List.getElem_cons_zero]at hv ⊢
     cases hx:gX hp x with
     | none=>exact hv.mono (iP H G K)
     | some z =>
       obtain⟨y,ks⟩:=z;have hv':RepS H G v x:=by cases x<;>first|exact(aq rfl).1 hv|cases hx
       obtain⟨h1,⟨f,s,l',rfl⟩,_⟩:=Ew inv hx (fun k hk=>hK k (wN _ (by rw[hx];exact hk))) hv';exact(aq rfl).2 h1
   | succ i=>exact xa inv (fun k hk=>hK k (wM _ hk)) i (by simpa using h) (by simpa[cg]using h') v hv
theorem BE (hF:∀f,F.fn f)(hdep:F.depth=none)(hcall:CallOk P F gl cl){n:Nat}{o:Oper}{c:Call}{a:Act}{x:Operand}{b d q:Nat}{args:List AV}{v:AV}{us:Hp}{tmps:Array Value}{m:Mode}
  (ho:o.op= .call c) (hc:c.callee= .value x) (hx:a.eval x= .func (.yield b) #[] #[]) (hq:G.reg q=some (.blk b .sc)) (hg:GlOk w.heap G gl) (hst:StOk w.heap G st tmps)
  (hargs:(c.args.map a.eval).size=args.length) (hrep:∀i (h:i<(c.args.map a.eval).size) (h':i<args.length),RepT w.heap G (c.args.map a.eval)[i] args[i])
  (h:gq cl st.hp d q args m=some (v,us)) {K:Act->World->Prop} {Q:Exit->Act->World->Prop}
  (hK:∀v' w' G',Kept w w'->Step w.heap G st.hp w'.heap G' (us++st.hp)->RepT w'.heap G' v' v->K (a.put o.dst v') w'):o.wpIn F n P a w K Q:=by
 obtain⟨_,rid,vals,us',hrec,_,_,h3,rfl⟩:=eI h;have inv:=hst.inv;have hlive:∀k∈(cg st.hp args).2,aN st.hp k:=fun k hk=>(g9 k hk).2
 have inv1:=tt inv hlive;have le1:=iP w.heap G (cg st.hp args).2;have step1:Step w.heap G st.hp w.heap (nf G (cg st.hp args).2) (ct (cg st.hp args).2++st.hp):=⟨inv1,le1,wm _,fun _ _ _=>rfl,fun b ⟨j,r,l,hat⟩=>.inl ⟨j,r,(dx l).2,hat⟩,fun b hb=>by
  rcases hb with hb|⟨j,hj,r,hat⟩
  . exact .inl hb
  . exact .inr (.inr ⟨j,r,hlive j hj,hat⟩)⟩
 have hq1:(ct (cg st.hp args).2++st.hp).get q=some (.lp rid vals .ready):=by rw[cQ,if_neg (fun hm=> ?_)];exact hrec;obtain⟨k,hk⟩:=tG q hm;rw[hrec]at hk;cases hk.choose_spec
 exact zC (G:=nf G (cg st.hp args).2) hF hdep hcall ho hc hx hq (hg.mono le1) inv1 (by rw[l7];exact hargs) (fun i hi hi'=>xa inv (fun _ h=>h) i (by rw[l7]at hi';exact hi') hi' _ (hrep i hi (by rw[l7]at hi';exact hi'))) hq1 h3
  fun v' w' G' k1 k2 k3=>hK v' w' G' k1 (by rw[wY];exact step1.trans k2) k3
theorem iH :∀{l:List AV},AV.scalars l=true->∀x∈l,x.scalar=true
 | [],_,x,hx=>by cases hx
 | b::l,h,x,hx=>by
   simp only[AV.scalars,wr]at h;rcases wK.1 hx with rfl|hx
   . exact h.1
   . exact iH h.2 x hx
theorem gu (hF:∀f,F.fn f)(hdep:F.depth=none)(hcall:CallOk P F gl cl)(n:Nat):zA F n P gl cl:=by
 intro im o m a w G st v us hg hst hc hs K Q hK;have hnd:∀c,o.op≠.defer c:=fun c h=>by simp[aF,h]at hc
 by_cases hn:∀c,o.op= .call c->gZ m=false
 . exact NX hF hnd (NZ hg hst hc hn hs) hK
 . have:∃c,o.op= .call c/\gZ m=true:=by
    apply Classical.byContradiction;intro h;exact hn fun c ho=>by
     cases hm:gZ m with
     | false=>rfl
     | true=>exact absurd ⟨c,ho,hm⟩ h
   obtain⟨c,ho,hn⟩:=this;obtain⟨args,hargs,hor⟩:=Bm hc ho hn;obtain⟨hl,hr⟩:=IR hg hst hargs;rcases hor with ⟨f,md,hcal,rfl⟩|⟨t,md,hcal,rfl⟩
   . simp only[af]at hs;split at hs
     . rename_i k _;refine ux hF hdep hcall ho hcal (fs:= #[]) (cs:= #[]) rfl hg hst (args:=vals gl st.fr args) (by simpa using hl) (fun i h h'=> ?_) hs hK;have:=hr i (by simpa using h) h';simpa using this
     . cases hs
   . simp only[af]at hs;split at hs
     . rename_i k f caps _ hf;have hv:=hst.fr t;rw[show Opd.val gl st.fr (.t t)=st.fr.get t from rfl]at hf;rw[hf,aq rfl]at hv;generalize hvt:a.tmps.getD t undef=vt at hv
       cases hv with
       | fn _ _ _ vs he hn hsc val hval hrr =>
         have hvv:∀j (hj:j<vs.size),vs[j]=val j:=fun j hj=>(ww.1 (hval j (by omega))).2
         by_cases hb:f<MB
         . rw[fnV,if_pos hb]at he;rw[cvF,cvA,if_pos hb,if_pos hb]at hs;refine ux hF hdep hcall ho hcal (fs:= #[]) (cs:=vs) (hvt.trans he.symm) hg hst (args:=vals gl st.fr args++caps) (by simp only[WG,WD,wP];omega) (fun i h h'=> ?_) hs hK;simp only[WG]at h ⊢;rw[WD]at h;by_cases hi:i<(c.args.map a.eval).size
           . rw[WA hi,w6 (by omega)];exact hr i hi (by omega)
           . have hi2:i-(vals gl st.fr args).length<caps.length:=by rw[wP]at h';omega
             rw[wy (by omega),w2 (by omega)];have hk:caps[i-(vals gl st.fr args).length].scalar=true:=iH hsc _ (wF hi2);have e:vs[i-(c.args.map a.eval).size]'(by omega)=val (i-(vals gl st.fr args).length):=by rw[hvv];congr 1;omega
             rw[e,aq hk];exact hrr _ hi2
         . rw[fnV,if_neg hb]at he;rw[cvF,cvA,if_neg hb,if_neg hb]at hs;refine ux hF hdep hcall ho hcal (fs:=vs) (cs:= #[]) (hvt.trans he.symm) hg hst (args:=caps++vals gl st.fr args) (by simp only[WH,WD,wP];omega) (fun i h h'=> ?_) hs hK;simp only[WH]at h ⊢;rw[WD]at h;by_cases hi:i<vs.size
           . have hi2:i<caps.length:=by omega
             rw[WA hi,w6 hi2,hvv,aq (iH hsc _ (wF hi2))];exact hrr _ hi2
           . rw[wy (by omega),w2 (by omega)];have:=hr (i-vs.size) (by omega) (by rw[wP]at h';omega);simpa only[hn]using this
     . rename_i k q _ hf;have hv:=hst.fr t;rw[show Opd.val gl st.fr (.t t)=st.fr.get t from rfl]at hf;rw[hf,aq rfl]at hv;generalize hvt:a.tmps.getD t undef=vt at hv
       cases hv with
       | yld _ b hq=>exact BE hF hdep hcall ho hcal hvt hq hg hst hl hr hs hK
     . cases hs
structure Same (ms:List Nat)(w w':World):Prop where
 os:w'.os=w.os
 out:w'.output=w.output
 size:w'.heap.size=w.heap.size
 same:∀b,b∉ms->w'.heap[b]? =w.heap[b]?
theorem Same.refl (w:World):Same [] w w:=⟨rfl,rfl,rfl,fun _ _=>rfl⟩
theorem FS {H H':aT}{G:Gh}{hp:Hp}(inv:Inv H G hp)(hs:H'.size=H.size)(hsame:∀b,bG G hp b\/G.imm b->H'[b]? =H[b]?):Inv H' G hp:=by have hle:Le H G H' G:=⟨fun b hb=>⟨hb,hsame b (.inr hb)⟩,fv fun _ _ h=>h,fun _ _ h=>h⟩;exact⟨fun k o ho=>ObOk.mono (hp:=hp) hle (fun hl b r hr=>hsame b (.inl ⟨k,r,hl,hr⟩)) (fun _ h=>h) ho (inv.obs k o ho),inv.out,inv.dist,fun b hb=>⟨by have:=(inv.imm b hb).1;omega,(inv.imm b hb).2⟩,fun b hb=>by have:=inv.lt b hb;omega⟩
theorem CameM.leave {L:Prop}{ms:List Nat}{a a':Act}{w w' w'':World}{hp:Hp}{st':St}(hc:CameM L gl ms a w G hp a' w' G' st')(hs:Same ms w' w''):Came L gl a w G hp {a' with defers:=a.defers} w'' G' st':=by
 have hno:∀b,bG G' st'.hp b\/G'.imm b->b∉ms:=fun b h hm=>by obtain⟨_,_,h3,h4⟩:=hc.marks.ok b hm;exact h.elim h3 h4
 have hinv:=FS hc.ok.inv hs.size fun b h=>hs.same b (hno b h)
 have m:=hc.move;refine⟨⟨hs.os.trans hc.kept.1,hs.out.trans hc.kept.2⟩,⟨hinv,by have:=m.size;have:=hs.size;omega,fun b hb=> ?_,m.yl,fun b hb hl=> ?_,m.live,m.immNew⟩,⟨hinv,fun i=>(hc.ok.fr i).mono ⟨fun b hb=>⟨hb,hs.same b (hno b (.inr hb))⟩,fv fun _ _ h=>h,fun _ _ h=>h⟩⟩,hc.size,rfl,hc.hand,.nil⟩
 . obtain⟨h1,h2⟩:=m.imm b hb;exact⟨h1,(hs.same b (hno b (.inr h1))).trans h2⟩
 . refine(hs.same b fun hm=> ?_).trans (m.same b hb hl);have:=(hc.marks.ok b hm).1;omega
theorem fD {n:Nat}{fn:Func}{tmps:Array Value}{R:Ending->World->Prop}:∀(ms:List Nat) (w:World),ms.Nodup->(∀r∈ms,w.heap[r]? =some (.deferred (some []))) ->
  (∀w',Same ms w w'->∃v,(results fn tmps).run P w'= .ok v w'/\R (.returned v) w')->LeavesInM F n P fn tmps R (ms.map I1++[]) .returning w
 | [],w,_,_,h=>h w (Same.refl w)
 | r::ms,w,hn,hd,h=>by
   rw[wd]at hn;refine⟨(fun h=>by cases h),.inl ⟨r,w.putObj r (.deferred none),rfl,run_takeDeferred (hd r (by simp)),fD ms _ hn.2 (fun q hq=> ?_) fun w' hw=>h w' ⟨hw.os,hw.out,hw.size.trans World.putObj_size,fun b hb=> ?_⟩⟩⟩
   . rw[World.putObj_heap_other (show q≠r from fun e=>hn.1 (by rw[<-e];exact hq))];exact hd q (by simp[hq])
   . rw[wK,not_or]at hb;rw[hw.same b hb.2,World.putObj_heap_other hb.1]
theorem EX {H:aT}{G:Gh}{hp:Hp}(inv:Inv H G hp)(x:Obj):Step H G hp (H.push x) G hp:=by
 have hpush:∀b,b<H.size->(H.push x)[b]? =H[b]? :=fun b hb=>by rw[WL];simp[Nat.ne_of_lt hb]
 have hle:Le H G (H.push x) G:=⟨fun b hb=>⟨hb,hpush b (inv.imm b hb).1⟩,fv fun _ _ h=>h,fun _ _ h=>h⟩;exact⟨⟨fun k o ho=>ObOk.mono (hp:=hp) hle (fun hl b r hr=>hpush b (inv.lt b ⟨k,r,hl,hr⟩)) (fun _ h=>h) ho (inv.obs k o ho),inv.out,inv.dist,fun b hb=>⟨by have:=(inv.imm b hb).1;simp;omega,(inv.imm b hb).2⟩,fun b hb=>by have:=inv.lt b hb;simp;omega⟩,
  hle,by simp,fun b hb _=>hpush b hb,fun b hb=>.inl hb,fun b hb=>.inl hb⟩
theorem Ph (hF:∀f,F.fn f)(hdep:F.depth=none)(hro:F.round=none)(hcall:CallOk P F gl cl)(n N:Nat):G8 F n P gl cl N:=by
 intro L g g' rid info kd dc hgc hri hnt hlt a w G st st' e hg hst hN hev Q hQ;have hgv:=aG hg hst hgc;unfold GB at hev;split at hev
 . rename_i h caps hgeq;rw[wC,wr,wr,Option.isNone_iff_eq_none,decide_eq_true_eq,decide_eq_true_eq]at hev;obtain⟨⟨⟨hkn,hklt⟩,hhb⟩,hev⟩:=hev;rw[wB]at hev;obtain⟨⟨r0,us⟩,hcl,hend⟩:=hev;rw[hgeq,aq rfl]at hgv;generalize hve:a.eval g=ve at hgv
   cases hgv with
   | fn _ _ _ cs he hncs hsc val hval hrr =>
   have hve:a.eval g= .func (.func h) #[] cs:=hve.trans (he.symm.trans (if_pos (by unfold RB at hhb;unfold MB;omega)));refine wpIn_rangeFunc fun fnid hfnid=> ?_
   rw[hro];generalize hvals:info.slots.map st.fr.get=vals at hcl hend
   let rc:Loop:={state:=.ready,pending:=none,fn:=fnid,tmps:=a.tmps,params:=info.params,assign:=info.assign,body:=info.body,defers:=w.heap.size}
   have s1:=EX hst.inv (.deferred (some []));have hob:Le (w.heap.push (.deferred (some []))) G ((w.heap.push (.deferred (some []))).push (.loop rc)) (G.with kd (.blk (w.heap.push (.deferred (some []))).size .sc)) ->
     ObOk ((w.heap.push (.deferred (some []))).push (.loop rc)) (G.with kd (.blk (w.heap.push (.deferred (some []))).size .sc)) kd (.lp rid vals .ready):=fun hle=>by
    refine⟨(w.heap.push (.deferred (some []))).size,rc,info,by simp only[Gh.with,if_true],by rw[WL,if_pos rfl],hg.ri _ _ hri,⟨rfl,rfl,rfl,by show info.nt<=a.tmps.size;omega,rfl,rfl⟩,by rw[<-hvals];simp,fun j hj=> ?_⟩;have hj':j<info.slots.length:=by rw[<-hvals]at hj;simpa using hj
    have e1:vals[j]=st.fr.get (info.slots[j]):=by subst hvals;simp
    have e2:info.slots.getD j 0=info.slots[j]:=by simp[hj']
    rw[e1,e2];exact((hst.fr _).mono s1.le).mono hle
   have s2:=kE s1.inv hkn (.loop rc) .sc (.lp rid vals .ready) hob;have s12:=s1.trans s2
   let w1:World:=(w.alloc (.deferred (some []))).alloc (.loop rc)
   have hw1:w1.heap=(w.heap.push (.deferred (some []))).push (.loop rc):=rfl;have hsz:(w.heap.push (.deferred (some []))).size=w.heap.size+1:=by simp
   have hnew:=lg hcl;obtain⟨⟨h1,h2,h4,hkn2⟩,r,hp2,es,us',h5,h6,h7,rfl,rfl⟩:=dF hcl;obtain⟨G1,hG1⟩:∃G1,G1=G.with kd (.blk (w.heap.push (.deferred (some []))).size .sc):=⟨_,rfl⟩;rw[<-hG1]at s2 s12;have hyr:RepS w1.heap G1 (.func (.yield (w.heap.size+1)) #[] #[]) (.yld kd):=.yld kd _ (by rw[hG1];simp[Gh.with]);have hregkd:G1.reg kd=some (.blk (w.heap.size+1) .sc):=by rw[hG1];simp[Gh.with]
   have hhp1:∀q,SHK<=q->Hp.get ((kd,OB.lp rid vals .ready)::st.hp) q≠none->st.hp.get q≠none:=fun q hq h=>by rw[Hp.get_cons,if_neg (by omega)]at h;exact h
   generalize ((kd,OB.lp rid vals .ready)::st.hp)=hp1 at *
   generalize aZ hp1 (kd::AV.refss caps)=ks at *
   rw[dJ]at h4;obtain⟨⟨fn,hfn,hname,hbody⟩,hcalls⟩:=hcall.call h _ _ _ _ _ (fun _=>hhb) h5;have hg1:GlOk w1.heap G1 gl:=hg.mono s12.le;have hres:(resolve a.eval (rangeCall g (w.heap.size+1)) 0).run P w1= .ok {target:=.fn (.func h) cs,args:= #[.func (.yield (w.heap.size+1)) #[] #[]]} w1:=by simp[rangeCall,resolve,hve,Deferred.ofValue,show ∀v,a.eval (.const v)=v from fun _=>rfl]
   have hinv:(invoke (.fn (.func h) cs) #[.func (.yield (w.heap.size+1)) #[] #[]]).run P w1= .ok (.enter h (#[.func (.yield (w.heap.size+1)) #[] #[]]++cs)) w1:=by have hp:(program:Sem Program).run P w1= .ok P w1:=rfl;simp only[invoke,callFunc,wu,hp,wv,hfn,hname,hbody,ws,if_false,wt]
   have hreps:∀i (hi:i<(#[Value.func (.yield (w.heap.size+1)) #[] #[]]++cs).size) (hi':i<(AV.yld kd::caps).length),RepV w1.heap G1 (#[Value.func (.yield (w.heap.size+1)) #[] #[]]++cs)[i] (AV.yld kd::caps)[i]:=fun i hi hi'=>by
    cases i with
    | zero =>
      have e1:(#[Value.func (.yield (w.heap.size+1)) #[] #[]]++cs)[0]=Value.func (.yield (w.heap.size+1)) #[] #[]:=by rw[WA (by simp)];rfl
      rw[e1];exact(RepV.scalar rfl).2 hyr
    | succ i =>
      have hi2:i<caps.length:=by simpa using hi'
      have e1:(#[Value.func (.yield (w.heap.size+1)) #[] #[]]++cs)[i+1]=val i:=by have h1:=hval i hi2;rw[wy (by simp)];simp only[wT,wJ,List.length_nil,wo,Nat.add_sub_cancel];exact(ww.1 h1).2
      have e2:(AV.yld kd::caps)[i+1]=caps[i]:=rfl;rw[e1,e2,RepV.scalar (iH hsc _ (wF hi2))];exact(hrr i hi2).mono s12.le
   have hlen:(rAs (up ks) (AV.yld kd::caps)).length=(AV.yld kd::caps).length:=bI _ _;refine⟨w.heap.size+1,[{target:=.collected w.heap.size,args:= #[]}],w1,_,w1,h,_,w1,run_enterLoop_outer ..,hres,fun f' _=>hF f',hinv,fun hd=>(by rw[hdep]at hd;cases hd),?_⟩;refine(hcalls (n-1) w1 _ (kD G1 ks) (BN s2.inv h1) (hg1.move (fun b hb=>⟨hb,rfl⟩) fun i l h=>h) (by rw[hlen];simp;omega) fun i hi hi'=> ?_).mono ?_
   . have hi2:i<(AV.yld kd::caps).length:=by rw[hlen]at hi';exact hi'
     have e:(rAs (up ks) (AV.yld kd::caps))[i]=rA (up ks) (AV.yld kd::caps)[i]:=by generalize AV.yld kd::caps=l at *;simp[dz]
     rw[e];refine BM (hreps i hi hi2) fun k hk=> ?_
     rw[wG]at h2;have:=h2 k (bL (wF hi2) hk);simpa using this
   rintro e1 w' ⟨v0,G',rfl,hkept,hm,hh,hv⟩;obtain⟨G2,g1,g2⟩:=p6 s2.inv h4 h1 hm (fun hne q hq r hr=>hh (by cases ks with|nil=>exact absurd rfl hne|cons k l=>simp[iU]) q hq r hr) h6 h7 hv;have hreg2:G2.reg kd=some (.blk (w.heap.size+1) .sc):=g1.le.blk hregkd;simp only at hend hnew;generalize hus:dP ks dc hp2++us'=us at *
   have fin:∀rid2 vals2 s2' rc2,Hp.get (us++hp1) kd=some (.lp rid2 vals2 s2')->w'.heap[w.heap.size+1]? =some (.loop rc2) ->
     CameM L gl [w.heap.size] a w G st.hp {a with defers:=[{target:=.collected w.heap.size,args:= #[]}]++a.defers} (w'.putObj (w.heap.size+1) (.loop {rc2 with state:=.exhausted})) G2 {fr:=st.fr,hp:=(kd,.dead)::(us++hp1)}:=by
    intro rid2 vals2 s2' rc2 hk hb;have hlt2:=(ww.1 hb).1;have s3:Step w'.heap G2 (us++hp1) (w'.putObj (w.heap.size+1) (.loop {rc2 with state:=.exhausted})).heap G2 ((kd,.dead)::(us++hp1)) :=
     cR g1.inv hk _ .dead World.putObj_size (fun b hn=>World.putObj_heap_other fun e=>hn (by subst e;exact⟨.sc,.of hreg2,_,hk,by simp⟩)) (fun h=>absurd rfl h) fun _=>⟨_,hreg2⟩
    have s23:=g1.trans s3;have s123:=s2.trans s23;have stot:=s12.trans s23;refine⟨⟨hkept.1,hkept.2⟩,stot.move,⟨stot.inv,fun i=>(hst.fr i).mono stot.le⟩,rfl,rfl,fun l q hq r hr=>fW hst.inv stot (fun q hq hn=> ?_) hq hr,⟨by simp,fun r hr=> ?_⟩⟩
    . rw[Hp.get_cons,if_neg (by omega)]at hn;exact hhp1 q hq (nN (st:=⟨[],hp1⟩) (fr:=[]) hnew hq hn)
    . obtain rfl:=List.mem_singleton.1 hr;have hnl:¬bG G st.hp w.heap.size:=fun h=>wn _ (hst.inv.lt _ h)
      refine⟨wm _,(s123.same _ (by simp) hnl).trans (by simp),fun hl=> ?_,fun hi=> ?_⟩
      . rcases s123.live _ hl with h|h
        . exact hnl h
        . simp at h;omega
      . rcases s123.immNew _ hi with h|h|h
        . exact wn _ (hst.inv.imm _ h).1
        . simp at h;omega
        . exact hnl h
   have obs2:∀rid2 vals2 s2',Hp.get (us++hp1) kd=some (.lp rid2 vals2 s2')->∃rc2 info2,w'.heap[w.heap.size+1]? =some (.loop rc2)/\RcOk info2 rc2 s2':=fun rid2 vals2 s2' hk=>by obtain⟨b2,rc2,info2,hr2,hb2,_,hrc2,_⟩:=g1.inv.obs kd _ hk;rw[hreg2]at hr2;cases hr2;exact⟨rc2,info2,hb2,hrc2⟩
   unfold H5 at hend;split at hend
   . rename_i hk;simp only[wE,WM]at hend;obtain⟨rfl,rfl⟩:=hend;obtain⟨rc2,info2,hb2,hrc2⟩:=obs2 _ _ _ hk;have hs:=hrc2.st;simp only at hs;refine⟨_,_,run_endLoop hb2 (by rw[hs.1];decide),?_⟩;have hf:=fin _ _ _ _ hk hb2;revert hf;generalize w'.putObj (w.heap.size+1) _=w4;intro hf;rw[hs.2];exact hQ _ _ _ _ hf
   . rename_i e2 hk;simp only[wE,WM]at hend;obtain⟨rfl,rfl⟩:=hend;obtain⟨rc2,info2,hb2,hrc2⟩:=obs2 _ _ _ hk;have hs:=hrc2.st;simp only at hs;refine⟨_,_,run_endLoop hb2 (by rw[hs.1];decide),?_⟩;have hf:=fin _ _ _ _ hk hb2;revert hf;generalize w'.putObj (w.heap.size+1) _=w4;intro hf;rw[hs.2]
     cases e2 with
     | norm=>exact hQ _ _ _ _ hf
     | ret=>exact wpIn_ret (hQ _ _ _ _ hf)
     | exit id=>exact wpIn_exit (hQ _ _ _ _ hf)
   . cases hend
 . cases hev
theorem cU {n m:Nat}(h:n<=m):∀(c:Code),de n c=true->de m c=true:=by
 intro c
 induction c with
 | region id ops d =>
   intro hc;simp only[de,Array.all_eq_true_iff_forall_mem]at hc ⊢;intro o ho;have:=hc o ho
   cases hd:o.dst with
   | none=>rfl
   | some d=>rw[hd]at this;simp only[decide_eq_true_eq]at this ⊢;exact wi this h
 | seq a b iha ihb=>intro hc;simp only[de,wr]at hc ⊢;exact⟨iha hc.1,ihb hc.2⟩
 | cond c a b iha ihb=>intro hc;simp only[de,wr]at hc ⊢;exact⟨iha hc.1,ihb hc.2⟩
 | block i b ih=>intro hc;exact ih hc
 | loop b ih=>intro hc;exact ih hc
 | scope b ih=>intro hc;exact ih hc
 | _=>intro _;rfl
structure FnCode (P:Program)(gl:Gl)(f:Nat)(fd:Fd):Prop where
 ok:∃fn code an,P.funcs[f]? =some fn/\(fn.name== "runtime.NumGoroutine")=false/\fn.body=some code/\comp P an 1000000 code=some fd.body/\de fn.ntmps code=true/\bw (fM P) fn.results.toList=some fd.res /\
  (dv an fn.ntmps 1000000 code).map (fun x=>gl.ri x.1)=(dv an fn.ntmps 1000000 code).map fun x=>some x.2
def LX (P:Program)(f:Nat)(g:Cl->List AV->Hp->Option (AV×Hp×List OB)):Prop :=
 ∀gl cl,CallOk P Fence.wide gl cl->O5 P Fence.wide gl fun f' as imps=>if f'=f then g cl as imps else none
structure RndCode (P:Program)(gl:Gl)(rid:Nat)(params slots:List Nat)(as body:MC):Prop where
 ok:∃info an ida idb,gl.ri rid=some info/\info.params.toList=params/\info.slots=slots/\comp P an ida info.assign=some as/\comp P an idb info.body=some body /\
  de info.nt info.assign=true/\de info.nt info.body=true/\(params.all fun p=>decide (p<info.nt))=true
theorem oE :∀{l:List AV} {i j:Nat},(kr i l).get j=if i<=j/\j<i+l.length then l.getD (j-i) .unk else .unk
 | [],i,j=>by simp[kr,Fr.get]
 | a::l,i,j=>by
   simp only[kr,Fr.get,oE (l:=l),wJ];by_cases h:i=j
   . subst h;simp
   . rw[if_neg h];by_cases h':i+1<=j/\j<i+1+l.length
     . rw[if_pos h',if_pos (by omega)];obtain⟨k,rfl⟩:∃k,j=i+1+k:=⟨j-(i+1),by omega⟩;rw[show i+1+k-(i+1)=k by omega,show i+1+k-i=k+1 by omega];rfl
     . rw[if_neg h',if_neg (by omega)]
theorem NR {H:aT}{G G2:Gh}{hp hp2:Hp}(inv:Inv H G hp){ρ:Nat->Nat}{K:List Nat}(himm:∀b,G2.imm b↔G.imm b)(hyl:∀i l,G.yl i=some l->G2.yl i=some l)
  (hreg:∀k∈K,G2.reg (ρ k)=G.reg k) (hregd:∀q r,G2.reg q=some r->∃k∈K,q=ρ k)
  (hget:∀q o,hp2.get q=some o->∃k∈K,q=ρ k/\∃o0,hp.get k=some o0/\o=rOB ρ o0/\∀j∈bO o0,j∈K) (hex:∀k∈K,hp2.get (ρ k)≠none) :
  Inv H G2 hp2/\∀b,bG G2 hp2 b->bG G hp b:=by
 have hlive:∀q b r,aN hp2 q->G2.At q b r->∃k,q=ρ k/\aN hp k/\G.At k b r:=by rintro q b r ⟨o,ho,hd⟩ hr;obtain⟨k,hk,rfl,o0,h0,rfl,_⟩:=hget q o ho;exact⟨k,rfl,⟨o0,h0,jf hd⟩,(Gh.at_congr (hreg k hk)).1 hr⟩
 have hl:∀b,bG G2 hp2 b->bG G hp b:=by rintro b ⟨q,r,h1,h2⟩;obtain⟨k,_,h3,h4⟩:=hlive q b r h1 h2;exact⟨k,r,h3,h4⟩
 refine⟨⟨fun q o h=> ?_,fun q h=> ?_,fun q q' b r r' h h' l l'=> ?_,fun b hb=> ?_,fun b hb=>inv.lt b (hl b hb)⟩,hl⟩
 . obtain⟨k,hk,rfl,o0,h0,rfl,hj⟩:=hget q o h;exact kV (inv.obs k o0 h0) (hreg k hk) (fun b hb=>(himm b).2 hb) hyl fun j hj'=>hreg j (hj j hj')
 . cases hr:G2.reg q with
   | none=>rfl
   | some r =>obtain⟨k,hk,rfl⟩:=hregd q r hr;exact absurd h (hex k hk)
 . obtain⟨k,rfl,h1,h2⟩:=hlive q b r l h;obtain⟨k',rfl,h1',h2'⟩:=hlive q' b r' l' h';rw[inv.dist k k' b r r' h2 h2' h1 h1']
 . have:=inv.imm b ((himm b).1 hb);exact⟨this.1,fun h=>this.2 (hl b h)⟩
open Classical in
noncomputable def jn (G:Gh)(hk E:List Nat):Gh :=
 {G with reg:=fun q=>if q∈hk then G.reg q else if 20000<=q/\q-20000<E.length then G.reg (E.getD (q-20000) 0)else none}
theorem jS {hp:Hp}{E:List Nat}:∀{hk:List Nat} {q:Nat},(fK hp E hk).get q=if q∈hk then some (rOB (nm E) (jT hp q))else none
 | [],q=>by simp[fK,Hp.get]
 | k::l,q=>by
   rw[fK,Hp.get_cons,jS];by_cases h:k=q
   . simp[h]
   . rw[if_neg h];have:¬q=k:=fun e=>h e.symm
     simp[this]
theorem sy {H:aT}{tmps:Array Value}(hst:StOk H G st tmps){hk E:List Nat}{rs l:List AV}{hb:Hp}{es:List OB}(h:fO st hk rs E=some (l,hb,es)){vs:List Value}(hlen:vs.length=rs.length)
  (hv:∀i (h:i<vs.length) (h':i<rs.length),RepT H G vs[i] rs[i]) :
  Inv H (jn G hk E) (hb++cm 0 es)/\(∀b,bG (jn G hk E) (hb++cm 0 es) b->bG G st.hp b)/\(∀q,SHK<=q->∀r,(jn G hk E).reg q=some r->G.reg q=some r) /\
  l.length=rs.length/\∀i (h:i<vs.length) (h':i<l.length),RepV H (jn G hk E) vs[i] l[i]:=by
 unfold fO at h;rw[wC]at h;obtain⟨hc,h⟩:=h;simp only[wE,WM]at h;obtain⟨rfl,rfl,rfl⟩:=h;simp only[wr,decide_eq_true_eq,dJ,wG (p:=fun k=>decide (SHK<=k)),wG (p:=fun k=>decide (k<SHK))]at hc;obtain⟨⟨⟨⟨⟨⟨c1,c2⟩,c3⟩,c4⟩,c5⟩,c6⟩,c7⟩:=hc;rw[wG]at c2;have c3':=List.nodup_append.1 c3;have hidx:∀k∈E,idx E k<E.length/\E.getD (idx E k) 0=k:=fun k hk'=>gV hk'
 have hbig:∀i,i<E.length->20000+i<SHK:=fun i hi=>by unfold SHK;omega
 have hnotin:∀q,q<SHK->q∉hk:=fun q hq hm=>absurd (c4 q hm) (wp.2 hq)
 have hnmH:∀k∈hk,nm E k=k:=fun k hm=>by unfold nm;rw[if_pos (c4 k hm)]
 have hnmE:∀k∈E,nm E k=20000+idx E k:=fun k hm=>by unfold nm;rw[if_neg (wp.2 (c5 k hm))]
 have hreg:∀k∈hk++E,(jn G hk E).reg (nm E k)=G.reg k:=fun k hm=>by
  rcases w0.1 hm with hm|hm
  . rw[hnmH k hm];simp only[jn];rw[if_pos hm]
  . have ⟨i1,i2⟩:=hidx k hm;rw[hnmE k hm];simp only[jn];rw[if_neg (hnotin _ (hbig _ i1)),if_pos ⟨by omega,by omega⟩,show 20000+idx E k-20000=idx E k by omega,i2]
 obtain⟨g1,g2⟩:=NR (G2:=jn G hk E) (hp2:=fK st.hp E hk++cm 0 (E.map fun k=>rOB (nm E) (jT st.hp k))) (ρ:=nm E) (K:=hk++E) hst.inv (fun _=>Iff.rfl) (fun _ _ h=>h) hreg
  (fun q r hr=>by
    simp only[jn]at hr;split at hr
    . rename_i hm;exact⟨q,wN _ hm,(hnmH q hm).symm⟩
    . split at hr
      . rename_i hq;have hm:E.getD (q-20000) 0∈E:=by rw[wR,wH hq.2];exact wF hq.2
        refine⟨E.getD (q-20000) 0,wM _ hm,?_⟩;rw[hnmE _ hm,jm c3'.2.1 hq.2];omega
      . cases hr)
  (fun q o ho=>by
    rw[Hp.get_append,jS]at ho;by_cases hm:q∈hk
    . rw[if_pos hm]at ho;cases ho;have ⟨e1,e2⟩:=dI c1 q (wN _ hm);exact⟨q,wN _ hm,(hnmH q hm).symm,_,e1,rfl,e2⟩
    . rw[if_neg hm]at ho;obtain⟨i,hi,e,e2⟩:=jR.1 ho;have hi':i<E.length:=by simpa using hi
      have hm2:E[i]∈E:=wF hi';have ⟨f1,f2⟩:=dI c1 E[i] (wM _ hm2);refine⟨E[i],wM _ hm2,?_,_,f1,?_,f2⟩
      . have:=jm c3'.2.1 hi';rw[wR,wH hi']at this;rw[hnmE _ hm2,e];simp only[Option.getD_some]at this;rw[this]
      . rw[<-e2];simp)
  (fun k hm=>by
    rw[Hp.get_append,jS];rcases w0.1 hm with hm|hm
    . rw[hnmH k hm,if_pos hm];simp
    . have ⟨i1,i2⟩:=hidx k hm;rw[hnmE k hm,if_neg (hnotin _ (hbig _ i1))];have:(cm 0 (E.map fun k=>rOB (nm E) (jT st.hp k))).get (20000+idx E k)=some _:=jR.2 ⟨idx E k,by simpa using i1,rfl,rfl⟩;rw[this];simp)
 refine⟨g1,g2,fun q hq r hr=> ?_,bI _ _,fun i hi hi'=> ?_⟩
 . simp only[jn]at hr;split at hr
   . exact hr
   . split at hr
     . rename_i hq2;have:=hbig _ hq2.2;omega
     . cases hr
 . have hi2:i<rs.length:=by omega
   have e:(rAs (nm E) rs)[i]=rA (nm E) rs[i]:=by simp[dz]
   rw[e];refine((RepT.of_known (jP c7 _ (wF hi2))).1 (hv i hi hi2)).renA (.inr fun _ h=>h) (fun _ _ h=>h) fun k hk'=>hreg k ?_
   have:=c2 k (bL (wF hi2) hk');simpa using this
theorem vH {L:Prop}{fn:Func}{res:List ResD}{pk:List Pk}{a a':Act}{w':World}{st':St}{z:List AV×List OB}{r:AV}{os:Hp}{es:List OB}(hres:bw (fM P) fn.results.toList=some res)
  (hc:Came L gl a w G [] a' w' G' st') (hz:gC st' res pk=some z) (he:((match z.1 with|[a]=>a|l=>.tup l),([]:Hp),z.2)=(r,os,es)) :
  ∃v,(results fn a'.tmps).run P w'= .ok v w'/\∃v1 G1,Ending.returned v= .returned v1/\Kept w w'/\Move w.heap G [] w'.heap G1 (cm 0 es)/\RepT w'.heap G1 v1 r:=by
 obtain⟨l,es'⟩:=z;simp only[WM]at he;obtain⟨he1,rfl,rfl⟩:=he;have hz':=hz;unfold gC at hz';rw[wB]at hz';obtain⟨rs,hrs,_⟩:=hz';obtain⟨us,g1,g2,g3,g4⟩:=jD hc.ok hres hrs;obtain⟨k1,k2,k3,k4⟩:=IK hc.ok hz hrs (by omega) g4;have hrun:=kJ (fn:=fn) (vs:=us) (by simpa using g1) fun i hi hi'=>by have:=g3 i (by simpa using hi) hi';simpa using this
 refine⟨_,hrun,_,jH G' st'.hp (cP rs pk),rfl,hc.kept,?_,?_⟩
 . have m:=hc.move;have hnl:∀b,¬bG G [] b:=fun b ⟨k,r,⟨o,ho,_⟩,_⟩=>by cases ho
   have hdl:∀b,bG G' (ki ((cP rs pk).filterMap id)++st'.hp) b->bG G' st'.hp b:=by
    rintro b ⟨k,r,⟨o,ho,hd⟩,hr⟩;rw[hU]at ho;split at ho
    . cases ho;exact absurd rfl hd
    . exact⟨k,r,⟨o,ho,hd⟩,hr⟩
   refine⟨k1,m.size,fun b hb=>⟨.inl (m.imm b hb).1,(m.imm b hb).2⟩,m.yl,m.same,fun b hb=>m.live b (k2 b hb),fun b hb=> ?_⟩;rcases hb with hb|hb
   . exact m.immNew b hb
   . rcases m.live b (hdl b hb)with h|h
     . exact absurd h (hnl b)
     . exact .inr (.inl h)
 . subst he1
   match us,l,k3,g1,g2,k4 with
   | [],[],_,_,_,_=>exact⟨#[],rfl,rfl,fun i h=>by simp at h⟩
   | [u],[x],_,_,_,k4 =>have:=k4 0 (by simp) (by simp);exact(RepT.of_known this.known).2 this
   | u1::u2::us,x1::x2::l,_,_,_,k4 =>refine⟨_,rfl,by simp only[wT];simp only[wJ]at *;omega,fun i h h'=> ?_⟩;have:=k4 i (by simpa using h) h';simpa using this
   | [],_::_,h1,h2,h3,_=>simp at *;omega
   | [_],[],h1,h2,h3,_=>simp at *;omega
   | [_],_::_::_,h1,h2,h3,_=>simp at *;omega
   | _::_::_,[],h1,h2,h3,_=>simp at *;omega
   | _::_::_,[_],h1,h2,h3,_=>simp at *;omega
theorem vC {l:List (Nat×RInfo)}(h:l.map (fun x=>gl.ri x.1)=l.map fun x=>some x.2):∀x∈l,gl.ri x.1=some x.2:=by
 induction l with
 | nil=>intro x hx;cases hx
 | cons y l ih =>
   simp only[w5,List.cons.injEq]at h;intro x hx;rcases wK.1 hx with rfl|hx
   . exact h.1
   . exact ih h.2 x hx
theorem J6 (hF:∀f,F.fn f)(hdep:F.depth=none)(hro:F.round=none)(hmix:P.follows .mixedOrders=true)(hcall:CallOk P F gl cl)(hcallW:CallOk P Fence.wide gl cl){f:Nat}{fd:Fd}(hfd:FnCode P gl f fd)
  {as:List AV} {r:AV} {os:Hp} {es:List OB} (hgen:oy fd.pk=false) (h:qM gl cl fd as []=some (r,os,es)) (n:Nat) {w:World} {vs:Array Value} (inv:Inv w.heap G []) (hg:GlOk w.heap G gl) (hlen:vs.size=as.length)
  (hrep:∀i (h:i<vs.size) (h':i<as.length),RepV w.heap G vs[i] as[i]) :
  CallsIn F n P f vs w fun e w'=>∃v G',e= .returned v/\Kept w w'/\Move w.heap G [] w'.heap G' (cm 0 es)/\RepT w'.heap G' v r:=by
 obtain⟨fn,code,an,hfn,hname,hbody,hcomp,hdst,hres,hrfl⟩:=hfd.ok;simp only[qM,hgen,ws,if_false,wB]at h;obtain⟨⟨e,st'⟩,hev,h⟩:=h;have S:Setting P F n gl cl:=⟨hmix,gu hF hdep hcall n,fy (gu (fun _=>trivial) rfl hcallW n),hF⟩;have hst:StOk w.heap G {fr:=kr 0 as,hp:=[]} (vs++Array.replicate (fn.ntmps-vs.size) undef):=by
  refine⟨inv,fun i=> ?_⟩;rw[oE];by_cases hi:0<=i/\i<0+as.length
  . rw[if_pos hi];have h1:i<vs.size:=by omega
    have h2:i<as.length:=by omega
    have e1:(vs++Array.replicate (fn.ntmps-vs.size) undef).getD i undef=vs[i]:=by rw[wx,WJ h1];simp[h1]
    have e2:as.getD (i-0) .unk=as[i]:=by simp[h2]
    rw[e1,e2];have hv:=hrep i h1 h2;exact(RepT.of_known hv.known).2 hv
  . rw[if_neg hi];trivial
 refine callsIn_of_wp_marks hfn hbody (hF f) ?_ hro;refine ug (L:=False) (M:=fn.ntmps) (by simp;omega) S code 1000000 fd.body hcomp (fun h=>h.elim) (fun _=>Ph hF hdep hro hcall n _) (vC hrfl) (cU (by simp;omega) code hdst) _ w G _ st' e hg hst rfl hev _ fun ms a' w' G' _ hc=> ?_
 have key:=fun(w'':World) (hs:Same ms w' w'') z=>vH (z:=z) (pk:=fd.pk) (r:=r) (os:=os) (es:=es) hres (hc.leave hs)
 cases e with
 | exit i=>cases h
 | norm =>simp only[wD]at h;obtain⟨z,hz,he⟩:=h;show LeavesInM F n P fn a'.tmps _ a'.defers .returning w';rw[hc.defers];exact fD ms w' hc.marks.nd (fun q hq=>(hc.marks.ok q hq).2.1) fun w'' hs=>key w'' hs z hz he
 | ret =>simp only[wD]at h;obtain⟨z,hz,he⟩:=h;show LeavesInM F n P fn a'.tmps _ a'.defers .returning w';rw[hc.defers];exact fD ms w' hc.marks.nd (fun q hq=>(hc.marks.ok q hq).2.1) fun w'' hs=>key w'' hs z hz he
theorem SD (hF:∀f,F.fn f)(hdep:F.depth=none)(hro:F.round=none)(hmix:P.follows .mixedOrders=true)(hcall:CallOk P F gl cl)(hcallW:CallOk P Fence.wide gl cl){f:Nat}{fd:Fd}(hfd:FnCode P gl f fd)
  {as:List AV} {imps:Hp} {r:AV} {os:Hp} {es:List OB} (hgen:oy fd.pk=true) (h:qM gl cl fd as imps=some (r,os,es)) (n:Nat) {w:World} {vs:Array Value} (inv:Inv w.heap G imps) (hg:GlOk w.heap G gl) (hlen:vs.size=as.length)
  (hrep:∀i (h:i<vs.size) (h':i<as.length),RepV w.heap G vs[i] as[i]) :
  CallsIn F n P f vs w fun e w'=>∃v G',e= .returned v/\Kept w w'/\Move w.heap G imps w'.heap G' (os++cm 0 es)/\(imps≠[]->∀q,SHK<=q->∀r,G'.reg q=some r->∃r0,G.reg q=some r0/\r0.le r)/\RepT w'.heap G' v r:=by
 obtain⟨fn,code,an,hfn,hname,hbody,hcomp,hdst,hres,hrfl⟩:=hfd.ok;simp only[qM,hgen,if_true]at h;split at h
 . cases h
 rename_i hlt;have hlt:gR fd.body=true:=by simpa using hlt
 simp only[wB]at h;obtain⟨⟨e,st'⟩,hev,h⟩:=h;have S:Setting P F n gl cl:=⟨hmix,gu hF hdep hcall n,fy (gu (fun _=>trivial) rfl hcallW n),hF⟩;have hst:StOk w.heap G {fr:=kr 0 as,hp:=imps} (vs++Array.replicate (fn.ntmps-vs.size) undef):=by
  refine⟨inv,fun i=> ?_⟩;rw[oE];by_cases hi:0<=i/\i<0+as.length
  . rw[if_pos hi];have h1:i<vs.size:=by omega
    have h2:i<as.length:=by omega
    have e1:(vs++Array.replicate (fn.ntmps-vs.size) undef).getD i undef=vs[i]:=by rw[wx,WJ h1];simp[h1]
    have e2:as.getD (i-0) .unk=as[i]:=by simp[h2]
    rw[e1,e2];have hv:=hrep i h1 h2;exact(RepT.of_known hv.known).2 hv
  . rw[if_neg hi];trivial
 refine callsIn_of_wp_marks hfn hbody (hF f) ?_ hro;refine ug (L:=True) (M:=fn.ntmps) (by simp;omega) S code 1000000 fd.body hcomp (fun _=>hlt) (fun _=>Ph hF hdep hro hcall n _) (vC hrfl) (cU (by simp;omega) code hdst) _ w G _ st' e hg hst rfl hev _ fun ms a' w' G' _ hcM=> ?_
 have key:∀(a':Act) (w':World),Came True gl {tmps:=vs++Array.replicate (fn.ntmps-vs.size) undef,defers:=[]} w G imps a' w' G' st'->∀rs z,bY st' fd.res=some rs->fO st' (eT imps) rs (eH st' (eT imps) rs)=some z->(sF z.1,z.2.1,z.2.2)=(r,os,es) ->
   ∃v,(results fn a'.tmps).run P w'= .ok v w'/\∃v1 G1,Ending.returned v= .returned v1/\Kept w w'/\Move w.heap G imps w'.heap G1 (os++cm 0 es)/\(imps≠[]->∀q,SHK<=q->∀r,G1.reg q=some r->∃r0,G.reg q=some r0/\r0.le r)/\RepT w'.heap G1 v1 r:=by
  rintro a' w' hc rs ⟨l,os',es'⟩ hrs hz he;simp only[WM]at he;obtain⟨he1,rfl,rfl⟩:=he;obtain⟨us,g1,g2,g3,g4⟩:=jD hc.ok hres hrs;obtain⟨k1,k2,kh,k3,k4⟩:=sy hc.ok hz (by omega) g4;have hrun:=kJ (fn:=fn) (vs:=us) (by simpa using g1) fun i hi hi'=>by have:=g3 i (by simpa using hi) hi';simpa using this
  refine⟨_,hrun,_,jn G' (eT imps) (eH st' (eT imps) rs),rfl,hc.kept,?_,fun _ q hq r hr=>hc.hand trivial q hq r (kh q hq r hr),?_⟩
  . have m:=hc.move;exact⟨k1,m.size,m.imm,m.yl,m.same,fun b hb=>m.live b (k2 b hb),m.immNew⟩
  . subst he1
    match us,l,k3,g1,g2,k4 with
    | [],[],_,_,_,_=>exact⟨#[],rfl,rfl,fun i h=>by simp at h⟩
    | [u],[x],_,_,_,k4 =>have:=k4 0 (by simp) (by simp);exact(RepT.of_known this.known).2 this
    | u1::u2::us,x1::x2::l,_,_,_,k4 =>refine⟨_,rfl,by simp only[wT];simp only[wJ]at *;omega,fun i h h'=> ?_⟩;have:=k4 i (by simpa using h) h';simpa using this
    | [],_::_,h1,h2,h3,_=>simp at *;omega
    | [_],[],h1,h2,h3,_=>simp at *;omega
    | [_],_::_::_,h1,h2,h3,_=>simp at *;omega
    | _::_::_,[],h1,h2,h3,_=>simp at *;omega
    | _::_::_,[_],h1,h2,h3,_=>simp at *;omega
 cases e with
 | exit i=>cases h
 | norm =>simp only[wB,wD]at h;obtain⟨rs,hrs,z,hz,he⟩:=h;show LeavesInM F n P fn a'.tmps _ a'.defers .returning w';rw[hcM.defers];exact fD ms w' hcM.marks.nd (fun q hq=>(hcM.marks.ok q hq).2.1) fun w'' hs=>key {tmps:=a'.tmps,defers:=[]} w'' (hcM.leave hs) rs z hrs hz he
 | ret =>simp only[wB,wD]at h;obtain⟨rs,hrs,z,hz,he⟩:=h;show LeavesInM F n P fn a'.tmps _ a'.defers .returning w';rw[hcM.defers];exact fD ms w' hcM.marks.nd (fun q hq=>(hcM.marks.ok q hq).2.1) fun w'' hs=>key {tmps:=a'.tmps,defers:=[]} w'' (hcM.leave hs) rs z hrs hz he
theorem Oi {fd:Fd}{as:List AV}{r:AV}{os:Hp}{es:List OB}(hgen:oy fd.pk=false)(h:qM gl cl fd as []=some (r,os,es)):os=[]:=by
 simp only[qM,hgen,ws,if_false,wB]at h;obtain⟨⟨e,st'⟩,hev,h⟩:=h
 cases e with
 | exit i=>cases h
 | norm=>simp only[wD,WM]at h;obtain⟨z,hz,_,h,_⟩:=h;exact h.symm
 | ret=>simp only[wD,WM]at h;obtain⟨z,hz,_,h,_⟩:=h;exact h.symm
theorem xd {p:Nat}{x:AV}{fr:Fr}:∀{ps:List Nat} {as:List AV} (i:Nat),p∉ps->(mw ps as++.set p x::fr).get i=Fr.get (.set p x::(mw ps as++fr)) i
 | [],as,i,_=>by cases as<;>rfl
 | q::ps,[],i,_=>rfl
 | q::ps,y::as,i,h=>by
   rw[wK,not_or]at h;have ih:=xd (p:=p) (x:=x) (fr:=fr) (ps:=ps) (as:=as) i h.2;simp only[mw,List.cons_append,Fr.get]at ih ⊢;rw[ih];by_cases h1:q=i
   . rw[if_pos h1,if_neg (fun e=>h.1 (e.trans h1.symm)),if_pos h1]
   . rw[if_neg h1,if_neg h1]
theorem sx {H:aT}{G:Gh}:∀(ps:List Nat) (as:List AV) (vs:List Value) (tmps:Array Value) (fr:Fr),vs.length=as.length->as.length=ps.length->ps.Nodup->(∀p∈ps,p<tmps.size) ->
  (∀i (h:i<vs.length) (h':i<as.length),RepV H G vs[i] as[i])->(∀i,RepT H G (tmps.getD i undef) (fr.get i)) ->
  ∀i,RepT H G (((ps.zip vs).foldl (fun tmps (t,a)=>tmps.setIfInBounds t a) tmps).getD i undef) ((mw ps as++fr).get i)
 | [],as,vs,tmps,fr,_,_,_,_,_,hf,i=>by cases as<;>exact hf i
 | p::ps,a::as,v::vs,tmps,fr,h1,h2,hn,hlt,hr,hf,i=>by
   rw[wd]at hn;have h0:=hr 0 (by simp) (by simp);simp only[List.zip_cons_cons,we];have:=sx ps as vs (tmps.setIfInBounds p v) (.set p a::fr) (by simpa using h1) (by simpa using h2) hn.2 (fun q hq=>by rw[WK];exact hlt q (by simp[hq]))
    (fun i h h'=>by have:=hr (i+1) (by simpa using h) (by simpa using h');simpa using this) (fun i=>by
      have hp:=hlt p (by simp);simp only[Fr.get];by_cases hi:p=i
      . subst hi;rw[if_pos rfl,wx,Array.getElem?_setIfInBounds_self_of_lt hp];exact(RepT.of_known h0.known).2 h0
      . rw[if_neg hi,wx,Array.getElem?_setIfInBounds_ne hi,<-wx];exact hf i) i
   rw[xd i hn.1]at this;exact this
 | _::_,[],_,_,_,_,h2,_,_,_,_,_=>by simp at h2
 | _::_,_::_,[],_,_,h1,_,_,_,_,_,_=>by simp at h1
theorem vp {H:aT}{G:Gh}{tmps:Array Value}:∀(ps:List Nat) (vals:List AV),(∀j (h:j<vals.length) (h':j<ps.length),RepT H G (tmps.getD ps[j] undef) vals[j])->∀i,RepT H G (tmps.getD i undef) ((mw ps vals).get i)
 | [],vals,_,i=>by cases vals<;>trivial
 | _::_,[],_,i=>trivial
 | p::ps,v::vals,h,i=>by
   simp only[mw,Fr.get];by_cases hi:p=i
   . subst hi;rw[if_pos rfl];exact h 0 (by simp) (by simp)
   . rw[if_neg hi];exact vp ps vals (fun j h1 h2=>by have:=h (j+1) (by simpa using h1) (by simpa using h2);simpa using this) i
theorem CallOk.inRound {l:Nat}(h:CallOk P F gl cl):CallOk P (F.inRound l) gl cl:=⟨h.call,h.rnd⟩
theorem qd {L:Prop}{a a1:Act}{w w1:World}{G G1:Gh}{hp:Hp}{st:St}{b:Nat}{x:Obj}{rid:Nat}{vals:List AV}{s s':RS}(hc:Came L gl a w G hp a1 w1 G1 st)(hk:st.hp.get SHK=some (.lp rid vals s))(hr:G1.reg SHK=some (.blk b .sc))
  (hob:Le w1.heap G1 (w1.putObj b x).heap G1->ObOk (w1.putObj b x).heap G1 SHK (.lp rid vals s')):Came L gl a w G hp a1 (w1.putObj b x) G1 {fr:=st.fr,hp:=(SHK,.lp rid vals s')::st.hp}:=by
 have hs:Step w1.heap G1 st.hp (w1.putObj b x).heap G1 ((SHK,.lp rid vals s')::st.hp) :=
  cR hc.ok.inv hk _ (.lp rid vals s') World.putObj_size (fun c hn=>World.putObj_heap_other fun e=>hn (by subst e;exact⟨.sc,.of hr,_,hk,by simp⟩)) (fun _ h=>by cases h) hob
 exact hc.trans ⟨⟨rfl,rfl⟩,hs.move,⟨hs.inv,fun i=>(hc.ok.fr i).mono hs.le⟩,rfl,rfl,fun l q hq r hr=>fW hc.ok.inv hs (fun q hq hn=>by
  rw[Hp.get_cons]at hn;split at hn
  . rename_i e;subst e;rw[hk];simp
  . exact hn) hq hr,.nil⟩
theorem Rw (hF:∀f,F.fn f)(hdep:F.depth=none)(hmix:P.follows .mixedOrders=true)(hcall:CallOk P F gl cl)(hcallW:CallOk P Fence.wide gl cl){rid:Nat}{params slots:List Nat}{mA mB:MC}(hcode:RndCode P gl rid params slots mA mB)
  {as:List AV} {imps:Hp} {r:AV} {imps':Hp} {es:List OB} (h:lz params slots mA mB gl cl as imps=some (r,imps',es)) (n:Nat) (w:World) (vs:Array Value) (G:Gh) (b:Nat) (rc:Loop) (vals:List AV)
  (inv:Inv w.heap G imps) (hg:GlOk w.heap G gl) (hlen:vs.size=as.length) (hrep:∀i (h:i<vs.size) (h':i<as.length),RepV w.heap G vs[i] as[i])
  (hk0:imps.get SHK=some (.lp rid vals .ready)) (hr0:G.reg SHK=some (.blk b .sc)) (hb0:w.heap[b]? =some (.loop rc)) :
    vs.size=rc.params.size/\RoundIn F n P b rc.fn ((rc.params.zip vs).foldl (fun tmps (t,a)=>tmps.setIfInBounds t a) rc.tmps) rc.assign rc.body w
     fun e w'=>∃v G',e= .returned v/\Kept w w'/\Move w.heap G imps w'.heap G' (imps'++cm 0 es)/\(imps≠[]->∀q,SHK<=q->∀r,G'.reg q=some r->∃r0,G.reg q=some r0/\r0.le r)/\RepT w'.heap G' v r:=by
 obtain⟨info,an,ida,idb,hri,hps,hsl,hA,hB,hdA,hdB,hpl⟩:=hcode.ok;obtain⟨b',rc',info',hr',hb',hy',hrc,hw⟩:=inv.obs SHK _ hk0;rw[hr0]at hr';cases hr';rw[hb0]at hb';cases hb';have:=hg.ri _ _ hri;rw[hy']at this;cases this;unfold lz at h;split at h
 case h_2=>cases h
 rename_i q rid1 vals1 rest;rw[wC]at h;obtain⟨hc,h⟩:=h;simp only[wr,decide_eq_true_eq,Bool.not_eq_true',dJ]at hc;obtain⟨⟨⟨⟨⟨⟨rfl,hal⟩,hnd⟩,hltA⟩,hltB⟩,hrfA⟩,hrfB⟩:=hc;rw[Hp.get_cons,if_pos rfl]at hk0;simp only[wE,OB.lp.injEq]at hk0;obtain⟨rfl,rfl,_⟩:=hk0;have hpsz:rc.params.size=params.length:=by rw[hrc.params,<-hps];simp
 refine⟨by omega,?_⟩;simp only[wB]at h;obtain⟨⟨eA,stA⟩,hevA,h⟩:=h;split at h
 case h_2=>cases h
 rename_i r1 v1 heA hkA;simp only at heA hkA h;subst heA;rw[wB]at h;obtain⟨⟨eB,stB⟩,hevB,h⟩:=h;split at h
 case h_2=>cases h
 rename_i r2 v2 hkB;simp only at hkB h;simp only[wD]at h;obtain⟨⟨l,hb,es'⟩,hpk,he⟩:=h;simp only[WM]at he;obtain⟨rfl,rfl,rfl⟩:=he
 let tm:=(rc.params.zip vs).foldl (fun tmps (t,a)=>tmps.setIfInBounds t a) rc.tmps
 have htm:tm=(params.zip vs.toList).foldl (fun tmps (t,a)=>tmps.setIfInBounds t a) rc.tmps:=by show(rc.params.zip vs).foldl _ rc.tmps=_;rw[<-Array.foldl_toList,Array.toList_zip,hrc.params,hps]
 have hsize:∀(l:List (Nat×Value)) (t:Array Value),(l.foldl (fun tmps (t,a)=>tmps.setIfInBounds t a) t).size=t.size:=by
  intro l
  induction l with
  | nil=>intro t;rfl
  | cons x l ih=>intro t;rw[we,ih,WK]
 have htsz:tm.size=rc.tmps.size:=by rw[htm];exact hsize _ _
 have hnt:=hrc.nt;rw[wG]at hpl;have hst:StOk w.heap G {fr:=mw params as++mw slots vals1,hp:=(SHK,.lp rid1 vals1 .ready)::rest} tm:=by
  refine⟨inv,?_⟩;rw[htm];refine sx params as vs.toList rc.tmps _ (by simpa using hlen) hal hnd (fun p hp=>by have:=of_decide_eq_true (hpl p hp);omega) (fun i h1 h2=>by have:=hrep i (by simpa using h1) h2;simpa using this) ?_;rw[<-hsl];refine vp info.slots vals1 fun j h1 h2=> ?_
  have:=hw.get j h1;have e:info.slots.getD j 0=info.slots[j]:=by simp[h2]
  rwa [e]at this
 have S:Setting P (F.inRound b) n gl cl:=⟨hmix,gu (F:=F.inRound b) hF hdep hcall.inRound n,fy (gu (fun _=>trivial) rfl hcallW n),hF⟩;have hreg:∀{G1:Gh} {b1:Nat},(∀q,SHK<=q->∀r,G1.reg q=some r->∃r0,G.reg q=some r0/\r0.le r)->G1.reg SHK=some (.blk b1 .sc)->b1=b:=fun hh h1=>by obtain⟨r0,h2,h3⟩:=hh SHK (wm _) _ h1;rw[hr0]at h2;cases h2;cases h3;rfl
 refine roundIn_of_wpIn (hF _) ?_;rw[hrc.assign,hrc.body];refine iR (N:=tm.size) (L:=True) S info.assign ida mA hA hrfA (fun _=>hltA) (cU (by omega) _ hdA) {tmps:=tm,defers:=[]} w G _ stA .norm hg hst rfl hevA _ fun a1 w1 G1 hcA=> ?_
 obtain⟨b1,rc1,info1,g1,g2,g3,g4,g5⟩:=hcA.ok.inv.obs SHK _ hkA;obtain rfl:=hreg (hcA.hand trivial) g1;have hs1:=g4.st;simp only at hs1;have hcB:=qd (x:=.loop {rc1 with state:=.busy}) (s':=.busy) hcA hkA g1 fun le=>⟨b1,_,info1,g1,World.putObj_heap_same (ww.1 g2).1,g3,⟨g4.params,g4.assign,g4.body,g4.nt,rfl⟩,g5.len,fun j hj=>(g5.get j hj).mono le⟩
 refine⟨_,run_beginRound g2 hs1.1,?_⟩;refine iR (N:=tm.size) (L:=True) S info.body idb mB hB hrfB (fun _=>hltB) (cU (by omega) _ hdB) a1 _ G1 _ stB eB (hg.moved hcB.move) hcB.ok (hcB.size) hevB _ fun a3 w3 G3 hcC=> ?_
 have hcD:=hcB.trans hcC;obtain⟨b3,rc3,info3,k1,k2,k3,k4,k5⟩:=hcD.ok.inv.obs SHK _ hkB;obtain rfl:=hreg (hcD.hand trivial) k1;have post:∀(jump:Option Code) (s':RS),(match s' with| .ready=>jump=none| .busy=>False| .done e=>jump=(match e with| .norm=>none| .ret=>some .ret| .exit id=>some (.exit id))/\jump.isNone=false) ->
   s'=(if eB= .norm then .ready else .done eB)->jump.isNone=decide (eB= .norm)->∃v w',(Instr.endRound b3 jump).run P w3= .ok v w'/\∃v1 G',Ending.returned v= .returned v1/\Kept w w'/\Move w.heap G ((SHK,.lp rid1 vals1 .ready)::rest) w'.heap G' (hb++cm 0 es') /\
    ((SHK,OB.lp rid1 vals1 .ready)::rest≠[]->∀q,SHK<=q->∀r,G'.reg q=some r->∃r0,G.reg q=some r0/\r0.le r)/\RepT w'.heap G' v1 (.bool (decide (eB= .norm))):=by
  intro jump s' hj hs' hv;refine⟨_,_,run_endRound jump k2,?_⟩;have hcE:=qd (x:=.loop {rc3 with state:=if jump.isNone then .ready else .done,pending:=jump}) (s':=s') hcD hkB k1 fun le=>⟨b3,_,info3,k1,World.putObj_heap_same (ww.1 k2).1,k3,⟨k4.params,k4.assign,k4.body,k4.nt,by
   cases s' with
   | ready=>simp only at hj;subst hj;exact⟨rfl,rfl⟩
   | busy=>exact hj.elim
   | done e=>simp only at hj;simp only[hj.2];exact⟨rfl,hj.1⟩⟩,k5.len,fun j hj=>(k5.get j hj).mono le⟩
  rw[hs']at hcE;obtain⟨p1,p2,p3,_,_⟩:=sy (vs:=[]) hcE.ok hpk rfl (fun i h=>by simp at h);refine⟨_,jn G3 _ _,rfl,hcE.kept,?_,fun _ q hq r hr=>hcE.hand trivial q hq r (p3 q hq r hr),?_⟩
  . have m:=hcE.move;exact⟨p1,m.size,m.imm,m.yl,m.same,fun b hb=>m.live b (p2 b hb),m.immNew⟩
  . rw[hv];exact(aq rfl).2 (.bool _)
 cases eB with
 | norm=>exact post none .ready rfl rfl rfl
 | ret=>exact post (some .ret) (.done .ret) ⟨rfl,rfl⟩ (by simp) (by simp)
 | exit id=>exact post (some (.exit id)) (.done (.exit id)) ⟨rfl,rfl⟩ (by simp) (by simp)
end
section
variable {P :Program} {F:Fence} {gl:Gl} {cl:Cl} {w:World} {G G':Gh} {st:St}
inductive FnOk (P:Program)(gl:Gl)(f:Nat)(fd:Fd):Prop
 | code (h:fd.giv=none) (hlt:f<RB) (ok:FnCode P gl f fd)
 | given (g:Cl->List AV->Hp->Option (AV×Hp×List OB)) (h:fd.giv=some fun _=>g) (hlt:f<RB) (ok:LX P f g)
 | round (rid:Nat) (params slots:List Nat) (as body:MC) (hf:f=RB+rid) (h:fd.giv=some (lz params slots as body)) (ok:RndCode P gl rid params slots as body)
theorem EN (hmix:P.follows .mixedOrders=true){tab:Nat->Option Fd}(htab:∀f fd,tab f=some fd->FnOk P gl f fd):∀n,CallOk P Fence.wide gl (call gl tab n)
 | 0=>⟨fun f as imps r os es _ h=>by simp[call]at h,fun rid as imps r os es h=>by simp[call]at h⟩
 | n+1=>by
   have ih:=EN hmix htab n;refine⟨fun f as imps r os es hlt h=> ?_,fun rid as imps r os es h=> ?_⟩
   . simp only[call,wB]at h;obtain⟨fd,hfd,h⟩:=h;rcases htab f fd hfd with ⟨hgiv,_,hok⟩|⟨g,hgiv,_,hok⟩|⟨rid,params,slots,mA,mB,hf,hgiv,hok⟩
     case given =>rw[hgiv]at h;exact hok gl _ ih f as imps r os es ((if_pos rfl).trans h)
     case round =>
      exfalso;rw[hgiv]at h;replace h:lz params slots mA mB gl (call gl tab n) as imps=some (r,os,es):=h
      cases imps with
      | nil=>simp[lz]at h
      | cons x l=>have:=hlt (by simp);omega
     rw[hgiv]at h;replace h:qM gl (call gl tab n) fd as imps=some (r,os,es):=h;obtain⟨fn,code,an,hfn,hname,hbody,_⟩:=hok.ok;refine⟨⟨fn,hfn,hname,by simp[hbody]⟩,fun m w vs G inv hg hlen hrep=> ?_⟩
     cases hgen:oy fd.pk with
     | true=>exact SD (fun _=>trivial) rfl rfl hmix ih ih hok hgen h m inv hg hlen hrep
     | false =>
       cases imps with
       | cons x l=>simp[qM,hgen]at h
       | nil =>have:=Oi hgen h;subst this;refine(J6 (fun _=>trivial) rfl rfl hmix ih ih hok hgen h m inv hg hlen hrep).mono ?_;rintro e w' ⟨v,G',h1,h2,h3,h4⟩;exact⟨v,G',h1,h2,h3,fun h=>absurd rfl h,h4⟩
   . simp only[call,wB]at h;obtain⟨fd,hfd,h⟩:=h;rcases htab _ fd hfd with ⟨hgiv,hlt,hok⟩|⟨g,hgiv,hlt,hok⟩|⟨rid',params,slots,mA,mB,hf,hgiv,hok⟩
     case code=>omega
     case given=>omega
     obtain rfl:rid=rid':=by omega
     rw[hgiv]at h;exact fun m w vs G b rc vals=>Rw (fun _=>trivial) rfl hmix ih ih hok h m w vs G b rc vals
end
end Go.Ev
namespace Go.Ev
open Go
inductive Kd where
 | bool
 | int (k:IntKind)
 | str
 | sl (e:Kd)
 | st (fs:List Kd)
 | ar (n:Nat) (e:Kd)
 deriving Inhabited
mutual
def Kd.sh :Kd->Sh
 | .bool=>.sc
 | .int _=>.sc
 | .str=>.sc
 | .sl _=>.sc
 | .st fs=>.st (Kd.shs fs)
 | .ar n e=>.ar n e.sh
def Kd.shs :List Kd->List Sh
 | []=>[]
 | k::l=>k.sh::Kd.shs l
end
def qL (P:Program):Nat->TypeId->Option Kd
 | 0,_=>none
 | n+1,t =>
   match P.underlying t with
   | some .bool=>some .bool
   | some (.int k)=>some (.int k)
   | some .string=>some .str
   | some (.slice e)=>(qL P n e).bind fun k=>if P.cellsOf e=k.sh.size/\0<k.sh.size then some (.sl k)else none
   | some (.struct fs)=>(bw (fun f=>qL P n f.type) fs.toList).bind fun l =>
      if(fs.toList.zipIdx.all fun q=>q.1.offset==Sh.sizes ((Kd.shs l).take q.2)&&(((Kd.shs l)[q.2]?).map (·.size)==some (P.cellsOf q.1.type)))&&P.cellsOf t==Sh.sizes (Kd.shs l)then some (.st l)else none
   | some (.array k e)=>(qL P n e).bind fun q=>if P.cellsOf e=q.sh.size/\P.cellsOf t=k*q.sh.size then some (.ar k q)else none
   | _=>none
mutual
def avD {H:Type}:Kd->DataW H->AV
 | .bool,.lit (.bool b)=>.bool b
 | .int k,.lit (.int _ n)=>.int k n
 | .str,.lit (.string b)=>.str b
 | .sl e,.nil=>.lst false e.sh []
 | .sl e,.slice els _=>.lst false e.sh (els.map (avD e))
 | .st fs,.agg ps=>.agg (u4 fs ps)
 | .ar _ e,.agg ps=>.agg (ps.map (avD e))
 | _,_=>.unk
def u4 {H:Type}:List Kd->List (DataW H)->List AV
 | k::fs,d::ps=>avD k d::u4 fs ps
 | _,_=>[]
end
mutual
def HasKd :Kd->AV->Prop
 | .bool,a=>∃b,a= .bool b
 | .int k,a=>∃n,a= .int k n/\k.min<=n/\n<=k.max
 | .str,a=>∃l,a= .str l/\l.length<=Go.maxLen
 | .sl e,a=>∃l,a= .lst false e.sh l/\l.length<=Go.maxLen/\∀x∈l,HasKd e x
 | .st fs,a=>∃l,a= .agg l/\HasKds fs l
 | .ar n e,a=>∃l,a= .agg l/\l.length=n/\∀x∈l,HasKd e x
def HasKds :List Kd->List AV->Prop
 | [],l=>l=[]
 | k::fs,l=>∃a r,l=a::r/\HasKd k a/\HasKds fs r
end
mutual
theorem HasKd.ok :∀{k:Kd} {a:AV},HasKd k a->aD k.sh a=true/\a.plain=true/\a.wf
 | .bool,a,h=>by obtain⟨b,rfl⟩:=h;exact⟨rfl,rfl,trivial⟩
 | .int k,a,h=>by obtain⟨n,rfl,_⟩:=h;exact⟨rfl,rfl,trivial⟩
 | .str,a,h=>by obtain⟨l,rfl,_⟩:=h;exact⟨rfl,rfl,trivial⟩
 | .sl e,a,h=>by obtain⟨l,rfl,_⟩:=h;exact⟨rfl,rfl,trivial⟩
 | .st fs,a,h=>by obtain⟨l,rfl,h⟩:=h;obtain⟨h1,h2⟩:=HasKds.ok h;refine⟨by rw[Kd.sh,fJ];exact h1,rfl,h2⟩
 | .ar n e,a,h=>by
   obtain⟨l,rfl,hn,h⟩:=h;refine⟨?_,rfl,?_⟩
   . rw[Kd.sh,bS,wr,beq_iff_eq,wG];exact⟨hn,fun x hx=>(HasKd.ok (h x hx)).1⟩
   . rw[AV.wf,AV.wfp_iff];exact fun x hx=>(HasKd.ok (h x hx)).2
theorem HasKds.ok :∀{fs:List Kd} {l:List AV},HasKds fs l->bh (Kd.shs fs) l=true/\AV.wfp l
 | [],l,h=>by subst h;exact⟨rfl,trivial⟩
 | k::fs,l,h=>by obtain⟨a,r,rfl,h1,h2⟩:=h;obtain⟨g1,g2⟩:=HasKds.ok h2;obtain⟨k1,k2,k3⟩:=HasKd.ok h1;exact⟨by simp[Kd.shs,bh,k1,g1],k2,k3,g2⟩
end
theorem rM :∀(l:List Kd),(Kd.shs l).length=l.length
 | []=>rfl
 | k::l=>by simp[Kd.shs,rM l]
def oW (H:aT):Gh:={imm:=fun b=>b<H.size,reg:=fun _=>none,yl:=fun _=>none}
section read
variable {H :Type} {enc:TypeId×Value->H} {P:Program} {W:World} {sp:Nat->Bool} {held:Bool}
theorem jk {α β:Type}{f:α->Option β}:∀{l:List α} {r:List β},l.mapM f=some r->r.length=l.length/\∀i (h:i<l.length) (h':i<r.length),f l[i]=some r[i]
 | [],r,h=>by simp at h;subst h;exact⟨rfl,fun i h=>by simp at h⟩
 | a::l,r,h=>by
   rw[List.mapM_cons]at h;simp only[Option.bind_eq_bind,wB,Option.pure_def,wE]at h;obtain⟨b,hb,r',hr,rfl⟩:=h;obtain⟨h1,h2⟩:=jk hr;refine⟨by simp[h1],fun i hi hi'=> ?_⟩
   cases i with
   | zero=>exact hb
   | succ i=>exact h2 i (by simpa using hi) (by simpa using hi')
theorem nq {a:Addr}{v:Value}(h:W.cell? a=some v):a.spot=none/\∃c e fz,W.heap[a.block]? =some (.cells c e fz)/\c[a.off]? =some v:=by
 unfold World.cell? at h;split at h
 . rename_i c e fz hb;split at h
   . cases h
   . rename_i hs;refine⟨by simpa using hs,c,e,fz,hb,h⟩
 . cases h
theorem GY (a:Addr)(h:a.spot=none)(i:Nat):a.add i=⟨a.block,a.off+i,none⟩:=by obtain⟨b,o,s⟩:=a;simp only at h;subst h;exact cY b o i
theorem GU {base n:Nat}{a:Addr}{cs:List Value}(h:W.cells? base a n=some cs):cs.length=n/\∀i (h:i<cs.length),W.cell? (a.add i)=some cs[i]:=by
 unfold World.cells? at h;split at h
 . obtain⟨h1,h2⟩:=jk h;rw[wW]at h1;refine⟨h1,fun i hi=> ?_⟩;have:=h2 i (by simpa using by omega) hi;simpa using this
 . cases h
def zy (W:World)(cs:List Value)(a:AV):Prop:=RepL W.heap (oW W.heap) cs a.flat
theorem mR {n:Nat}:∀{l:List AV} {css:List (List Value)},css.length=l.length->(∀i (h:i<css.length) (h':i<l.length),RepL W.heap (oW W.heap) css[i] l[i].flat)->RepL W.heap (oW W.heap) css.flatten (AV.flats l)
 | [],[],_,_=>⟨rfl,fun j h=>by simp at h⟩
 | a::l,cs::css,h,hr=>by rw[wX,AV.flats];refine fi (hr 0 (by simp) (by simp)) (mR (n:=n) (by simpa using h) fun i hi hi'=> ?_);have:=hr (i+1) (by simpa using hi) (by simpa using hi');simpa using this
 | [],_::_,h,_=>by simp at h
 | _::_,[],h,_=>by simp at h
theorem Lr {α:Type}(n:Nat):∀(k:Nat) (cs:List α),cs.length=k*n->((wO k).map fun i=>(cs.drop (i*n)).take n).flatten=cs
 | 0,cs,h=>by simp at h;subst h;rfl
 | k+1,cs,h=>by
   rw[w7,w5,wX,wU];have:=Lr n k (cs.drop n) (by rw[wa,h,Nat.add_mul];omega);have e:(wO k).map ((fun i=>(cs.drop (i*n)).take n)∘Nat.succ)=(wO k).map fun i=>((cs.drop n).drop (i*n)).take n:=by apply w8;intro i _;simp only[WN,wg];rw[show i.succ*n=n+i*n by rw[Nat.succ_mul];omega]
   rw[e,this];simp
theorem II {α:Type}:∀(ss:List Nat) (cs:List α),cs.length=ss.sum->((wO ss.length).map fun i=>(cs.drop (ss.take i).sum).take (ss.getD i 0)).flatten=cs
 | [],cs,h=>by simp at h;subst h;rfl
 | s::ss,cs,h=>by
   simp only[wJ];rw[w7,w5,wX,wU];have:=II ss (cs.drop s) (by rw[wa,h];simp);have e:(wO ss.length).map ((fun i=>(cs.drop ((s::ss).take i).sum).take ((s::ss).getD i 0))∘Nat.succ)=(wO ss.length).map fun i=>((cs.drop s).drop (ss.take i).sum).take (ss.getD i 0):=by apply w8;intro i _;simp[WN,wg]
   rw[e,this];simp
theorem pf :∀(l:List Sh),Sh.sizes l=(l.map (·.size)).sum
 | []=>rfl
 | s::l=>by simp[Sh.sizes,pf l]
theorem uu {H:Type}:∀{fs:List Kd} {ps:List (DataW H)},fs.length=ps.length->(u4 fs ps).length=fs.length/\∀i (h:i<(u4 fs ps).length) (h1:i<fs.length) (h2:i<ps.length),(u4 fs ps)[i]=avD fs[i] ps[i]
 | [],[],_=>⟨rfl,fun i h=>by simp[u4]at h⟩
 | k::fs,d::ps,h=>by
   obtain⟨g1,g2⟩:=uu (fs:=fs) (ps:=ps) (by simpa using h);refine⟨by simp[u4,g1],fun i h h1 h2=> ?_⟩
   cases i with
   | zero=>rfl
   | succ i =>have:=g2 i (by simpa[u4]using h) (by simpa using h1) (by simpa using h2);simpa[u4]using this
 | [],_::_,h=>by simp at h
 | _::_,[],h=>by simp at h
theorem pM :∀{fs:List Kd} {l:List AV},l.length=fs.length->(∀i (h:i<l.length) (h':i<fs.length),HasKd fs[i] l[i])->HasKds fs l
 | [],[],_,_=>rfl
 | k::fs,a::l,h,hk=>⟨a,l,rfl,hk 0 (by simp) (by simp),pM (by simpa using h) fun i hi hi'=>by
    have:=hk (i+1) (by simpa using hi) (by simpa using hi');simpa using this⟩
 | [],_::_,h,_=>by simp at h
 | _::_,[],h,_=>by simp at h
theorem Qc {k:IntKind}{n:Int}(h:(Lit.int k n).wf=true):k.min<=n/\n<=k.max:=by simpa[Lit.wf]using h
theorem zH :∀(m:Nat) (t:TypeId) (kd:Kd),qL P m t=some kd->∀(fuel:Nat) (cs:List Value) (x:DataW H×List MemPlace),DataW.trod enc P W 0 sp held fuel t cs=some x ->
  HasKd kd (avD kd x.1)/\zy W cs (avD kd x.1):=by
 intro m
 induction m with
 | zero=>intro t kd h;simp[qL]at h
 | succ m ih =>
   intro t kd hk fuel cs x hx
   cases fuel with
   | zero=>simp[DataW.trod]at hx
   | succ fuel =>
     simp only[qL]at hk;split at hk
     . rename_i hu;cases hk;simp only[DataW.trod,hu]at hx;split at hx<;>first|(simp at hx;done)|skip
       all_goals first|(cases hx;exact⟨⟨_,rfl⟩,(ei rfl).2 (.bool _)⟩)|(simp_all;done)
     . rename_i k hu;cases hk;simp only[DataW.trod,hu]at hx;split at hx<;>first|(simp at hx;done)|skip
       all_goals first
        | (rename_i k' n' heq;cases heq;rw[wC]at hx;obtain⟨⟨rfl,hw⟩,hx⟩:=hx;cases hx;exact⟨⟨_,rfl,Qc hw⟩,(ei rfl).2 (.int _ _)⟩)
        | (simp_all;done)
     . rename_i hu;cases hk;simp only[DataW.trod,hu]at hx;split at hx<;>first|(simp at hx;done)|skip
       all_goals first
        | (rename_i s heq;rw[wC]at hx;obtain⟨hs,hx⟩:=hx;cases hx;refine⟨⟨_,rfl,?_⟩,(ei rfl).2 (.str _)⟩;rw[WF];exact hs)
        | (simp_all;done)
     . rename_i e hu;simp only[wB]at hk;obtain⟨ke,hke,hk⟩:=hk;rw[wC]at hk;obtain⟨⟨hce,hpos⟩,hk⟩:=hk;cases hk;simp only[DataW.trod,hu]at hx;split at hx<;>first|(simp at hx;done)|skip
       all_goals (try (simp_all;done))
       . cases hx;refine⟨⟨[],rfl,by simp,fun x hx=>by cases hx⟩,(ei rfl).2 (.lstE _ _ _ _ fun h=>by cases h)⟩
       . rename_i e' a len cap heq;cases heq;rw[wC]at hx;obtain⟨⟨_,hle,hmax⟩,hx⟩:=hx;simp only[wB,wD]at hx;obtain⟨elems,hel,rest,hrest,rfl⟩:=hx;obtain⟨h1,h2⟩:=jk hel;rw[wW]at h1;have hone:∀i (hi:i<elems.length),HasKd ke (avD ke elems[i].1)/\∀j (hj:j<(avD ke elems[i].1).flat.length),∃v,W.cell? ((a.add (i*ke.sh.size)).add j)=some v/\RepS W.heap (oW W.heap) v (avD ke elems[i].1).flat[j]:=fun i hi=>by have:=h2 i (by simpa using by omega) hi;simp only[wQ,hce,wB]at this;obtain⟨cs,hcs,ht⟩:=this;obtain⟨g1,g2⟩:=ih e ke hke fuel cs _ ht;refine⟨g1,fun j hj=> ?_⟩;obtain⟨k1,k2⟩:=GU hcs;have hl:=g2.len;exact⟨cs[j],k2 j (by omega),g2.get j (by omega) hj⟩
         have hall:∀x∈(elems.map (·.1)).map (avD ke),HasKd ke x:=fun x hx=>by simp only[wU,wh,WN]at hx;obtain⟨y,hy,rfl⟩:=hx;obtain⟨i,hi,rfl⟩:=w9 hy;exact(hone i hi).1
         have hlen:((elems.map (·.1)).map (avD ke)).length=len:=by simp[h1]
         refine⟨⟨_,rfl,by rw[hlen];omega,hall⟩,(ei rfl).2 ?_⟩;simp only[avD];rw[<-hlen];refine oo (by omega) (fun h=>by cases h) (fun x hx=>(hall x hx).ok) ?_;by_cases h0:elems=[]
         . left;simp[h0]
         . right;have hpos':0<elems.length:=List.length_pos_iff.2 h0;have hsz:∀i (hi:i<elems.length),(avD ke elems[i].1).flat.length=ke.sh.size:=fun i hi=>aB _ _ (hone i hi).1.ok.1
           obtain⟨v0,hv0,_⟩:=(hone 0 hpos').2 0 (by rw[hsz 0 hpos'];exact hpos);have hsp:a.spot=none:=by
            cases ha:a.spot with
            | none=>rfl
            | some q =>
              exfalso;obtain⟨b,o,s⟩:=a;simp only at ha;subst ha;have ez:((⟨b,o,some q⟩:Addr).add (0*ke.sh.size)).add 0=⟨b,o,some q⟩:=by simp[Addr.add]
              rw[ez]at hv0;have:=(nq hv0).1;cases this
           simp only[GY a hsp]at hone hv0;simp only[cY]at hone hv0;obtain⟨_,c,et,fz,hb,_⟩:=nq hv0;simp only at hb;refine⟨a.block,a.off,c,et,fz,?_,(ww.1 hb).1,hb,?_⟩
           . obtain⟨b,o,s⟩:=a;simp only at hsp;subst hsp;rfl
           ·
            intro j hj;have hflen:(AV.flats ((elems.map (·.1)).map (avD ke))).length=elems.length*ke.sh.size:=by rw[bj (n:=ke.sh.size) _ (fun x hx=>aB _ _ (hall x hx).ok.1)];simp
            rw[hflen]at hj;have hq:j/ke.sh.size<elems.length:=by rw[Nat.div_lt_iff_lt_mul hpos];exact hj
            have hr:j%ke.sh.size<ke.sh.size:=Nat.mod_lt _ hpos;obtain⟨v,hv,hrv⟩:=(hone _ hq).2 (j%ke.sh.size) (by rw[hsz _ hq];exact hr);obtain⟨_,c',et',fz',hb',hcv⟩:=nq hv;simp only at hb' hcv;rw[hb]at hb';cases hb';have hj':a.off+j=a.off+j/ke.sh.size*ke.sh.size+j%ke.sh.size:=by have:=wj j ke.sh.size;rw[wk]at this;omega
            refine⟨v,by rw[hj'];exact hcv,?_⟩;have hq':j/ke.sh.size<((elems.map (·.1)).map (avD ke)).length:=by simpa using hq
            obtain⟨pre,post,f1,f2,_⟩:=cr (n:=ke.sh.size) (l:=(elems.map (·.1)).map (avD ke)) (i:=j/ke.sh.size) (fun x hx=>aB _ _ (hall x hx).ok.1) (wH hq');have e1:((elems.map (·.1)).map (avD ke))[j/ke.sh.size]=avD ke (elems[j/ke.sh.size].1):=by simp
            rw[e1]at f1;have e2:(AV.flats ((elems.map (·.1)).map (avD ke)))[j]? =some ((avD ke elems[j/ke.sh.size].1).flat[j%ke.sh.size]'(by rw[hsz _ hq];exact hr)):=by
             rw[f1,wY,List.getElem?_append_right (by rw[f2];exact Nat.div_mul_le_self _ _),f2,List.getElem?_append_left (by
              have:=wj j ke.sh.size;rw[wk]at this;rw[hsz _ hq];omega)]
             have:j-j/ke.sh.size*ke.sh.size=j%ke.sh.size:=by have:=wj j ke.sh.size;rw[wk]at this;omega
             rw[this,wH]
            have e3:=(List.getElem?_eq_some_iff.1 e2).2;rw[e3];exact hrv
     . rename_i fs hu;simp only[wB]at hk;obtain⟨l,hl,hk⟩:=hk;rw[wC,wr,wG,beq_iff_eq]at hk;obtain⟨⟨hoff,hsize⟩,hk⟩:=hk;cases hk;obtain⟨l1,l2⟩:=eR hl
       have key:∀(cs:List Value),(if cs.length=P.cellsOf t then(fs.toList.mapM fun f=>DataW.trod enc P W 0 sp held fuel f.type ((cs.drop f.offset).take (P.cellsOf f.type))).map (fun xs=>(DataW.agg (xs.map (·.1)),xs.flatMap (·.2)))else none)=some x ->
         HasKd (.st l) (avD (.st l) x.1)/\zy W cs (avD (.st l) x.1):=by
        intro cs hx;rw[wC,wD]at hx;obtain⟨hcl,xs,hxs,rfl⟩:=hx;obtain⟨x1,x2⟩:=jk hxs;obtain⟨a1,a2⟩:=uu (fs:=l) (ps:=xs.map (·.1)) (by simp;omega);have hsl:=rM l;have hone:∀i (hi:i<l.length),(HasKd l[i] (avD l[i] (xs[i]'(by omega)).1))/\zy W ((cs.drop (Sh.sizes ((Kd.shs l).take i))).take ((Kd.shs l)[i]'(by omega)).size) (avD l[i] (xs[i]'(by omega)).1):=fun i hi=>by have h1:=l2 i (by omega) hi;have h2:=x2 i (by omega) (by omega);have h3:=hoff (fs.toList[i]'(by omega),i) (by rw[List.mk_mem_zipIdx_iff_getElem?];simp[show i<fs.size by simpa using (by omega:i<fs.toList.length)]);simp only[wr,beq_iff_eq]at h3;obtain⟨h3,h4⟩:=h3;rw[wH (by omega)]at h4;simp only[Option.map_some,wE]at h4;rw[h3,<-h4]at h2;exact ih _ _ h1 fuel _ _ h2
        simp only[avD];refine⟨⟨_,rfl,pM a1 fun i hi hi'=> ?_⟩,?_⟩
        . rw[a2 i hi hi' (by simp;omega)];simpa using (hone i hi').1
        . unfold zy;simp only[AV.flat];have hp:=II ((Kd.shs l).map (·.size)) cs (by rw[hcl,hsize,pf]);rw[<-hp];refine mR (n:=0) (by simp[a1,hsl]) fun i hi hi'=> ?_
          have hil:i<l.length:=by omega
          rw[a2 i hi' hil (by simp;omega)];simp only[wb,wQ];have:=(hone i hil).2;unfold zy at this;rw[pf,List.map_take]at this;rw[wR,List.getElem?_map,wH (by omega)];exact this
       simp only[DataW.trod,hu]at hx;exact key _ hx
     . rename_i k e hu;simp only[wB]at hk;obtain⟨ke,hke,hk⟩:=hk;rw[wC]at hk;obtain⟨⟨hce,hct⟩,hk⟩:=hk;cases hk
       have key:∀(cs:List Value),(if cs.length=P.cellsOf t then((wO k).mapM fun i=>DataW.trod enc P W 0 sp held fuel e ((cs.drop (i*P.cellsOf e)).take (P.cellsOf e))).map (fun xs=>(DataW.agg (xs.map (·.1)),xs.flatMap (·.2)))else none)=some x ->
         HasKd (.ar k ke) (avD (.ar k ke) x.1)/\zy W cs (avD (.ar k ke) x.1):=by
        intro cs hx;rw[wC,wD]at hx;obtain⟨hcl,xs,hxs,rfl⟩:=hx;obtain⟨x1,x2⟩:=jk hxs;rw[wW]at x1;have hone:∀i (hi:i<xs.length),HasKd ke (avD ke xs[i].1)/\zy W ((cs.drop (i*ke.sh.size)).take ke.sh.size) (avD ke xs[i].1):=fun i hi=>by have h2:=x2 i (by simpa using by omega) hi;simp only[wQ,hce]at h2;exact ih _ _ hke fuel _ _ h2
        simp only[avD];refine⟨⟨_,rfl,by simp[x1],fun y hy=> ?_⟩,?_⟩
        . simp only[wU,wh,WN]at hy;obtain⟨z,hz,rfl⟩:=hy;obtain⟨i,hi,rfl⟩:=w9 hz;exact(hone i hi).1
        . unfold zy;simp only[AV.flat];have hp:=Lr ke.sh.size k cs (by rw[hcl,hct]);rw[<-hp];refine mR (n:=0) (by simp[x1]) fun i hi hi'=> ?_
          simp only[wb,wQ];exact(hone i (by simpa using hi')).2
       simp only[DataW.trod,hu]at hx;exact key _ hx
     . cases hk
end read
end Go.Ev
namespace Go.Ev
open Go Go.ChangeShapes Go.RowKit
section
variable {H :Type} {enc:TypeId×Value->H} {P:Program} {W W':World} {base:Nat} {sp:Nat->Bool} {held:Bool}
theorem p9 :∀{ts:List TypeId} {vs:List Value} {ds:List (DataW H)} {ps:List MemPlace},DataW.TrodAll enc P W base sp held ts vs ds ps ->
  vs.length=ts.length/\ds.length=ts.length/\∀i (h:i<ts.length) (h1:i<vs.length) (h2:i<ds.length),∃p,DataW.Trod enc P W base sp held ts[i] vs[i] ds[i] p/\∀x∈p,x∈ps
 | [],vs,ds,ps,h=>by obtain⟨rfl,rfl,rfl⟩:=trodAll_nil h;exact⟨rfl,rfl,fun i h=>by simp at h⟩
 | t::ts,vs,ds,ps,h=>by
   obtain⟨v,vs1,d,ds1,a,b,rfl,rfl,rfl,h1,h2⟩:=trodAll_cons h;obtain⟨g1,g2,g3⟩:=p9 h2;refine⟨by simp[g1],by simp[g2],fun i hi hi1 hi2=> ?_⟩
   cases i with
   | zero=>exact⟨a,h1,fun x hx=>by simp[hx]⟩
   | succ i =>obtain⟨p,k1,k2⟩:=g3 i (by simpa using hi) (by simpa using hi1) (by simpa using hi2);exact⟨p,by simpa using k1,fun x hx=>by simp[k2 x hx]⟩
structure Grew (W W':World):Prop where
 kept:Kept W W'
 size:W.heap.size<=W'.heap.size
 same:∀b,b<W.heap.size->W'.heap[b]? =W.heap[b]?
theorem Grew.keptBut (h:Grew W W')(may:MemPlace->Prop):W.keptBut W' may :=
 ⟨h.kept.1,h.kept.2,fun i hi=>by rw[h.same i hi];exact(World.keptBut_refl W may).2.2 i hi⟩
theorem Grew.sameAt (h:Grew W W'){p:MemPlace}(hp:p.block<W.heap.size):W.sameAt W' p:=by
 cases p with
 | cell b o=>exact World.cell?_of_block (w:=W) (h.same b hp)
 | map b=>exact h.same b hp
theorem Grew.frozen (h:Grew W W'){a:Addr}(ha:a.block<W.heap.size):W'.frozen? a=W.frozen? a:=by unfold World.frozen?;rw[h.same _ ha]
theorem mF (hl:laidOutB P=true)(hg:Grew W W'):∀{ts:List TypeId} {vs:List Value} {ds:List (DataW H)} {ps:List MemPlace},(ts.all fun t=>P.readableRec t&&decide (t<P.types.size))=true ->
  DataW.TrodAll enc P W 0 (fun _=>true) true ts vs ds ps->(∀p∈ps,p.block<W.heap.size)->(∀p∈ps,sp p.block=true)->DataW.TrodAll enc P W' 0 sp true ts vs ds ps
 | [],vs,ds,ps,_,h,_,_=>by obtain⟨rfl,rfl,rfl⟩:=trodAll_nil h;exact rfl
 | t::ts,vs,ds,ps,hr,h,hlt,hsp=>by
   simp only[List.all_cons,wr,decide_eq_true_eq]at hr;obtain⟨v,vs1,d,ds1,a,b,rfl,rfl,rfl,h1,h2⟩:=trodAll_cons h;exact⟨a,b,WideElems.Trod_stays hl hr.1.1 hr.1.2 h1 (fun p hp=>hg.sameAt (hlt p (by simp[hp]))) (fun p hp=>hsp p (by simp[hp])),
    mF hl hg hr.2 h2 (fun p hp=>hlt p (by simp[hp])) (fun p hp=>hsp p (by simp[hp])),rfl⟩
theorem x6 {f:Func}{s:ChangeSpec}{apart fresh handsOn again:Bool}{args:Array Value}{v:Value}{ds gs:List (DataW H)}{before pa pv:List MemPlace}
  (hW:DataW.Whole enc P f.params.toList s.vars apart W args.toList ds gs before)
  (hres:∀(b:Nat) (sp:Nat->Bool) (hd:Bool),DataW.TrodAll enc P W' b sp hd f.resultTypes.toList (v.resultList f.resultTypes.size) (s.fn H (ds++gs)).results [])
  (hargs:∀sp:Nat->Bool,(∀p∈before,sp p.block=true)->DataW.TrodAll enc P W' 0 sp true f.params.toList args.toList (s.fn H (ds++gs)).args pa)
  (hvars:∀sp:Nat->Bool,(∀p∈before,sp p.block=true)->DataW.TrodVars enc P W' sp s.vars (s.fn H (ds++gs)).vars pv)
  (hps:before=pa++pv) (hg:Grew W W')
  (hok:∀(j:Nat) (t:TypeId) (r:Value),f.resultTypes[j]? =some t->(v.resultList f.resultTypes.size)[j]? =some r->Value.okWide P W' .any 0 t r) :
  s.post enc P f apart fresh handsOn again W args v W':=by
 have hlt:∀p∈before,p.block<W.heap.size:=fun p hp=>hW.lt p hp
 have hold:∀p∈before,(fun b=>decide (b<W.heap.size)) p.block=true:=fun p hp=>by simpa using hlt p hp
 refine⟨ds,gs,before,[],pa,pv,hW,hres _ _ _,hargs _ hold,hvars _ hold,World.keptBut_mono (fun p hp=>⟨hp,?_⟩) (hg.keptBut (· ∈before)),fun _=> ?_⟩
 . rw[hps,w0]at hp;exact Or.inr hp
 . obtain⟨_,_,_,_,_,hz,hn⟩:=hW;refine⟨hok,_,_,([]++pa)++pv,⟨[]++pa,pv,trodAll_append (hargs _ (fun _ _=>rfl)) (hres _ _ _),hvars _ (fun _ _=>rfl),rfl,?_,?_⟩,?_⟩
   . intro b off hp;have hm:MemPlace.cell b off∈before:=by rw[hps];simpa using hp
     rw[hg.frozen (show b<W.heap.size from hlt _ hm)];exact hz b off hm
   . intro ha;have:=hn ha;rw[hps]at this;simpa using this
   . intro p hp _;rw[hps];simpa using hp
end
section
variable {H :Type} {enc:TypeId×Value->H} {P:Program} {W:World}
theorem M0 {base:Nat}{m:Nat}{t:TypeId}{kd:Kd}{v:Value}{a:AV}(hk:qL P m t=some kd)(hv:Value.okWide P W .any base t v)(ha:HasKd kd a)(hr:zy W v.cells.toList a):RepV W.heap (oW W.heap) v a:=by
 obtain⟨h1,h2,h3⟩:=ha.ok;refine⟨bV h1,h3,_,hr,?_⟩
 cases m with
 | zero=>simp[qL]at hk
 | succ m =>
   simp only[qL]at hk;split at hk
   . rename_i hu;cases hk;obtain⟨b,rfl⟩:=ha;simp only[Value.okWide,hu,Cell.okWide,Cell.ok]at hv;cases v<;>simp_all[dQ,AV.isAgg,Value.cells]
   . rename_i k hu;cases hk;obtain⟨b,rfl,_⟩:=ha;simp only[Value.okWide,hu,Cell.okWide,Cell.ok]at hv;cases v<;>simp_all[dQ,AV.isAgg,Value.cells]
   . rename_i hu;cases hk;obtain⟨b,rfl,_⟩:=ha;simp only[Value.okWide,hu,Cell.okWide,Cell.ok]at hv;cases v<;>simp_all[dQ,AV.isAgg,Value.cells]
   . rename_i e hu;simp only[wB]at hk;obtain⟨ke,_,hk⟩:=hk;rw[wC]at hk;cases hk.2;obtain⟨b,rfl,_⟩:=ha;simp only[Value.okWide,hu,Cell.okWide,Cell.ok]at hv;cases v<;>simp_all[dQ,AV.isAgg,Value.cells]
   . rename_i fs hu;simp only[wB]at hk;obtain⟨l,_,hk⟩:=hk;rw[wC]at hk;cases hk.2;obtain⟨b,rfl,_⟩:=ha;simp only[Value.okWide,hu]at hv;obtain⟨cs,rfl,_⟩:=hv;simp[dQ,AV.isAgg,Value.cells]
   . rename_i k e hu;simp only[wB]at hk;obtain⟨l,_,hk⟩:=hk;rw[wC]at hk;cases hk.2;obtain⟨b,rfl,_⟩:=ha;simp only[Value.okWide,hu]at hv;obtain⟨cs,rfl,_⟩:=hv;simp[dQ,AV.isAgg,Value.cells]
   . cases hk
def TabOk (Hm:aT)(gl:Gl):Prop :=
 ∀i sh a,gl.tbl i=some (sh,a)->(oW Hm).imm i/\aD sh a=true/\a.plain=true/\a.wf/\∃c e fz,Hm[i]? =some (.cells c e fz)/\RepC Hm (oW Hm) c 0 a.flat
theorem TabOk.none {Hm:aT}{ri:Nat->Option RInfo}:TabOk Hm ⟨fun _=>.none,ri⟩:=fun _ _ _ h=>by cases h
def zk (Hm:aT)(gl:Gl):Gh:={imm:=fun b=>b<Hm.size,reg:=fun _=>none,yl:=gl.ri}
theorem xv (Hm:aT)(gl:Gl):Le Hm (oW Hm) Hm (zk Hm gl):=⟨fun _ h=>⟨h,rfl⟩,(fun _ _ h=>by cases h),(fun _ _ h=>by cases h)⟩
theorem Du (Hm:aT)(gl:Gl):Inv Hm (zk Hm gl) [] where
 obs k o h:=by cases h
 out k _:=rfl
 dist k k' b r r' h:=(h.none rfl).elim
 imm b hb:=⟨hb,fun⟨k,r,_,h⟩=>h.none rfl⟩
 lt b hb:=by obtain⟨k,r,_,h⟩:=hb;exact(h.none rfl).elim
theorem Gm {gl:Gl}{laid:List (String×DataW Unit)}(h:laidMet P laid W)
  (hgl:∀g sh a,gl.tbl g=some (sh,a)->∃x∈laid,∃m t kd,P.globalNamed x.1=some g/\(P.globals[g]?).map (·.type)=some t/\qL P m t=some kd/\sh=kd.sh/\a=avD kd x.2):TabOk W.heap gl:=by
 obtain⟨ps,hl,_⟩:=h;have key:∀{laid:List (String×DataW Unit)} {ps:List MemPlace},DataW.LaidVars P W laid ps->∀x∈laid,∃g t cs fuel p,P.globalNamed x.1=some g/\(P.globals[g]?).map (·.type)=some t/\W.var? P x.1=some cs /\
   DataW.trod (fun _=>()) P W 0 (fun _=>true) false fuel t cs.toList=some (x.2,p):=by
  intro laid
  induction laid with
  | nil=>intro ps _ x hx;cases hx
  | cons y laid ih =>
    intro ps h x hx;obtain⟨n,d⟩:=y;obtain⟨g,t,cs,fuel,p,q,h1,h2,h3,h4,h5,_⟩:=h;rcases wK.1 hx with rfl|hx
    . exact⟨g,t,cs,fuel,p,h1,h2,h3,h4⟩
    . exact ih h5 x hx
 intro g sh a hga;obtain⟨x,hx,m,t,kd,h1,h2,h3,rfl,rfl⟩:=hgl g sh a hga;obtain⟨g',t',cs,fuel,p,k1,k2,k3,k4⟩:=key hl x hx;rw[h1]at k1;cases k1;rw[h2]at k2;cases k2;obtain⟨r1,r2⟩:=zH m t kd h3 fuel _ _ k4;obtain⟨s1,s2,s3⟩:=r1.ok;simp only[World.var?,h1,Option.bind_some]at k3;split at k3
 . rename_i cs' e fz hb;cases k3;refine⟨(ww.1 hb).1,s1,s2,s3,cs,e,fz,hb,fun j hj=> ?_⟩;have hlen:=r2.len;have hlen':cs.toList.length=(avD kd x.2).flat.length:=hlen;have hjc:j<cs.toList.length:=by omega
   refine⟨cs.toList[j],?_,r2.get j hjc hj⟩;rw[wo];simp only[WF]at hjc;simp[hjc]
 . cases k3
theorem ym {gl:Gl}{tab:Nat->Option Fd}{nn f:Nat}{fn:Func}{kds:List Kd}{tb:TypeId}{s:ChangeSpec}{apart fresh handsOn again:Bool}{base:Nat}{args:Array Value}{ds gs:List (DataW H)}{before:List MemPlace}
  (hmix:P.follows .mixedOrders=true) (htab:∀f fd,tab f=some fd->FnOk P gl f fd) (hl:laidOutB P=true) (hkds:bw (qL P 8) fn.params.toList=some kds)
  (hread:(fn.params.toList.all fun t=>P.readableRec t&&decide (t<P.types.size))=true) (hres:fn.resultTypes= #[tb]) (htb:P.underlying tb=some .bool) (hvars:s.vars=[])
  (hs:∀ds:List (DataW H),ds.length=fn.params.size->s.fn H ds={results:=[.lit (.bool true)],args:=ds})
  (hlaw:∀as,HasKds kds as->call gl tab nn f as []=some (.bool true,[],[])) (hgl:TabOk W.heap gl)
  (hval:∀(j:Nat) t v,fn.params[j]? =some t->args[j]? =some v->Value.okWide P W .any base t v) (hW:DataW.Whole enc P fn.params.toList s.vars apart W args.toList ds gs before) :
  Calls P f args W fun e W'=>∃v,e= .returned v/\s.post enc P fn apart fresh handsOn again W args v W':=by
 have hW':=hW;obtain⟨p,q,hA,hV,hpq,hfz,hnd⟩:=hW;rw[hvars]at hV;obtain⟨rfl,rfl⟩:gs=[]/\q=[]:=by
  cases gs with
  | nil=>exact⟨rfl,hV⟩
  | cons _ _=>exact hV.elim
 obtain⟨a1,a2,a3⟩:=p9 hA;obtain⟨k1,k2⟩:=eR hkds;obtain⟨d1,d2⟩:=uu (fs:=kds) (ps:=ds) (by omega);have hone:∀i (hi:i<kds.length),HasKd kds[i] (avD kds[i] (ds[i]'(by omega)))/\RepV W.heap (oW W.heap) (args.toList[i]'(by omega)) (avD kds[i] (ds[i]'(by omega))):=fun i hi=>by
  obtain⟨p',⟨fuel,ht⟩,_⟩:=a3 i (by omega) (by omega) (by omega);obtain⟨r1,r2⟩:=zH 8 _ _ (k2 i (by omega) hi) fuel _ _ ht;have hpi:i<fn.params.size:=by simpa using (by omega:i<fn.params.toList.length)
  have hai:i<args.size:=by simpa using (by omega:i<args.toList.length)
  exact⟨r1,M0 (k2 i (by omega) hi) (hval i _ _ (by simp[hpi]) (by simp[hai])) r1 r2⟩
 have hcall:=hlaw (u4 kds ds) (pM d1 fun i hi hi'=>by rw[d2 i hi hi' (by omega)];exact(hone i hi').1);obtain⟨_,hc⟩:=(EN (gl:=gl) hmix htab nn).call f _ _ _ _ _ (fun h=>absurd rfl h) hcall;have hgl2:GlOk W.heap (zk W.heap gl) gl:=⟨fun i sh a hi=>by
  obtain⟨h1,h2,h3,h4,c,e,fz,h5,h6⟩:=hgl i sh a hi;exact⟨h1,h2,h3,h4,c,e,fz,h5,h6.mono (xv W.heap gl)⟩,fun _ _ h=>h⟩
 have hcalls:=hc 0 W args (zk W.heap gl) (Du W.heap gl) hgl2 (by rw[d1,<-WF];omega) fun i hi hi'=>by
  have hik:i<kds.length:=by omega
  rw[d2 i hi' hik (by omega)];have:=((hone i hik).2).mono (xv W.heap gl);simpa using this
 refine(callsIn_wide.1 hcalls).mono ?_;rintro e W' ⟨v,G',rfl,hkept,hm,-,hv⟩;have hv:=cA hv;subst hv;have hg:Grew W W':=⟨hkept,hm.size,fun b hb=>hm.same b hb fun⟨k,r,⟨o,ho,_⟩,_⟩=>by cases ho⟩;refine⟨_,rfl,x6 (pa:=before) (pv:=[]) hW' (fun b sp hd=> ?_) (fun sp hsp=> ?_) (fun sp hsp=> ?_) (by simp) hg ?_⟩
 . rw[hs _ (by simp only[wS];rw[a2];simp),hres];exact⟨[],[],shut_bool htb _,rfl,rfl⟩
 . rw[hs _ (by simp only[wS];rw[a2];simp)];have hbp:before=p:=by simpa using hpq
   subst hbp;simp only[wS];exact mF hl hg hread hA (fun p hp=>hW'.lt p hp) hsp
 . rw[hs _ (by simp only[wS];rw[a2];simp),hvars];rfl
 . exact ok_one hres rfl (okWide_bool_mk htb _)
end
end Go.Ev
