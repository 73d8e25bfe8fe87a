/-
  Calls. No condition.
-/
import Derived.Test.YtaloneiaejhopaaDoorEvCall1
import Derived.RangeFuncRecord
import Derived.RangeFuncLeaves
set_option linter.all false
open Option renaming bind_eq_some_iff->wB,map_eq_some_iff->wC,ite_none_right_eq_some->wD,some.injEq->wE
open List renaming getElem_mem->wF,all_eq_true->wG,length_cons->wH,mem_cons->wJ,mem_append_right->wK,mem_append_left->wL,length_append->wM,size_toArray->wN,eq_nil_iff_forall_not_mem->wO,getD_eq_getElem?_getD->wP,getElem_append_right->wQ,getElem_append_left->wR,getElem?_eq_getElem->wS,nodup_cons->wT,mem_append->wU,foldl_cons->wV
open Nat renaming lt_of_lt_of_le->wW,le_refl->wX,lt_irrefl->wY,zero_add->wZ,not_le->w5
open Bool renaming and_eq_true->w6,false_eq_true->w7,not_eq_true'->w8
open Array renaming getD_eq_getD_getElem?->w9,getElem?_eq_some_iff->wa,getElem_append_right->wb,getElem?_append_left->wc,empty_append->wd,append_empty->we,getElem_append_left->wf,size_append->wg,size_setIfInBounds->wh,getElem?_push->wi
open Prod renaming mk.injEq->wj
namespace Go.Ev
open Go
variable {im :Im} {P:Program} {F:Fence} {gl:Gl} {cl:Cl} {w:World} {H:Heap} {G G':Gh} {st:St}
def zvn (P:Program)(f:Nat):Prop:=∃fn,P.funcs[f]? =some fn/\(fn.name== "runtime.NumGoroutine")=false/\fn.body.isNone=false
def qff (P:Program)(F:Fence)(gl:Gl)(cl:Cl):Prop :=
 ∀(f:Nat) (as:List AV) (imps:Hp) (r:AV) (imps':Hp) (es:List OB),cl f as imps=some (r,imps',es)->zvn P f /\
  ∀(n:Nat) (w:World) (vs:Array Value) (G:Gh),Inv w.heap G imps->GlOk w.heap G gl->vs.size=as.length->(∀i (h:i<vs.size) (h':i<as.length),RepV w.heap G vs[i] as[i]) ->
   CallsIn F n P f vs w fun e w'=>∃v G',e= .returned v/\Kept w w'/\Move w.heap G imps w'.heap G' (imps'++zcc 0 es)/\(imps≠[]->∀q,SHK<=q->∀r,G'.reg q=some r->∃r0,G.reg q=some r0/\r0.le r)/\RepT w'.heap G' v r
def qfe (P:Program)(F:Fence)(gl:Gl)(cl:Cl):Prop :=
 ∀(f:Nat) (as:List AV) (imps:Hp) (r:AV) (imps':Hp) (es:List OB),(imps≠[]->f<RB)->cl f as imps=some (r,imps',es)->zvn P f /\
  ∀(n:Nat) (w:World) (vs:Array Value) (G:Gh),Inv w.heap G imps->GlOk w.heap G gl->vs.size=as.length->(∀i (h:i<vs.size) (h':i<as.length),RepV w.heap G vs[i] as[i]) ->
   CallsIn F n P f vs w fun e w'=>∃v G',e= .returned v/\Kept w w'/\Move w.heap G imps w'.heap G' (imps'++zcc 0 es)/\(imps≠[]->∀q,SHK<=q->∀r,G'.reg q=some r->∃r0,G.reg q=some r0/\r0.le r)/\RepT w'.heap G' v r
def qlv (P:Program)(F:Fence)(gl:Gl)(cl:Cl):Prop :=
 ∀(rid:Nat) (as:List AV) (imps:Hp) (r:AV) (imps':Hp) (es:List OB),cl (RB+rid) as imps=some (r,imps',es) ->
  ∀(n:Nat) (w:World) (vs:Array Value) (G:Gh) (b:Nat) (rc:Loop) (vals:List AV),Inv w.heap G imps->GlOk w.heap G gl->vs.size=as.length->(∀i (h:i<vs.size) (h':i<as.length),RepV w.heap G vs[i] as[i]) ->
   imps.get SHK=some (.lp rid vals .ready)->G.reg SHK=some (.blk b .sc)->w.heap[b]? =some (.loop rc) ->
   vs.size=rc.params.size/\RoundIn F n P b rc.fn ((rc.params.zip vs).foldl (fun tmps (t,a)=>tmps.setIfInBounds t a) rc.tmps) rc.assign rc.body w
    fun e w'=>∃v G',e= .returned v/\Kept w w'/\Move w.heap G imps w'.heap G' (imps'++zcc 0 es)/\(imps≠[]->∀q,SHK<=q->∀r,G'.reg q=some r->∃r0,G.reg q=some r0/\r0.le r)/\RepT w'.heap G' v r
structure CallOk (P:Program)(F:Fence)(gl:Gl)(cl:Cl):Prop where
 call:qfe P F gl cl
 rnd:qlv P F gl cl
theorem qdv {n:Nat}{o:Oper}{a:Act}{hp:Hp}{v:AV}{us:Hp}(hF:∀f,F.fn f)(hnd:∀c,o.op≠.defer c)(h:Good P w G hp (execOp a.eval o) v us){K:Act->World->Prop}{Q:Exit->Act->World->Prop}
  (hK:∀v' w' G',Kept w w'->Step w.heap G hp w'.heap G' (us++hp)->RepT w'.heap G' v' v->K (a.put o.dst v') w'):o.wpIn F n P a w K Q:=by
 obtain⟨v',w',G',hk,hr,hs,hv⟩:=h
 unfold Oper.wpIn
 refine⟨fun f _=>hF f,?_⟩
 rw[Oper.semAt_eq _ _ _ hnd]
 rcases hr with hr|⟨hr,rfl⟩
 . rw[hr,Oper.uponIn_value];exact hK v' w' G' hk hs hv
 . rw[hr,Oper.uponIn_skip];exact hK undef w' G' hk hs hv
theorem zn3 {hp:Hp}{d:Nat}:∀{es:List OB} {j:Nat} {us:Hp},zcf hp d j es=some us->(∀k o,us.get k=some o↔∃i,∃h:i<es.length,k=d+1000*(j+i)/\es[i]=o) /\
  (∀e∈es,∃sh els,e= .grow sh els)
 | [],j,us,h=>by
   simp only[zcf,wE]at h
   subst h
   exact⟨fun k o=>by simp[Hp.get],fun e he=>by cases he⟩
 | .grow sh els::es,j,us,h=>by
   simp only[zcf]at h
   rw[wD]at h
   obtain⟨_,h⟩:=h
   simp only[wC]at h
   obtain⟨r,hr,rfl⟩:=h
   obtain⟨g1,g2⟩:=zn3 hr
   refine⟨fun k o=> ?_,fun e he=> ?_⟩
   . rw[Hp.get_cons]
     by_cases hk:d+1000*j=k
     . simp only[hk,if_true,wE]
       constructor
       . intro he;exact⟨0,by simp,by omega,he⟩
       . rintro ⟨i,hi,hk',he⟩
         have:i=0:=by omega
         subst this;exact he
     . simp only[hk,if_false]
       rw[g1]
       constructor
       . rintro ⟨i,hi,hk',he⟩;exact⟨i+1,by simpa using hi,by omega,by simpa using he⟩
       . rintro ⟨i,hi,hk',he⟩
         cases i with
         | zero=>exact absurd (by omega) hk
         | succ i=>exact⟨i,by simpa using hi,by omega,by simpa using he⟩
   . rcases wJ.1 he with rfl|he
     . exact⟨sh,els,rfl⟩
     . exact g2 e he
 | .fix _ _::_,_,_,h=>by simp[zcf]at h
 | .dead::_,_,_,h=>by simp[zcf]at h
 | .lp _ _ _::_,_,_,h=>by simp[zcf]at h
mutual
theorem zl2 (d:Nat):∀(a:AV),a.refs=[]->rn d a=a
 | .agg _,_=>rfl
 | .bool _,_=>rfl
 | .int _ _,_=>rfl
 | .str _,_=>rfl
 | .s _,_=>rfl
 | .lst _ _ _,_=>rfl
 | .cp _ _,_=>rfl
 | .unk,_=>rfl
 | .aggR l,h=>by rw[AV.refs]at h;rw[rn,zhm d l h]
 | .tup l,h=>by rw[AV.refs]at h;rw[rn,zhm d l h]
 | .sl _ _ _ _,h=>by simp[AV.refs]at h
 | .ptr _ _,h=>by simp[AV.refs]at h
 | .arp _ _ _ _,h=>by simp[AV.refs]at h
 | .fn _ l,h=>by rw[AV.refs]at h;rw[rn,zhm d l h]
 | .yld _,h=>by simp[AV.refs]at h
 | .mp _,h=>by simp[AV.refs]at h
theorem zhm (d:Nat):∀(l:List AV),AV.refss l=[]->rns d l=l
 | [],_=>rfl
 | a::l,h=>by
   rw[AV.refss,List.append_eq_nil_iff]at h
   rw[rns,zl2 d a h.1,zhm d l h.2]
end
noncomputable def zkn (G G':Gh)(size d m:Nat):Gh :=
 {imm:=fun b=>G.imm b\/(size<=b/\G'.imm b)
  yl:=G'.yl
  reg:=fun k=>match G.reg k with
   | some r=>some r
   | none=>if d<=k/\(k-d)%1000=0/\(k-d)/1000<m then G'.reg (20000+(k-d)/1000)else none}
theorem zvl {G G':Gh}{size d m i:Nat}(h:G.reg (d+1000*i)=none)(hi:i<m):(zkn G G' size d m).reg (d+1000*i)=G'.reg (20000+i):=by
 simp only[zkn,h]
 have e:d+1000*i-d=1000*i:=by omega
 rw[e,if_pos ⟨by omega,by omega,by omega⟩]
 congr 1
 omega
theorem zio {G G':Gh}{size d m k:Nat}{r:Rg}(h:G.reg k=some r):(zkn G G' size d m).reg k=some r:=by simp[zkn,h]
theorem zo1 {hp:Hp}{G0:Gh}{w':World}{d:Nat}{es:List OB}{us:Hp}{v:Value}{r:AV}(inv:Inv w.heap G hp)(himm:∀b,G.imm b->G0.imm b)(hyl:G0.yl=G.yl)
  (m:Move w.heap G0 [] w'.heap G' (zcc 0 es)) (hv:RepT w'.heap G' v r) (hor:(∀b,G0.imm b->G.imm b)\/(zdl r=true/\es.all zfk=true))
  (hus:zcf hp d 0 es=some us):∃G'',Step w.heap G hp w'.heap G'' (us++hp)/\RepT w'.heap G'' v (rn d r):=by
 obtain⟨hget,hgrow⟩:=zn3 hus
 have hfresh:=(zfd (hp':=hp) hus fun _ _ _ h=>h).2
 have hnone:∀i,i<es.length->hp.get (d+1000*i)=none:=fun i hi=>by
  have:=(hget (d+1000*i) es[i]).2 ⟨i,hi,by omega,rfl⟩
  exact hfresh _ _ (Hp.get_mem this)
 have hregn:∀i,i<es.length->G.reg (d+1000*i)=none:=fun i hi=>inv.out _ (hnone i hi)
 have hnl:∀b,¬Live G0 [] b:=fun b ⟨k,r,⟨o,ho,_⟩,_⟩=>by cases ho
 have hsame:∀b,b<w.heap.size->w'.heap[b]? =w.heap[b]? :=fun b hb=>m.same b hb (hnl b)
 have hnew:∀k b rr,za0 (zcc 0 es) k->G'.At k b rr->w.heap.size<=b:=fun k b rr hl hr=>by
  rcases m.live b ⟨k,rr,hl,hr⟩with h|h
  . exact absurd h (hnl b)
  . exact h
 let G2:=zkn G G' w.heap.size d es.length
 have hreg2:∀i,i<es.length->G2.reg (d+1000*i)=G'.reg (20000+i):=fun i hi=>zvl (hregn i hi) hi
 have hle:Le w.heap G w'.heap G2:=⟨fun b hb=>⟨.inl hb,(m.imm b (himm b hb)).2⟩,ze1 fun k rr h=>zio h,fun i l h=>m.yl i l (hyl▸h)⟩
 have himm2:(∀b,G0.imm b->G.imm b)->∀b,G'.imm b->G2.imm b:=fun h b hb=>by
  rcases m.immNew b hb with h1|h1|h1
  . exact .inl (h b h1)
  . exact .inr ⟨h1,hb⟩
  . exact absurd h1 (hnl b)
 have hcase:∀k o,(us++hp).get k=some o->(∃i,∃h:i<es.length,k=d+1000*i/\es[i]=o)\/hp.get k=some o:=fun k o hk=>by
  rw[Hp.get_append]at hk
  split at hk
  . rename_i o' ho'
    cases hk
    obtain⟨i,hi,h1,h2⟩:=(hget k o).1 ho'
    exact .inl ⟨i,hi,by omega,h2⟩
  . exact .inr hk
 have hlcase:∀k b rr,za0 (us++hp) k->G2.At k b rr->(∃i,i<es.length/\k=d+1000*i/\za0 (zcc 0 es) (20000+i)/\G'.At (20000+i) b rr)\/(za0 hp k/\G.At k b rr):=by
  rintro k b rr ⟨o,ho,hd⟩ hr
  rcases hcase k o ho with ⟨i,hi,rfl,he⟩|ho
  . left
    refine⟨i,hi,rfl,⟨o,zc7.2 ⟨i,hi,by omega,he⟩,hd⟩,?_⟩
    exact(Gh.at_congr (hreg2 i hi).symm).2 hr
  . right
    refine⟨⟨o,ho,hd⟩,?_⟩
    cases hg:G.reg k with
    | some r'=>exact(Gh.at_congr (hg.trans (show G2.reg k=some r' from zio hg).symm)).2 hr
    | none =>
      exfalso
      have:=inv.obs k o ho
      cases o with
      | fix sh a=>obtain⟨_,_,_,_,h,_⟩:=this;rw[hg]at h;cases h
      | grow sh els =>
        rcases this with ⟨_,h⟩|⟨_,_,_,_,_,h,_⟩
        . rw[hg]at h;cases h
        . rw[hg]at h;cases h
      | dead=>obtain⟨_,h⟩:=this;rw[hg]at h;cases h
      | lp _ _ _=>obtain⟨_,_,_,h,_⟩:=this;rw[hg]at h;cases h
      | mp _ _=>obtain⟨_,h,_⟩:=this;rw[hg]at h;cases h
 have hL:∀b,Live G2 (us++hp) b->Live G hp b\/(w.heap.size<=b/\Live G' (zcc 0 es) b):=by
  rintro b ⟨k,rr,hl,hr⟩
  rcases hlcase k b rr hl hr with ⟨i,hi,_,h1,h2⟩|⟨h1,h2⟩
  . exact .inr ⟨hnew _ b rr h1 h2,⟨_,rr,h1,h2⟩⟩
  . exact .inl ⟨k,rr,h1,h2⟩
 refine⟨G2,⟨⟨?_,?_,?_,?_,?_⟩,hle,m.size,fun b hb _=>hsame b hb,fun b hb=>(hL b hb).imp id And.left,fun b hb=> ?_⟩,?_⟩
 . intro k o hk
   rcases hcase k o hk with ⟨i,hi,rfl,rfl⟩|hk
   . obtain⟨sh,els,he⟩:=hgrow es[i] (wF hi)
     have hob:=m.inv.obs (20000+i) es[i] (zc7.2 ⟨i,hi,by omega,rfl⟩)
     rw[he]at hob ⊢
     rcases hob with ⟨h1,h2⟩|⟨b,cap,c,e,fz,h1,h2,h3,h4,h5,h6,h7⟩
     . exact .inl ⟨h1,(hreg2 i hi).trans h2⟩
     . refine .inr ⟨b,cap,c,e,fz,(hreg2 i hi).trans h1,h2,h3,h4,h5,h6,fun j hj=> ?_⟩
       obtain⟨u,hu1,hu2⟩:=h7 j hj
       refine⟨u,hu1,?_⟩
       have hno:∀k∈(AV.flats els)[j].refs,False:=fun k hk=>by
        rw[zca els ((AV.wfp_iff els).2 fun x hx=>(h6 x hx).2) _ (wF hj)]at hk;cases hk
       have hr:=hu2.rename (G':=G2) (d:=0) (fun hni=> ?_) (fun i l h=>h) fun k hk=>(hno k hk).elim
       . rwa [zl2 0 _ (wO.2 hno)]at hr
       . rcases hor with h|⟨_,h⟩
         . exact himm2 h
         . exfalso
           rw[wG]at h
           have:=h es[i] (wF hi)
           rw[he]at this
           simp only[zfk]at this
           rw[zfc els this _ (wF hj)]at hni;cases hni
   . exact ObOk.mono hle (fun hl b rr hr=>hsame b (inv.lt b ⟨k,rr,hl,hr⟩)) (fun _ h=>zio h) hk (inv.obs k o hk)
 . intro k hk
   rw[Hp.get_append]at hk
   split at hk
   . cases hk
   . rename_i hu
     have h1:=inv.out k hk
     simp only[G2,zkn,h1]
     rw[if_neg]
     rintro ⟨h2,h3,h4⟩
     have hk':k=d+1000*(0+(k-d)/1000):=by omega
     have:=(hget k es[(k-d)/1000]).2 ⟨(k-d)/1000,h4,hk',rfl⟩
     rw[hu]at this;cases this
 . intro k k' b rr rr' hr hr' hl hl'
   rcases hlcase k b rr hl hr with ⟨i,hi,rfl,h1,h2⟩|⟨h1,h2⟩
   . rcases hlcase k' b rr' hl' hr' with ⟨i',hi',rfl,h1',h2'⟩|⟨h1',h2'⟩
     . have:=m.inv.dist _ _ b rr rr' h2 h2' h1 h1'
       have:i=i':=by omega
       rw[this]
     . have e1:=hnew _ b rr h1 h2
       have e2:=inv.lt b ⟨k',rr',h1',h2'⟩
       omega
   . rcases hlcase k' b rr' hl' hr' with ⟨i',hi',rfl,h1',h2'⟩|⟨h1',h2'⟩
     . have e1:=hnew _ b rr' h1' h2'
       have e2:=inv.lt b ⟨k,rr,h1,h2⟩
       omega
     . exact inv.dist k k' b rr rr' h2 h2' h1 h1'
 . intro b hb
   rcases hb with hb|⟨hs,hb⟩
   . have h1:=inv.imm b hb
     refine⟨wW h1.1 m.size,fun hl=> ?_⟩
     rcases hL b hl with h|⟨h,_⟩
     . exact h1.2 h
     . omega
   . have h1:=m.inv.imm b hb
     refine⟨h1.1,fun hl=> ?_⟩
     rcases hL b hl with h|⟨_,h⟩
     . have:=inv.lt b h;omega
     . exact h1.2 h
 . intro b hb
   rcases hL b hb with h|⟨_,h⟩
   . exact wW (inv.lt b h) m.size
   . exact m.inv.lt b h
 . rcases hb with hb|⟨hs,_⟩
   . exact .inl hb
   . exact .inr (.inl hs)
 . refine hv.rename (hor.symm.imp And.left himm2) (fun i l h=>h) fun k hk=> ?_
   obtain⟨rr,hr⟩:=hv.known_refs k hk
   obtain⟨o,ho⟩:=m.inv.reg_get hr
   obtain⟨i,hi,hk',_⟩:=zc7.1 ho
   have e:ren d k=d+1000*i:=by unfold ren;rw[if_pos (by omega)];omega
   rw[e,hreg2 i hi]
   congr 1
   omega
def zsg (G:Gh)(hp:Hp)(all:Bool):Gh:={imm:=fun b=>G.imm b\/(all=true/\Live G hp b),yl:=G.yl,reg:=fun _=>none}
theorem zn2 {hp:Hp}(inv:Inv H G hp)(all:Bool):Inv H (zsg G hp all) [] where
 obs k o h:=by cases h
 out k _:=rfl
 dist k k' b r r' _ _ h:=by obtain⟨o,ho,_⟩:=h;cases ho
 imm b hb:=⟨by
  rcases hb with hb|⟨_,hb⟩
  . exact(inv.imm b hb).1
  . exact inv.lt b hb,fun⟨k,r,⟨o,ho,_⟩,_⟩=>by cases ho⟩
 lt b hb:=by obtain⟨k,r,⟨o,ho,_⟩,_⟩:=hb;cases ho
theorem zyk {hp:Hp}{n:Nat}{a:AV}(h:a.plain=true):zay hp n a=some a:=by cases n<;>simp[zay,h]
theorem zmh {hp:Hp}{n:Nat}:∀{l:List AV},AV.plains l=true->mapO (zay hp n) l=some l
 | [],_=>rfl
 | a::l,h=>by
   simp only[AV.plains,w6]at h
   simp[mapO,zyk h.1,zmh h.2]
theorem zrf (gl:Gl){fr:Fr}:∀{l:List Opd} {i:Nat} (h:i<(vals gl fr l).length) (h':i<l.length),(vals gl fr l)[i]=l[i].val gl fr
 | x::l,0,_,_=>rfl
 | x::l,i+1,h,h'=>by
   have:=zrf gl (fr:=fr) (l:=l) (i:=i) (by simpa[vals]using h) (by simpa using h')
   simpa[vals]using this
theorem zh6 {fr:Fr}:∀{l:List Opd},(vals gl fr l).length=l.length
 | []=>rfl
 | x::l=>by simp[vals,zh6 (l:=l)]
theorem z2g (hF:∀f,F.fn f)(hdep:F.depth=none)(hcall:CallOk P F gl cl){n:Nat}{o:Oper}{c:Call}{a:Act}{x:Operand}{f d:Nat}{fs cs:Array Value}{args:List AV}{v:AV}{us:Hp}{tmps:Array Value}
  (ho:o.op= .call c) (hc:c.callee= .value x) (hx:a.eval x= .func (.func f) fs cs) (hg:GlOk w.heap G gl) (hst:StOk w.heap G st tmps)
  (hargs:(fs++c.args.map a.eval++cs).size=args.length) (hrep:∀i (h:i<(fs++c.args.map a.eval++cs).size) (h':i<args.length),RepT w.heap G (fs++c.args.map a.eval++cs)[i] args[i])
  (h:zc3 cl st.hp d f args .lend=some (v,us)) {K:Act->World->Prop} {Q:Exit->Act->World->Prop}
  (hK:∀v' w' G',Kept w w'->Step w.heap G st.hp w'.heap G' (us++st.hp)->RepT w'.heap G' v' v->K (a.put o.dst v') w'):o.wpIn F n P a w K Q:=by
 obtain⟨as,r,es,has,hcl,hor,hres⟩:=zgo h
 obtain⟨⟨fn,hfn,hname,hbody⟩,hcalls⟩:=hcall.call f as [] r [] es (fun h=>absurd rfl h) hcl
 have hrun:(execOp a.eval o).run P w= .ok (.enter f (fs++c.args.map a.eval++cs)) w:=by
  have hcf:(callFunc f (fs++c.args.map a.eval++cs)).run P w= .ok (.enter f (fs++c.args.map a.eval++cs)) w:=by
   have hp:(program:Sem Program).run P w= .ok P w:=rfl
   simp only[callFunc,Sem.run_bind,hp,Result.andThen_ok,hfn,hname,hbody,w7,if_false,Sem.run_pure]
  simp only[execOp,ho,resolve,hc,hx,Deferred.ofValue,Sem.run_bind,Sem.run_pure,Result.andThen_ok,invoke,hcf]
 unfold Oper.wpIn
 refine⟨fun f _=>hF f,?_⟩
 rw[Oper.semAt_eq _ _ _ (by rw[ho];intro c h;cases h),hrun,Oper.uponIn_enter]
 refine⟨fun h=>(by rw[hdep]at h;cases h),?_⟩
 obtain⟨G0,inv0,himm0,hyl0,hor0,hlent⟩:∃G0,Inv w.heap G0 []/\(∀b,G.imm b->G0.imm b)/\G0.yl=G.yl/\((∀b,G0.imm b->G.imm b)\/(zdl r=true/\es.all zfk=true)) /\
   ∀i (h:i<(fs++c.args.map a.eval++cs).size) (h':i<as.length),RepV w.heap G0 (fs++c.args.map a.eval++cs)[i] as[i]:=by
  have hlen:=(zdm has).1
  rcases hor with hpl|hor
  . refine⟨zsg G st.hp false,zn2 hst.inv false,fun b h=>.inl h,rfl,.inl (fun b h=>h.resolve_right (fun h=>by cases h.1)),fun i hi hi'=> ?_⟩
    rw[zmh hpl]at has
    cases has
    have hp:args[i].plain=true:=by
     have:∀(l:List AV),AV.plains l=true->∀x∈l,x.plain=true:=by
      intro l
      induction l with
      | nil=>intro _ x hx;cases hx
      | cons b l ih =>
        intro h x hx
        simp only[AV.plains,w6]at h
        rcases wJ.1 hx with rfl|hx
        . exact h.1
        . exact ih h.2 x hx
     exact this args hpl _ (wF hi')
    have hk:args[i].known=true:=by revert hp;cases args[i]<;>simp[AV.plain,AV.known]
    exact((RepT.of_known hk).1 (hrep i hi hi')).cut (G':=zsg G st.hp false) (fun b h=>.inl h) (fun i l h=>h) fun k hk=>by rw[AV.plain_refs hp]at hk;cases hk
  . refine⟨zsg G st.hp true,zn2 hst.inv true,fun b h=>.inl h,rfl,.inr hor,fun i hi hi'=> ?_⟩
    have hl:=(zdm has).2 i (by omega) hi'
    exact zwf (G':=zsg G st.hp true) hst.inv (fun b h=>.inl h) (fun b h=>.inr ⟨rfl,h⟩) (fun i l h=>h) hl ((RepT.of_known (zn1 hl)).1 (hrep i hi (by omega)))
 refine(hcalls (n-1) w _ G0 inv0 (hg.move (fun b hb=>⟨himm0 b hb,rfl⟩) fun i l h=>hyl0▸h) (by rw[hargs,(zdm has).1]) hlent).mono ?_
 rintro e w' ⟨v0,G',rfl,hkept,hm,-,hv⟩
 simp only
 rcases hres with ⟨rfl,rfl,rfl⟩|⟨rfl,hus⟩
 . obtain⟨G2,h1,h2⟩:=zo1 (d:=d) (us:=[]) hst.inv himm0 hyl0 hm hv hor0 rfl
   refine hK v0 w' G2 hkept h1 ?_
   rwa [zl2 d v]at h2
   refine wO.2 fun k hk=> ?_
   obtain⟨rr,hr⟩:=hv.known_refs k hk
   obtain⟨o,ho⟩:=hm.inv.reg_get hr
   simp[zcc,Hp.get]at ho
 . obtain⟨G2,h1,h2⟩:=zo1 hst.inv himm0 hyl0 hm hv hor0 hus
   exact hK v0 w' G2 hkept h1 h2
theorem zev :∀{l:List AV},AV.knowns l=true->∀x∈l,x.known=true
 | [],_,x,hx=>by cases hx
 | b::l,h,x,hx=>by
   simp only[AV.knowns,w6]at h
   rcases wJ.1 hx with rfl|hx
   . exact h.1
   . exact zev h.2 x hx
theorem z7u (hF:∀f,F.fn f)(hdep:F.depth=none)(hcall:CallOk P F gl cl){n:Nat}{o:Oper}{c:Call}{a:Act}{x:Operand}{f d:Nat}{fs cs:Array Value}{args:List AV}{v:AV}{us:Hp}{tmps:Array Value}
  (ho:o.op= .call c) (hc:c.callee= .value x) (hx:a.eval x= .func (.func f) fs cs) (hg:GlOk w.heap G gl) (hst:StOk w.heap G st tmps)
  (hargs:(fs++c.args.map a.eval++cs).size=args.length) (hrep:∀i (h:i<(fs++c.args.map a.eval++cs).size) (h':i<args.length),RepT w.heap G (fs++c.args.map a.eval++cs)[i] args[i])
  (h:zc3 cl st.hp d f args .imp=some (v,us)) {K:Act->World->Prop} {Q:Exit->Act->World->Prop}
  (hK:∀v' w' G',Kept w w'->Step w.heap G st.hp w'.heap G' (us++st.hp)->RepT w'.heap G' v' v->K (a.put o.dst v') w'):o.wpIn F n P a w K Q:=by
 simp only[zc3,wD]at h
 obtain⟨hfb,h⟩:=h
 obtain⟨⟨h1,h2,h4,hkn⟩,r,hp2,es,us',h5,h6,h7,rfl,rfl⟩:=zb8 h
 generalize hks:zax st.hp (AV.refss args)=ks at *
 rw[zcx]at h4
 obtain⟨⟨fn,hfn,hname,hbody⟩,hcalls⟩:=hcall.call f _ _ _ _ _ (fun _=>hfb) h5
 have hrun:(execOp a.eval o).run P w= .ok (.enter f (fs++c.args.map a.eval++cs)) w:=by
  have hcf:(callFunc f (fs++c.args.map a.eval++cs)).run P w= .ok (.enter f (fs++c.args.map a.eval++cs)) w:=by
   have hp:(program:Sem Program).run P w= .ok P w:=rfl
   simp only[callFunc,Sem.run_bind,hp,Result.andThen_ok,hfn,hname,hbody,w7,if_false,Sem.run_pure]
  simp only[execOp,ho,resolve,hc,hx,Deferred.ofValue,Sem.run_bind,Sem.run_pure,Result.andThen_ok,invoke,hcf]
 unfold Oper.wpIn
 refine⟨fun f _=>hF f,?_⟩
 rw[Oper.semAt_eq _ _ _ (by rw[ho];intro c h;cases h),hrun,Oper.uponIn_enter]
 refine⟨fun h=>(by rw[hdep]at h;cases h),?_⟩
 have hlen:(rAs (up ks) args).length=args.length:=za3 _ _
 refine(hcalls (n-1) w _ (upGh G ks) (zrg hst.inv h1) (hg.move (fun b hb=>⟨hb,rfl⟩) fun i l h=>h) (by rw[hargs,hlen]) fun i hi hi'=> ?_).mono ?_
 . have hi2:i<args.length:=by rw[hlen]at hi';exact hi'
   have e:(rAs (up ks) args)[i]=rA (up ks) args[i]:=by simp[zce]
   rw[e]
   refine znn ((RepT.of_known (zev hkn _ (wF hi2))).1 (hrep i hi hi2)) fun k hk=> ?_
   rw[wG]at h2
   have:=h2 k (zbc (wF hi2) hk)
   simpa using this
 . rintro e w' ⟨v0,G',rfl,hkept,hm,hh,hv⟩
   simp only
   obtain⟨G2,g1,g2⟩:=zhi hst.inv h4 h1 hm (fun hne q hq r hr=>hh (by cases ks with|nil=>exact absurd rfl hne|cons k l=>simp[upHp]) q hq r hr) h6 h7 hv
   exact hK v0 w' G2 hkept g1 g2
theorem zq7 (hF:∀f,F.fn f)(hdep:F.depth=none)(hcall:CallOk P F gl cl){n:Nat}{o:Oper}{c:Call}{a:Act}{x:Operand}{f d:Nat}{fs cs:Array Value}{args:List AV}{v:AV}{us:Hp}{tmps:Array Value}{md:Mode}
  (ho:o.op= .call c) (hc:c.callee= .value x) (hx:a.eval x= .func (.func f) fs cs) (hg:GlOk w.heap G gl) (hst:StOk w.heap G st tmps)
  (hargs:(fs++c.args.map a.eval++cs).size=args.length) (hrep:∀i (h:i<(fs++c.args.map a.eval++cs).size) (h':i<args.length),RepT w.heap G (fs++c.args.map a.eval++cs)[i] args[i])
  (h:zc3 cl st.hp d f args md=some (v,us)) {K:Act->World->Prop} {Q:Exit->Act->World->Prop}
  (hK:∀v' w' G',Kept w w'->Step w.heap G st.hp w'.heap G' (us++st.hp)->RepT w'.heap G' v' v->K (a.put o.dst v') w'):o.wpIn F n P a w K Q:=by
 cases md with
 | lend=>exact z2g hF hdep hcall ho hc hx hg hst hargs hrep h hK
 | imp=>exact z7u hF hdep hcall ho hc hx hg hst hargs hrep h hK
theorem zwb (hg:GlOk w.heap G gl){a:Act}(hst:StOk w.heap G st a.tmps){xs:Array Operand}{ys:List Opd}(h:mapO zag xs.toList=some ys) :
  (xs.map a.eval).size=(vals gl st.fr ys).length/\∀i (h:i<(xs.map a.eval).size) (h':i<(vals gl st.fr ys).length),RepT w.heap G (xs.map a.eval)[i] (vals gl st.fr ys)[i]:=by
 obtain⟨h1,h2⟩:=zdm h
 have hl:(vals gl st.fr ys).length=xs.size:=by rw[zh6,h1];simp
 refine⟨by simp[hl],fun i hi hi'=> ?_⟩
 have hi1:i<xs.size:=by simpa using hi
 have hi2:i<ys.length:=by rw[zh6]at hi';exact hi'
 rw[zrf gl hi' hi2,Array.getElem_map]
 exact zam hg hst (h2 i (by simpa using hi1) hi2)
theorem zvb {o:Oper}{m:MOp}{c:Call}(hc:zan P im o=some m)(ho:o.op= .call c)(hn:zfz m=true):∃args,mapO zag c.args.toList=some args /\
  ((∃f md,c.callee= .value (.func f)/\m= .call f args md)\/(∃t md,c.callee= .value (.tmp t)/\m= .callv (.t t) args md)):=by
 simp only[zan,ho,wB]at hc
 obtain⟨args,hargs,hc⟩:=hc
 refine⟨args,hargs,?_⟩
 split at hc
 . rename_i f hf;cases hc;exact .inl ⟨f,_,hf,rfl⟩
 . rename_i t ht;cases hc;exact .inr ⟨t,_,ht,rfl⟩
 . exfalso
   split at hc
   . split at hc<;>first|(cases hc;cases hn;done)|cases hc
   . cases hc
 . exfalso
   split at hc
   . split at hc
     . simp only[wB,wC]at hc
       obtain⟨_,_,_,_,rfl⟩:=hc;cases hn
     . simp only[wB,wC]at hc
       obtain⟨_,_,_,_,rfl⟩:=hc;cases hn
     . simp only[wB,wC]at hc
       obtain⟨_,_,_,_,rfl⟩:=hc;cases hn
     . cases hc
   . cases hc
 . exfalso
   split at hc
   . split at hc
     . simp only[wC]at hc
       obtain⟨_,_,rfl⟩:=hc;cases hn
     . cases hc
   . cases hc
 . exfalso
   split at hc
   . split at hc
     . simp only[wC]at hc
       obtain⟨_,_,rfl⟩:=hc;cases hn
     . cases hc
   . cases hc
 . exfalso
   split at hc
   . split at hc
     . cases hc;cases hn
     . cases hc
   . cases hc
 . exfalso
   split at hc
   . simp only[wC]at hc
     obtain⟨_,_,rfl⟩:=hc;cases hn
   . cases hc
 . cases hc;cases hn
 . cases hc;cases hn
 . cases hc
theorem zg2 {hp:Hp}:∀{n:Nat} {l acc:List Nat},∃t,ze2 hp n l acc=acc++t
 | 0,l,acc=>⟨[],by simp[ze2]⟩
 | n+1,[],acc=>⟨[],by simp[ze2]⟩
 | n+1,k::l,acc=>by
   rw[ze2]
   split
   . exact zg2
   . obtain⟨t,ht⟩:=zg2 (hp:=hp) (n:=n) (l:=zk9 (hp.get k)++l) (acc:=acc++[k])
     exact⟨k::t,by rw[ht,List.append_assoc];rfl⟩
theorem zr0 {hp:Hp}{q:Nat}{l:List Nat}:∃t,zax hp (q::l)=q::t:=by
 unfold zax
 rw[ze2,if_neg (by simp)]
 exact zg2
theorem zt2 {b:Nat}{rc:Loop}{o:Oper}{c:Call}{a:Act}{x:Operand}(ho:o.op= .call c)(hc:c.callee= .value x)(hx:a.eval x= .func (.yield b) #[] #[])(hb:w.heap[b]? =some (.loop rc))(hn:(c.args.map a.eval).size=rc.params.size) :
  (execOp a.eval o).run P w= .ok (.round b rc.fn ((rc.params.zip (c.args.map a.eval)).foldl (fun tmps (t,a)=>tmps.setIfInBounds t a) rc.tmps) rc.assign rc.body) w:=by
 have h:=run_yield (P:=P) (args:=c.args.map a.eval) hb hn
 simp only[execOp,ho,resolve,hc,hx,Deferred.ofValue,Sem.run_bind,Sem.run_pure,Result.andThen_ok,wd,we,invoke,h]
theorem zxs (hF:∀f,F.fn f)(hdep:F.depth=none)(hcall:CallOk P F gl cl){n:Nat}{o:Oper}{c:Call}{a:Act}{x:Operand}{b d q:Nat}{args:List AV}{v:AV}{us:Hp}{tmps:Array Value}{m:Mode}
  (ho:o.op= .call c) (hc:c.callee= .value x) (hx:a.eval x= .func (.yield b) #[] #[]) (hq:G.reg q=some (.blk b .sc)) (hg:GlOk w.heap G gl) (hst:StOk w.heap G st tmps)
  (hargs:(c.args.map a.eval).size=args.length) (hrep:∀i (h:i<(c.args.map a.eval).size) (h':i<args.length),RepT w.heap G (c.args.map a.eval)[i] args[i])
  (h:zgn cl st.hp d q args m=some (v,us)) {K:Act->World->Prop} {Q:Exit->Act->World->Prop}
  (hK:∀v' w' G',Kept w w'->Step w.heap G st.hp w'.heap G' (us++st.hp)->RepT w'.heap G' v' v->K (a.put o.dst v') w'):o.wpIn F n P a w K Q:=by
 obtain⟨_,rid,vals,hrec,h⟩:=zee h
 obtain⟨⟨h1,h2,h4,hkn⟩,r,hp2,es,us',h5,h6,h7,rfl,rfl⟩:=zb8 h
 obtain⟨t,hks⟩:=zr0 (hp:=st.hp) (q:=q) (l:=AV.refss args)
 generalize zax st.hp (q::AV.refss args)=ks at *
 rw[zcx]at h4
 obtain⟨b',rc,info,hr,hb,hy,hrc,hv⟩:=hst.inv.obs q _ hrec
 obtain rfl:b'=b:=by rw[hq]at hr;cases hr;rfl
 have hqk:q∈ks:=by rw[hks];simp
 have hup:up ks q=SHK:=by rw[hks,up,idx,if_pos rfl];rfl
 have hget:=zpb (hp:=st.hp) (all:=ks) hqk (fun _ h=>h) hqk
 rw[hup,getO,hrec]at hget
 have hreg:(upGh G ks).reg SHK=some (.blk b' .sc):=by rw[<-hup,zhk hqk];exact hq
 have hlen:(rAs (up ks) args).length=args.length:=za3 _ _
 obtain⟨hsz,hrnd⟩:=hcall.rnd rid _ _ _ _ _ h5 (n-1) w (c.args.map a.eval) (upGh G ks) b' rc _ (zrg hst.inv h1) (hg.move (fun b hb=>⟨hb,rfl⟩) fun i l h=>h) (by rw[hargs,hlen]) (fun i hi hi'=>by
  have hi2:i<args.length:=by rw[hlen]at hi';exact hi'
  have e:(rAs (up ks) args)[i]=rA (up ks) args[i]:=by simp[zce]
  rw[e]
  refine znn ((RepT.of_known (zev hkn _ (wF hi2))).1 (hrep i hi hi2)) fun k hk=> ?_
  rw[wG]at h2
  have:=h2 k (zbc (wF hi2) hk)
  simpa using this) hget hreg hb
 unfold Oper.wpIn
 refine⟨fun f _=>hF f,?_⟩
 rw[Oper.semAt_eq _ _ _ (by rw[ho];intro c h;cases h),zt2 ho hc hx hb hsz,Oper.uponIn_round]
 refine⟨fun h=>(by rw[hdep]at h;cases h),hrnd.mono ?_⟩
 rintro e w' ⟨v0,G',rfl,hkept,hm,hh,hv⟩
 simp only
 obtain⟨G2,g1,g2⟩:=zhi hst.inv h4 h1 hm (fun hne q hq r hr=>hh (by cases ks with|nil=>exact absurd rfl hne|cons k l=>simp[upHp]) q hq r hr) h6 h7 hv
 exact hK v0 w' G2 hkept g1 g2
theorem zgb :∀{l:List AV},AV.scalars l=true->∀x∈l,x.scalar=true
 | [],_,x,hx=>by cases hx
 | b::l,h,x,hx=>by
   simp only[AV.scalars,w6]at h
   rcases wJ.1 hx with rfl|hx
   . exact h.1
   . exact zgb h.2 x hx
theorem zdq (hF:∀f,F.fn f)(hdep:F.depth=none)(hcall:CallOk P F gl cl)(n:Nat):OpOk F n P gl cl:=by
 intro im o m a w G st v us hg hst hc hs K Q hK
 have hnd:∀c,o.op≠.defer c:=fun c h=>by simp[zan,h]at hc
 by_cases hn:∀c,o.op= .call c->zfz m=false
 . exact qdv hF hnd (qdx hg hst hc hn hs) hK
 . have:∃c,o.op= .call c/\zfz m=true:=by
    apply Classical.byContradiction
    intro h
    exact hn fun c ho=>by
     cases hm:zfz m with
     | false=>rfl
     | true=>exact absurd ⟨c,ho,hm⟩ h
   obtain⟨c,ho,hn⟩:=this
   obtain⟨args,hargs,hor⟩:=zvb hc ho hn
   obtain⟨hl,hr⟩:=zwb hg hst hargs
   rcases hor with ⟨f,md,hcal,rfl⟩|⟨t,md,hcal,rfl⟩
   . simp only[zaa]at hs
     split at hs
     . rename_i k _
       refine zq7 hF hdep hcall ho hcal (fs:= #[]) (cs:= #[]) rfl hg hst (args:=vals gl st.fr args) (by simpa using hl) (fun i h h'=> ?_) hs hK
       have:=hr i (by simpa using h) h'
       simpa using this
     . cases hs
   . simp only[zaa]at hs
     split at hs
     . rename_i k f caps _ hf
       have hv:=hst.fr t
       rw[show Opd.val gl st.fr (.t t)=st.fr.get t from rfl]at hf
       rw[hf,zae rfl]at hv
       generalize hvt:a.tmps.getD t undef=vt at hv
       cases hv with
       | fn _ _ _ vs he hn hsc val hval hrr =>
         have hvv:∀j (hj:j<vs.size),vs[j]=val j:=fun j hj=>(wa.1 (hval j (by omega))).2
         by_cases hb:f<MB
         . rw[fnV,if_pos hb]at he
           rw[cvF,cvA,if_pos hb,if_pos hb]at hs
           refine zq7 hF hdep hcall ho hcal (fs:= #[]) (cs:=vs) (hvt.trans he.symm) hg hst (args:=vals gl st.fr args++caps) (by simp only[wd,wg,wM];omega) (fun i h h'=> ?_) hs hK
           simp only[wd]at h ⊢
           rw[wg]at h
           by_cases hi:i<(c.args.map a.eval).size
           . rw[wf hi,wR (by omega)]
             exact hr i hi (by omega)
           . have hi2:i-(vals gl st.fr args).length<caps.length:=by rw[wM]at h';omega
             rw[wb (by omega),wQ (by omega)]
             have hk:caps[i-(vals gl st.fr args).length].scalar=true:=zgb hsc _ (wF hi2)
             have e:vs[i-(c.args.map a.eval).size]'(by omega)=val (i-(vals gl st.fr args).length):=by rw[hvv];congr 1;omega
             rw[e,zae hk]
             exact hrr _ hi2
         . rw[fnV,if_neg hb]at he
           rw[cvF,cvA,if_neg hb,if_neg hb]at hs
           refine zq7 hF hdep hcall ho hcal (fs:=vs) (cs:= #[]) (hvt.trans he.symm) hg hst (args:=caps++vals gl st.fr args) (by simp only[we,wg,wM];omega) (fun i h h'=> ?_) hs hK
           simp only[we]at h ⊢
           rw[wg]at h
           by_cases hi:i<vs.size
           . have hi2:i<caps.length:=by omega
             rw[wf hi,wR hi2,hvv,zae (zgb hsc _ (wF hi2))]
             exact hrr _ hi2
           . rw[wb (by omega),wQ (by omega)]
             have:=hr (i-vs.size) (by omega) (by rw[wM]at h';omega)
             simpa only[hn]using this
     . rename_i k q _ hf
       have hv:=hst.fr t
       rw[show Opd.val gl st.fr (.t t)=st.fr.get t from rfl]at hf
       rw[hf,zae rfl]at hv
       generalize hvt:a.tmps.getD t undef=vt at hv
       cases hv with
       | yld _ b hq=>exact zxs hF hdep hcall ho hcal hvt hq hg hst hl hr hs hK
     . cases hs
structure Same (ms:List Nat)(w w':World):Prop where
 os:w'.os=w.os
 out:w'.output=w.output
 size:w'.heap.size=w.heap.size
 same:∀b,b∉ms->w'.heap[b]? =w.heap[b]?
theorem Same.refl (w:World):Same [] w w:=⟨rfl,rfl,rfl,fun _ _=>rfl⟩
theorem z2u {H H':Heap}{G:Gh}{hp:Hp}(inv:Inv H G hp)(hs:H'.size=H.size)(hsame:∀b,Live G hp b\/G.imm b->H'[b]? =H[b]?):Inv H' G hp:=by
 have hle:Le H G H' G:=⟨fun b hb=>⟨hb,hsame b (.inr hb)⟩,ze1 fun _ _ h=>h,fun _ _ h=>h⟩
 exact⟨fun k o ho=>ObOk.mono (hp:=hp) hle (fun hl b r hr=>hsame b (.inl ⟨k,r,hl,hr⟩)) (fun _ h=>h) ho (inv.obs k o ho),inv.out,inv.dist,fun b hb=>⟨by have:=(inv.imm b hb).1;omega,(inv.imm b hb).2⟩,fun b hb=>by have:=inv.lt b hb;omega⟩
theorem CameM.leave {L:Prop}{ms:List Nat}{a a':Act}{w w' w'':World}{hp:Hp}{st':St}(hc:CameM L gl ms a w G hp a' w' G' st')(hs:Same ms w' w''):Came L gl a w G hp {a' with defers:=a.defers} w'' G' st':=by
 have hno:∀b,Live G' st'.hp b\/G'.imm b->b∉ms:=fun b h hm=>by
  obtain⟨_,_,h3,h4⟩:=hc.marks.ok b hm
  exact h.elim h3 h4
 have hinv:=z2u hc.ok.inv hs.size fun b h=>hs.same b (hno b h)
 have m:=hc.move
 refine⟨⟨hs.os.trans hc.kept.1,hs.out.trans hc.kept.2⟩,⟨hinv,by have:=m.size;have:=hs.size;omega,fun b hb=> ?_,m.yl,fun b hb hl=> ?_,m.live,m.immNew⟩,⟨hinv,fun i=>(hc.ok.fr i).mono ⟨fun b hb=>⟨hb,hs.same b (hno b (.inr hb))⟩,ze1 fun _ _ h=>h,fun _ _ h=>h⟩⟩,hc.size,rfl,hc.hand,.nil⟩
 . obtain⟨h1,h2⟩:=m.imm b hb
   exact⟨h1,(hs.same b (hno b (.inr h1))).trans h2⟩
 . refine(hs.same b fun hm=> ?_).trans (m.same b hb hl)
   have:=(hc.marks.ok b hm).1
   omega
theorem zea {n:Nat}{fn:Func}{tmps:Array Value}{R:Ending->World->Prop}:∀(ms:List Nat) (w:World),ms.Nodup->(∀r∈ms,w.heap[r]? =some (.deferred (some []))) ->
  (∀w',Same ms w w'->∃v,(results fn tmps).run P w'= .ok v w'/\R (.returned v) w')->LeavesInM F n P fn tmps R (ms.map z91++[]) .returning w
 | [],w,_,_,h=>h w (Same.refl w)
 | r::ms,w,hn,hd,h=>by
   rw[wT]at hn
   refine⟨(fun h=>by cases h),.inl ⟨r,w.putObj r (.deferred none),rfl,run_takeDeferred (hd r (by simp)),zea ms _ hn.2 (fun q hq=> ?_) fun w' hw=>h w' ⟨hw.os,hw.out,hw.size.trans World.putObj_size,fun b hb=> ?_⟩⟩⟩
   . rw[World.putObj_heap_other (show q≠r from fun e=>hn.1 (by rw[<-e];exact hq))];exact hd q (by simp[hq])
   . rw[wJ,not_or]at hb
     rw[hw.same b hb.2,World.putObj_heap_other hb.1]
theorem z0a {H:Heap}{G:Gh}{hp:Hp}(inv:Inv H G hp)(x:Obj):Step H G hp (H.push x) G hp:=by
 have hpush:∀b,b<H.size->(H.push x)[b]? =H[b]? :=fun b hb=>by
  rw[wi];simp[Nat.ne_of_lt hb]
 have hle:Le H G (H.push x) G:=⟨fun b hb=>⟨hb,hpush b (inv.imm b hb).1⟩,ze1 fun _ _ h=>h,fun _ _ h=>h⟩
 exact⟨⟨fun k o ho=>ObOk.mono (hp:=hp) hle (fun hl b r hr=>hpush b (inv.lt b ⟨k,r,hl,hr⟩)) (fun _ h=>h) ho (inv.obs k o ho),inv.out,inv.dist,fun b hb=>⟨by have:=(inv.imm b hb).1;simp;omega,(inv.imm b hb).2⟩,fun b hb=>by have:=inv.lt b hb;simp;omega⟩,
  hle,by simp,fun b hb _=>hpush b hb,fun b hb=>.inl hb,fun b hb=>.inl hb⟩
theorem qhb (hF:∀f,F.fn f)(hdep:F.depth=none)(hro:F.round=none)(hcall:CallOk P F gl cl)(n N:Nat):RfOk F n P gl cl N:=by
 intro L g g' rid info kd dc hgc hri hnt hlt a w G st st' e hg hst hN hev Q hQ
 have hgv:=zam hg hst hgc
 unfold evRf at hev
 split at hev
 . rename_i h caps hgeq
   rw[wD,w6,w6,Option.isNone_iff_eq_none,decide_eq_true_eq,decide_eq_true_eq]at hev
   obtain⟨⟨⟨hkn,hklt⟩,hhb⟩,hev⟩:=hev
   rw[wB]at hev
   obtain⟨⟨r0,us⟩,hcl,hend⟩:=hev
   rw[hgeq,zae rfl]at hgv
   generalize hve:a.eval g=ve at hgv
   cases hgv with
   | fn _ _ _ cs he hncs hsc val hval hrr =>
   have hve:a.eval g= .func (.func h) #[] cs:=hve.trans (he.symm.trans (if_pos (by unfold RB at hhb;unfold MB;omega)))
   refine wpIn_rangeFunc fun fnid hfnid=> ?_
   rw[hro]
   generalize hvals:info.slots.map st.fr.get=vals at hcl hend
   let rc:Loop:={state:=.ready,pending:=none,fn:=fnid,tmps:=a.tmps,params:=info.params,assign:=info.assign,body:=info.body,defers:=w.heap.size}
   have s1:=z0a hst.inv (.deferred (some []))
   have hob:Le (w.heap.push (.deferred (some []))) G ((w.heap.push (.deferred (some []))).push (.loop rc)) (G.with kd (.blk (w.heap.push (.deferred (some []))).size .sc)) ->
     ObOk ((w.heap.push (.deferred (some []))).push (.loop rc)) (G.with kd (.blk (w.heap.push (.deferred (some []))).size .sc)) kd (.lp rid vals .ready):=fun hle=>by
    refine⟨(w.heap.push (.deferred (some []))).size,rc,info,by simp only[Gh.with,if_true],by rw[wi,if_pos rfl],hg.ri _ _ hri,⟨rfl,rfl,rfl,by show info.nt<=a.tmps.size;omega,rfl,rfl⟩,by rw[<-hvals];simp,fun j hj=> ?_⟩
    have hj':j<info.slots.length:=by rw[<-hvals]at hj;simpa using hj
    have e1:vals[j]=st.fr.get (info.slots[j]):=by subst hvals;simp
    have e2:info.slots.getD j 0=info.slots[j]:=by simp[hj']
    rw[e1,e2]
    exact((hst.fr _).mono s1.le).mono hle
   have s2:=zit s1.inv hkn (.loop rc) .sc (.lp rid vals .ready) hob
   have s12:=s1.trans s2
   let w1:World:=(w.alloc (.deferred (some []))).alloc (.loop rc)
   have hw1:w1.heap=(w.heap.push (.deferred (some []))).push (.loop rc):=rfl
   have hsz:(w.heap.push (.deferred (some []))).size=w.heap.size+1:=by simp
   have hnew:=ze6 hcl
   obtain⟨⟨h1,h2,h4,hkn2⟩,r,hp2,es,us',h5,h6,h7,rfl,rfl⟩:=zb8 hcl
   obtain⟨G1,hG1⟩:∃G1,G1=G.with kd (.blk (w.heap.push (.deferred (some []))).size .sc):=⟨_,rfl⟩
   rw[<-hG1]at s2 s12
   have hyr:RepS w1.heap G1 (.func (.yield (w.heap.size+1)) #[] #[]) (.yld kd):=.yld kd _ (by rw[hG1];simp[Gh.with])
   have hregkd:G1.reg kd=some (.blk (w.heap.size+1) .sc):=by rw[hG1];simp[Gh.with]
   have hhp1:∀q,SHK<=q->Hp.get ((kd,OB.lp rid vals .ready)::st.hp) q≠none->st.hp.get q≠none:=fun q hq h=>by
    rw[Hp.get_cons,if_neg (by omega)]at h;exact h
   generalize ((kd,OB.lp rid vals .ready)::st.hp)=hp1 at *
   generalize zax hp1 (kd::AV.refss caps)=ks at *
   rw[zcx]at h4
   obtain⟨⟨fn,hfn,hname,hbody⟩,hcalls⟩:=hcall.call h _ _ _ _ _ (fun _=>hhb) h5
   have hg1:GlOk w1.heap G1 gl:=hg.mono s12.le
   have hres:(resolve a.eval (rangeCall g (w.heap.size+1)) 0).run P w1= .ok {target:=.fn (.func h) cs,args:= #[.func (.yield (w.heap.size+1)) #[] #[]]} w1:=by
    simp[rangeCall,resolve,hve,Deferred.ofValue,show ∀v,a.eval (.const v)=v from fun _=>rfl]
   have hinv:(invoke (.fn (.func h) cs) #[.func (.yield (w.heap.size+1)) #[] #[]]).run P w1= .ok (.enter h (#[.func (.yield (w.heap.size+1)) #[] #[]]++cs)) w1:=by
    have hp:(program:Sem Program).run P w1= .ok P w1:=rfl
    simp only[invoke,callFunc,Sem.run_bind,hp,Result.andThen_ok,hfn,hname,hbody,w7,if_false,Sem.run_pure]
   have hreps:∀i (hi:i<(#[Value.func (.yield (w.heap.size+1)) #[] #[]]++cs).size) (hi':i<(AV.yld kd::caps).length),RepV w1.heap G1 (#[Value.func (.yield (w.heap.size+1)) #[] #[]]++cs)[i] (AV.yld kd::caps)[i]:=fun i hi hi'=>by
    cases i with
    | zero =>
      have e1:(#[Value.func (.yield (w.heap.size+1)) #[] #[]]++cs)[0]=Value.func (.yield (w.heap.size+1)) #[] #[]:=by rw[wf (by simp)];rfl
      rw[e1];exact(RepV.scalar rfl).2 hyr
    | succ i =>
      have hi2:i<caps.length:=by simpa using hi'
      have e1:(#[Value.func (.yield (w.heap.size+1)) #[] #[]]++cs)[i+1]=val i:=by
       have h1:=hval i hi2
       rw[wb (by simp)]
       simp only[wN,wH,List.length_nil,wZ,Nat.add_sub_cancel]
       exact(wa.1 h1).2
      have e2:(AV.yld kd::caps)[i+1]=caps[i]:=rfl
      rw[e1,e2,RepV.scalar (zgb hsc _ (wF hi2))]
      exact(hrr i hi2).mono s12.le
   have hlen:(rAs (up ks) (AV.yld kd::caps)).length=(AV.yld kd::caps).length:=za3 _ _
   refine⟨w.heap.size+1,[{target:=.collected w.heap.size,args:= #[]}],w1,_,w1,h,_,w1,run_enterLoop_outer ..,hres,fun f' _=>hF f',hinv,fun hd=>(by rw[hdep]at hd;cases hd),?_⟩
   refine(hcalls (n-1) w1 _ (upGh G1 ks) (zrg s2.inv h1) (hg1.move (fun b hb=>⟨hb,rfl⟩) fun i l h=>h) (by rw[hlen];simp;omega) fun i hi hi'=> ?_).mono ?_
   . have hi2:i<(AV.yld kd::caps).length:=by rw[hlen]at hi';exact hi'
     have e:(rAs (up ks) (AV.yld kd::caps))[i]=rA (up ks) (AV.yld kd::caps)[i]:=by
      generalize AV.yld kd::caps=l at *;simp[zce]
     rw[e]
     refine znn (hreps i hi hi2) fun k hk=> ?_
     rw[wG]at h2
     have:=h2 k (zbc (wF hi2) hk)
     simpa using this
   rintro e1 w' ⟨v0,G',rfl,hkept,hm,hh,hv⟩
   obtain⟨G2,g1,g2⟩:=zhi s2.inv h4 h1 hm (fun hne q hq r hr=>hh (by cases ks with|nil=>exact absurd rfl hne|cons k l=>simp[upHp]) q hq r hr) h6 h7 hv
   have hreg2:G2.reg kd=some (.blk (w.heap.size+1) .sc):=g1.le.blk hregkd
   simp only at hend hnew
   generalize hus:zdu ks dc hp2++us'=us at *
   have fin:∀rid2 vals2 s2' rc2,Hp.get (us++hp1) kd=some (.lp rid2 vals2 s2')->w'.heap[w.heap.size+1]? =some (.loop rc2) ->
     CameM L gl [w.heap.size] a w G st.hp {a with defers:=[{target:=.collected w.heap.size,args:= #[]}]++a.defers} (w'.putObj (w.heap.size+1) (.loop {rc2 with state:=.exhausted})) G2 {fr:=st.fr,hp:=(kd,.dead)::(us++hp1)}:=by
    intro rid2 vals2 s2' rc2 hk hb
    have hlt2:=(wa.1 hb).1
    have s3:Step w'.heap G2 (us++hp1) (w'.putObj (w.heap.size+1) (.loop {rc2 with state:=.exhausted})).heap G2 ((kd,.dead)::(us++hp1)) :=
     zck g1.inv hk _ .dead World.putObj_size (fun b hn=>World.putObj_heap_other fun e=>hn (by subst e;exact⟨.sc,.of hreg2,_,hk,by simp⟩)) (fun h=>absurd rfl h) fun _=>⟨_,hreg2⟩
    have s23:=g1.trans s3
    have s123:=s2.trans s23
    have stot:=s12.trans s23
    refine⟨⟨hkept.1,hkept.2⟩,stot.move,⟨stot.inv,fun i=>(hst.fr i).mono stot.le⟩,rfl,rfl,fun l q hq r hr=>zdg hst.inv stot (fun q hq hn=> ?_) hq hr,⟨by simp,fun r hr=> ?_⟩⟩
    . rw[Hp.get_cons,if_neg (by omega)]at hn
      exact hhp1 q hq (zjt (st:=⟨[],hp1⟩) (fr:=[]) hnew hq hn)
    . obtain rfl:=List.mem_singleton.1 hr
      have hnl:¬Live G st.hp w.heap.size:=fun h=>wY _ (hst.inv.lt _ h)
      refine⟨wX _,(s123.same _ (by simp) hnl).trans (by simp),fun hl=> ?_,fun hi=> ?_⟩
      . rcases s123.live _ hl with h|h
        . exact hnl h
        . simp at h;omega
      . rcases s123.immNew _ hi with h|h|h
        . exact wY _ (hst.inv.imm _ h).1
        . simp at h;omega
        . exact hnl h
   have obs2:∀rid2 vals2 s2',Hp.get (us++hp1) kd=some (.lp rid2 vals2 s2')->∃rc2 info2,w'.heap[w.heap.size+1]? =some (.loop rc2)/\RcOk info2 rc2 s2':=fun rid2 vals2 s2' hk=>by
    obtain⟨b2,rc2,info2,hr2,hb2,_,hrc2,_⟩:=g1.inv.obs kd _ hk
    rw[hreg2]at hr2;cases hr2
    exact⟨rc2,info2,hb2,hrc2⟩
   unfold qce at hend
   split at hend
   . rename_i hk
     simp only[wE,wj]at hend
     obtain⟨rfl,rfl⟩:=hend
     obtain⟨rc2,info2,hb2,hrc2⟩:=obs2 _ _ _ hk
     have hs:=hrc2.st
     simp only at hs
     refine⟨_,_,run_endLoop hb2 (by rw[hs.1];decide),?_⟩
     have hf:=fin _ _ _ _ hk hb2
     revert hf
     generalize w'.putObj (w.heap.size+1) _=w4
     intro hf
     rw[hs.2]
     exact hQ _ _ _ _ hf
   . rename_i e2 hk
     simp only[wE,wj]at hend
     obtain⟨rfl,rfl⟩:=hend
     obtain⟨rc2,info2,hb2,hrc2⟩:=obs2 _ _ _ hk
     have hs:=hrc2.st
     simp only at hs
     refine⟨_,_,run_endLoop hb2 (by rw[hs.1];decide),?_⟩
     have hf:=fin _ _ _ _ hk hb2
     revert hf
     generalize w'.putObj (w.heap.size+1) _=w4
     intro hf
     rw[hs.2]
     cases e2 with
     | norm=>exact hQ _ _ _ _ hf
     | ret=>exact wpIn_ret (hQ _ _ _ _ hf)
     | exit id=>exact wpIn_exit (hQ _ _ _ _ hf)
   . cases hend
 . cases hev
theorem zbv {n m:Nat}(h:n<=m):∀(c:Code),zc4 n c=true->zc4 m c=true:=by
 intro c
 induction c with
 | region id ops d =>
   intro hc
   simp only[zc4,Array.all_eq_true_iff_forall_mem]at hc ⊢
   intro o ho
   have:=hc o ho
   cases hd:o.dst with
   | none=>rfl
   | some d=>rw[hd]at this;simp only[decide_eq_true_eq]at this ⊢;exact wW this h
 | seq a b iha ihb=>intro hc;simp only[zc4,w6]at hc ⊢;exact⟨iha hc.1,ihb hc.2⟩
 | cond c a b iha ihb=>intro hc;simp only[zc4,w6]at hc ⊢;exact⟨iha hc.1,ihb hc.2⟩
 | block i b ih=>intro hc;exact ih hc
 | loop b ih=>intro hc;exact ih hc
 | scope b ih=>intro hc;exact ih hc
 | _=>intro _;rfl
structure FnCode (P:Program)(gl:Gl)(f:Nat)(fd:Fd):Prop where
 ok:∃fn code an,P.funcs[f]? =some fn/\(fn.name== "runtime.NumGoroutine")=false/\fn.body=some code/\comp P an 1000000 code=some fd.body/\zc4 fn.ntmps code=true/\mapO (zei P) fn.results.toList=some fd.res /\
  (zds an fn.ntmps 1000000 code).map (fun x=>gl.ri x.1)=(zds an fn.ntmps 1000000 code).map fun x=>some x.2
def qfd (P:Program)(f:Nat)(g:Cl->List AV->Hp->Option (AV×Hp×List OB)):Prop :=
 ∀gl cl,CallOk P Fence.wide gl cl->qff P Fence.wide gl fun f' as imps=>if f'=f then g cl as imps else none
structure RndCode (P:Program)(gl:Gl)(rid:Nat)(params slots:List Nat)(as body:MC):Prop where
 ok:∃info an ida idb,gl.ri rid=some info/\info.params.toList=params/\info.slots=slots/\comp P an ida info.assign=some as/\comp P an idb info.body=some body /\
  zc4 info.nt info.assign=true/\zc4 info.nt info.body=true/\(params.all fun p=>decide (p<info.nt))=true
theorem zjh :∀{l:List AV} {i j:Nat},(frOf i l).get j=if i<=j/\j<i+l.length then l.getD (j-i) .unk else .unk
 | [],i,j=>by simp[frOf,Fr.get]
 | a::l,i,j=>by
   simp only[frOf,Fr.get,zjh (l:=l),wH]
   by_cases h:i=j
   . subst h;simp
   . rw[if_neg h]
     by_cases h':i+1<=j/\j<i+1+l.length
     . rw[if_pos h',if_pos (by omega)]
       obtain⟨k,rfl⟩:∃k,j=i+1+k:=⟨j-(i+1),by omega⟩
       rw[show i+1+k-(i+1)=k by omega,show i+1+k-i=k+1 by omega]
       rfl
     . rw[if_neg h',if_neg (by omega)]
theorem qdk {H:Heap}{G G2:Gh}{hp hp2:Hp}(inv:Inv H G hp){ρ:Nat->Nat}{K:List Nat}(himm:∀b,G2.imm b↔G.imm b)(hyl:∀i l,G.yl i=some l->G2.yl i=some l)
  (hreg:∀k∈K,G2.reg (ρ k)=G.reg k) (hregd:∀q r,G2.reg q=some r->∃k∈K,q=ρ k)
  (hget:∀q o,hp2.get q=some o->∃k∈K,q=ρ k/\∃o0,hp.get k=some o0/\o=rOB ρ o0/\∀j∈zdd o0,j∈K) (hex:∀k∈K,hp2.get (ρ k)≠none) :
  Inv H G2 hp2/\∀b,Live G2 hp2 b->Live G hp b:=by
 have hlive:∀q b r,za0 hp2 q->G2.At q b r->∃k,q=ρ k/\za0 hp k/\G.At k b r:=by
  rintro q b r ⟨o,ho,hd⟩ hr
  obtain⟨k,hk,rfl,o0,h0,rfl,_⟩:=hget q o ho
  exact⟨k,rfl,⟨o0,h0,zho hd⟩,(Gh.at_congr (hreg k hk)).1 hr⟩
 have hl:∀b,Live G2 hp2 b->Live G hp b:=by
  rintro b ⟨q,r,h1,h2⟩
  obtain⟨k,_,h3,h4⟩:=hlive q b r h1 h2
  exact⟨k,r,h3,h4⟩
 refine⟨⟨fun q o h=> ?_,fun q h=> ?_,fun q q' b r r' h h' l l'=> ?_,fun b hb=> ?_,fun b hb=>inv.lt b (hl b hb)⟩,hl⟩
 . obtain⟨k,hk,rfl,o0,h0,rfl,hj⟩:=hget q o h
   exact zja (inv.obs k o0 h0) (hreg k hk) (fun b hb=>(himm b).2 hb) hyl fun j hj'=>hreg j (hj j hj')
 . cases hr:G2.reg q with
   | none=>rfl
   | some r =>
     obtain⟨k,hk,rfl⟩:=hregd q r hr
     exact absurd h (hex k hk)
 . obtain⟨k,rfl,h1,h2⟩:=hlive q b r l h
   obtain⟨k',rfl,h1',h2'⟩:=hlive q' b r' l' h'
   rw[inv.dist k k' b r r' h2 h2' h1 h1']
 . have:=inv.imm b ((himm b).1 hb)
   exact⟨this.1,fun h=>this.2 (hl b h)⟩
open Classical in
noncomputable def zig (G:Gh)(hk E:List Nat):Gh :=
 {G with reg:=fun q=>if q∈hk then G.reg q else if 20000<=q/\q-20000<E.length then G.reg (E.getD (q-20000) 0)else none}
theorem zha {hp:Hp}{E:List Nat}:∀{hk:List Nat} {q:Nat},(zeq hp E hk).get q=if q∈hk then some (rOB (nm E) (getO hp q))else none
 | [],q=>by simp[zeq,Hp.get]
 | k::l,q=>by
   rw[zeq,Hp.get_cons,zha]
   by_cases h:k=q
   . simp[h]
   . rw[if_neg h]
     have:¬q=k:=fun e=>h e.symm
     simp[this]
theorem zi5 {H:Heap}{tmps:Array Value}(hst:StOk H G st tmps){hk E:List Nat}{rs l:List AV}{hb:Hp}{es:List OB}(h:zft st hk rs E=some (l,hb,es)){vs:List Value}(hlen:vs.length=rs.length)
  (hv:∀i (h:i<vs.length) (h':i<rs.length),RepT H G vs[i] rs[i]) :
  Inv H (zig G hk E) (hb++zcc 0 es)/\(∀b,Live (zig G hk E) (hb++zcc 0 es) b->Live G st.hp b)/\(∀q,SHK<=q->∀r,(zig G hk E).reg q=some r->G.reg q=some r) /\
  l.length=rs.length/\∀i (h:i<vs.length) (h':i<l.length),RepV H (zig G hk E) vs[i] l[i]:=by
 unfold zft at h
 rw[wD]at h
 obtain⟨hc,h⟩:=h
 simp only[wE,wj]at h
 obtain⟨rfl,rfl,rfl⟩:=h
 simp only[w6,decide_eq_true_eq,zcx,wG (p:=fun k=>decide (SHK<=k)),wG (p:=fun k=>decide (k<SHK))]at hc
 obtain⟨⟨⟨⟨⟨⟨c1,c2⟩,c3⟩,c4⟩,c5⟩,c6⟩,c7⟩:=hc
 rw[wG]at c2
 have c3':=List.nodup_append.1 c3
 have hidx:∀k∈E,idx E k<E.length/\E.getD (idx E k) 0=k:=fun k hk'=>zgl hk'
 have hbig:∀i,i<E.length->20000+i<SHK:=fun i hi=>by unfold SHK;omega
 have hnotin:∀q,q<SHK->q∉hk:=fun q hq hm=>absurd (c4 q hm) (w5.2 hq)
 have hnmH:∀k∈hk,nm E k=k:=fun k hm=>by unfold nm;rw[if_pos (c4 k hm)]
 have hnmE:∀k∈E,nm E k=20000+idx E k:=fun k hm=>by unfold nm;rw[if_neg (w5.2 (c5 k hm))]
 have hreg:∀k∈hk++E,(zig G hk E).reg (nm E k)=G.reg k:=fun k hm=>by
  rcases wU.1 hm with hm|hm
  . rw[hnmH k hm];simp only[zig];rw[if_pos hm]
  . have ⟨i1,i2⟩:=hidx k hm
    rw[hnmE k hm]
    simp only[zig]
    rw[if_neg (hnotin _ (hbig _ i1)),if_pos ⟨by omega,by omega⟩,show 20000+idx E k-20000=idx E k by omega,i2]
 obtain⟨g1,g2⟩:=qdk (G2:=zig G hk E) (hp2:=zeq st.hp E hk++zcc 0 (E.map fun k=>rOB (nm E) (getO st.hp k))) (ρ:=nm E) (K:=hk++E) hst.inv (fun _=>Iff.rfl) (fun _ _ h=>h) hreg
  (fun q r hr=>by
    simp only[zig]at hr
    split at hr
    . rename_i hm;exact⟨q,wL _ hm,(hnmH q hm).symm⟩
    . split at hr
      . rename_i hq
        have hm:E.getD (q-20000) 0∈E:=by rw[wP,wS hq.2];exact wF hq.2
        refine⟨E.getD (q-20000) 0,wK _ hm,?_⟩
        rw[hnmE _ hm,zg9 c3'.2.1 hq.2];omega
      . cases hr)
  (fun q o ho=>by
    rw[Hp.get_append,zha]at ho
    by_cases hm:q∈hk
    . rw[if_pos hm]at ho
      cases ho
      have ⟨e1,e2⟩:=zcz c1 q (wL _ hm)
      exact⟨q,wL _ hm,(hnmH q hm).symm,_,e1,rfl,e2⟩
    . rw[if_neg hm]at ho
      obtain⟨i,hi,e,e2⟩:=zhy.1 ho
      have hi':i<E.length:=by simpa using hi
      have hm2:E[i]∈E:=wF hi'
      have ⟨f1,f2⟩:=zcz c1 E[i] (wK _ hm2)
      refine⟨E[i],wK _ hm2,?_,_,f1,?_,f2⟩
      . have:=zg9 c3'.2.1 hi'
        rw[wP,wS hi']at this
        rw[hnmE _ hm2,e];simp only[Option.getD_some]at this;rw[this]
      . rw[<-e2];simp)
  (fun k hm=>by
    rw[Hp.get_append,zha]
    rcases wU.1 hm with hm|hm
    . rw[hnmH k hm,if_pos hm];simp
    . have ⟨i1,i2⟩:=hidx k hm
      rw[hnmE k hm,if_neg (hnotin _ (hbig _ i1))]
      have:(zcc 0 (E.map fun k=>rOB (nm E) (getO st.hp k))).get (20000+idx E k)=some _:=zhy.2 ⟨idx E k,by simpa using i1,rfl,rfl⟩
      rw[this];simp)
 refine⟨g1,g2,fun q hq r hr=> ?_,za3 _ _,fun i hi hi'=> ?_⟩
 . simp only[zig]at hr
   split at hr
   . exact hr
   . split at hr
     . rename_i hq2
       have:=hbig _ hq2.2
       omega
     . cases hr
 . have hi2:i<rs.length:=by omega
   have e:(rAs (nm E) rs)[i]=rA (nm E) rs[i]:=by simp[zce]
   rw[e]
   refine((RepT.of_known (zev c7 _ (wF hi2))).1 (hv i hi hi2)).renA (.inr fun _ h=>h) (fun _ _ h=>h) fun k hk'=>hreg k ?_
   have:=c2 k (zbc (wF hi2) hk')
   simpa using this
theorem zr7 {L:Prop}{fn:Func}{res:List ResD}{pk:List Pk}{a a':Act}{w':World}{st':St}{z:List AV×List OB}{r:AV}{os:Hp}{es:List OB}(hres:mapO (zei P) fn.results.toList=some res)
  (hc:Came L gl a w G [] a' w' G' st') (hz:zg5 st' res pk=some z) (he:((match z.1 with|[a]=>a|l=>.tup l),([]:Hp),z.2)=(r,os,es)) :
  ∃v,(results fn a'.tmps).run P w'= .ok v w'/\∃v1 G1,Ending.returned v= .returned v1/\Kept w w'/\Move w.heap G [] w'.heap G1 (zcc 0 es)/\RepT w'.heap G1 v1 r:=by
 obtain⟨l,es'⟩:=z
 simp only[wj]at he
 obtain⟨he1,rfl,rfl⟩:=he
 have hz':=hz
 unfold zg5 at hz'
 rw[wB]at hz'
 obtain⟨rs,hrs,_⟩:=hz'
 obtain⟨us,g1,g2,g3,g4⟩:=zfs hc.ok hres hrs
 obtain⟨k1,k2,k3,k4⟩:=z64 hc.ok hz hrs (by omega) g4
 have hrun:=zgd (fn:=fn) (vs:=us) (by simpa using g1) fun i hi hi'=>by
  have:=g3 i (by simpa using hi) hi'
  simpa using this
 refine⟨_,hrun,_,zi4 G' st'.hp (zcl rs pk),rfl,hc.kept,?_,?_⟩
 . have m:=hc.move
   have hnl:∀b,¬Live G [] b:=fun b ⟨k,r,⟨o,ho,_⟩,_⟩=>by cases ho
   have hdl:∀b,Live G' (zla ((zcl rs pk).filterMap id)++st'.hp) b->Live G' st'.hp b:=by
    rintro b ⟨k,r,⟨o,ho,hd⟩,hr⟩
    rw[zf5]at ho
    split at ho
    . cases ho;exact absurd rfl hd
    . exact⟨k,r,⟨o,ho,hd⟩,hr⟩
   refine⟨k1,m.size,fun b hb=>⟨.inl (m.imm b hb).1,(m.imm b hb).2⟩,m.yl,m.same,fun b hb=>m.live b (k2 b hb),fun b hb=> ?_⟩
   rcases hb with hb|hb
   . exact m.immNew b hb
   . rcases m.live b (hdl b hb)with h|h
     . exact absurd h (hnl b)
     . exact .inr (.inl h)
 . subst he1
   match us,l,k3,g1,g2,k4 with
   | [],[],_,_,_,_=>exact⟨#[],rfl,rfl,fun i h=>by simp at h⟩
   | [u],[x],_,_,_,k4 =>
     have:=k4 0 (by simp) (by simp)
     exact(RepT.of_known this.known).2 this
   | u1::u2::us,x1::x2::l,_,_,_,k4 =>
     refine⟨_,rfl,by simp only[wN];simp only[wH]at *;omega,fun i h h'=> ?_⟩
     have:=k4 i (by simpa using h) h'
     simpa using this
   | [],_::_,h1,h2,h3,_=>simp at *;omega
   | [_],[],h1,h2,h3,_=>simp at *;omega
   | [_],_::_::_,h1,h2,h3,_=>simp at *;omega
   | _::_::_,[],h1,h2,h3,_=>simp at *;omega
   | _::_::_,[_],h1,h2,h3,_=>simp at *;omega
theorem zrv {l:List (Nat×RInfo)}(h:l.map (fun x=>gl.ri x.1)=l.map fun x=>some x.2):∀x∈l,gl.ri x.1=some x.2:=by
 induction l with
 | nil=>intro x hx;cases hx
 | cons y l ih =>
   simp only[List.map_cons,List.cons.injEq]at h
   intro x hx
   rcases wJ.1 hx with rfl|hx
   . exact h.1
   . exact ih h.2 x hx
theorem z79 (hF:∀f,F.fn f)(hdep:F.depth=none)(hro:F.round=none)(hmix:P.follows .mixedOrders=true)(hcall:CallOk P F gl cl)(hcallW:CallOk P Fence.wide gl cl){f:Nat}{fd:Fd}(hfd:FnCode P gl f fd)
  {as:List AV} {r:AV} {os:Hp} {es:List OB} (hgen:zmq fd.pk=false) (h:evFn gl cl fd as []=some (r,os,es)) (n:Nat) {w:World} {vs:Array Value} (inv:Inv w.heap G []) (hg:GlOk w.heap G gl) (hlen:vs.size=as.length)
  (hrep:∀i (h:i<vs.size) (h':i<as.length),RepV w.heap G vs[i] as[i]) :
  CallsIn F n P f vs w fun e w'=>∃v G',e= .returned v/\Kept w w'/\Move w.heap G [] w'.heap G' (zcc 0 es)/\RepT w'.heap G' v r:=by
 obtain⟨fn,code,an,hfn,hname,hbody,hcomp,hdst,hres,hrfl⟩:=hfd.ok
 simp only[evFn,hgen,w7,if_false,wB]at h
 obtain⟨⟨e,st'⟩,hev,h⟩:=h
 have S:Setting P F n gl cl:=⟨hmix,zdq hF hdep hcall n,zcv (zdq (fun _=>trivial) rfl hcallW n),hF⟩
 have hst:StOk w.heap G {fr:=frOf 0 as,hp:=[]} (vs++Array.replicate (fn.ntmps-vs.size) undef):=by
  refine⟨inv,fun i=> ?_⟩
  rw[zjh]
  by_cases hi:0<=i/\i<0+as.length
  . rw[if_pos hi]
    have h1:i<vs.size:=by omega
    have h2:i<as.length:=by omega
    have e1:(vs++Array.replicate (fn.ntmps-vs.size) undef).getD i undef=vs[i]:=by
     rw[w9,wc h1];simp[h1]
    have e2:as.getD (i-0) .unk=as[i]:=by simp[h2]
    rw[e1,e2]
    have hv:=hrep i h1 h2
    exact(RepT.of_known hv.known).2 hv
  . rw[if_neg hi];trivial
 refine callsIn_of_wp_marks hfn hbody (hF f) ?_ hro
 refine zqy (L:=False) (M:=fn.ntmps) (by simp;omega) S code 1000000 fd.body hcomp (fun h=>h.elim) (fun _=>qhb hF hdep hro hcall n _) (zrv hrfl) (zbv (by simp;omega) code hdst) _ w G _ st' e hg hst rfl hev _ fun ms a' w' G' _ hc=> ?_
 have key:=fun(w'':World) (hs:Same ms w' w'') z=>zr7 (z:=z) (pk:=fd.pk) (r:=r) (os:=os) (es:=es) hres (hc.leave hs)
 cases e with
 | exit i=>cases h
 | norm =>
   simp only[wC]at h
   obtain⟨z,hz,he⟩:=h
   show LeavesInM F n P fn a'.tmps _ a'.defers .returning w'
   rw[hc.defers]
   exact zea ms w' hc.marks.nd (fun q hq=>(hc.marks.ok q hq).2.1) fun w'' hs=>key w'' hs z hz he
 | ret =>
   simp only[wC]at h
   obtain⟨z,hz,he⟩:=h
   show LeavesInM F n P fn a'.tmps _ a'.defers .returning w'
   rw[hc.defers]
   exact zea ms w' hc.marks.nd (fun q hq=>(hc.marks.ok q hq).2.1) fun w'' hs=>key w'' hs z hz he
theorem qiz (hF:∀f,F.fn f)(hdep:F.depth=none)(hro:F.round=none)(hmix:P.follows .mixedOrders=true)(hcall:CallOk P F gl cl)(hcallW:CallOk P Fence.wide gl cl){f:Nat}{fd:Fd}(hfd:FnCode P gl f fd)
  {as:List AV} {imps:Hp} {r:AV} {os:Hp} {es:List OB} (hgen:zmq fd.pk=true) (h:evFn gl cl fd as imps=some (r,os,es)) (n:Nat) {w:World} {vs:Array Value} (inv:Inv w.heap G imps) (hg:GlOk w.heap G gl) (hlen:vs.size=as.length)
  (hrep:∀i (h:i<vs.size) (h':i<as.length),RepV w.heap G vs[i] as[i]) :
  CallsIn F n P f vs w fun e w'=>∃v G',e= .returned v/\Kept w w'/\Move w.heap G imps w'.heap G' (os++zcc 0 es)/\(imps≠[]->∀q,SHK<=q->∀r,G'.reg q=some r->∃r0,G.reg q=some r0/\r0.le r)/\RepT w'.heap G' v r:=by
 obtain⟨fn,code,an,hfn,hname,hbody,hcomp,hdst,hres,hrfl⟩:=hfd.ok
 simp only[evFn,hgen,if_true]at h
 split at h
 . cases h
 rename_i hlt
 have hlt:mcLt fd.body=true:=by simpa using hlt
 simp only[wB]at h
 obtain⟨⟨e,st'⟩,hev,h⟩:=h
 have S:Setting P F n gl cl:=⟨hmix,zdq hF hdep hcall n,zcv (zdq (fun _=>trivial) rfl hcallW n),hF⟩
 have hst:StOk w.heap G {fr:=frOf 0 as,hp:=imps} (vs++Array.replicate (fn.ntmps-vs.size) undef):=by
  refine⟨inv,fun i=> ?_⟩
  rw[zjh]
  by_cases hi:0<=i/\i<0+as.length
  . rw[if_pos hi]
    have h1:i<vs.size:=by omega
    have h2:i<as.length:=by omega
    have e1:(vs++Array.replicate (fn.ntmps-vs.size) undef).getD i undef=vs[i]:=by
     rw[w9,wc h1];simp[h1]
    have e2:as.getD (i-0) .unk=as[i]:=by simp[h2]
    rw[e1,e2]
    have hv:=hrep i h1 h2
    exact(RepT.of_known hv.known).2 hv
  . rw[if_neg hi];trivial
 refine callsIn_of_wp_marks hfn hbody (hF f) ?_ hro
 refine zqy (L:=True) (M:=fn.ntmps) (by simp;omega) S code 1000000 fd.body hcomp (fun _=>hlt) (fun _=>qhb hF hdep hro hcall n _) (zrv hrfl) (zbv (by simp;omega) code hdst) _ w G _ st' e hg hst rfl hev _ fun ms a' w' G' _ hcM=> ?_
 have key:∀(a':Act) (w':World),Came True gl {tmps:=vs++Array.replicate (fn.ntmps-vs.size) undef,defers:=[]} w G imps a' w' G' st'->∀rs z,zbi st' fd.res=some rs->zft st' (zcq imps) rs (zcy st' (zcq imps) rs)=some z->(zp2 z.1,z.2.1,z.2.2)=(r,os,es) ->
   ∃v,(results fn a'.tmps).run P w'= .ok v w'/\∃v1 G1,Ending.returned v= .returned v1/\Kept w w'/\Move w.heap G imps w'.heap G1 (os++zcc 0 es)/\(imps≠[]->∀q,SHK<=q->∀r,G1.reg q=some r->∃r0,G.reg q=some r0/\r0.le r)/\RepT w'.heap G1 v1 r:=by
  rintro a' w' hc rs ⟨l,os',es'⟩ hrs hz he
  simp only[wj]at he
  obtain⟨he1,rfl,rfl⟩:=he
  obtain⟨us,g1,g2,g3,g4⟩:=zfs hc.ok hres hrs
  obtain⟨k1,k2,kh,k3,k4⟩:=zi5 hc.ok hz (by omega) g4
  have hrun:=zgd (fn:=fn) (vs:=us) (by simpa using g1) fun i hi hi'=>by
   have:=g3 i (by simpa using hi) hi'
   simpa using this
  refine⟨_,hrun,_,zig G' (zcq imps) (zcy st' (zcq imps) rs),rfl,hc.kept,?_,fun _ q hq r hr=>hc.hand trivial q hq r (kh q hq r hr),?_⟩
  . have m:=hc.move
    exact⟨k1,m.size,m.imm,m.yl,m.same,fun b hb=>m.live b (k2 b hb),m.immNew⟩
  . subst he1
    match us,l,k3,g1,g2,k4 with
    | [],[],_,_,_,_=>exact⟨#[],rfl,rfl,fun i h=>by simp at h⟩
    | [u],[x],_,_,_,k4 =>
      have:=k4 0 (by simp) (by simp)
      exact(RepT.of_known this.known).2 this
    | u1::u2::us,x1::x2::l,_,_,_,k4 =>
      refine⟨_,rfl,by simp only[wN];simp only[wH]at *;omega,fun i h h'=> ?_⟩
      have:=k4 i (by simpa using h) h'
      simpa using this
    | [],_::_,h1,h2,h3,_=>simp at *;omega
    | [_],[],h1,h2,h3,_=>simp at *;omega
    | [_],_::_::_,h1,h2,h3,_=>simp at *;omega
    | _::_::_,[],h1,h2,h3,_=>simp at *;omega
    | _::_::_,[_],h1,h2,h3,_=>simp at *;omega
 cases e with
 | exit i=>cases h
 | norm =>
   simp only[wB,wC]at h
   obtain⟨rs,hrs,z,hz,he⟩:=h
   show LeavesInM F n P fn a'.tmps _ a'.defers .returning w'
   rw[hcM.defers]
   exact zea ms w' hcM.marks.nd (fun q hq=>(hcM.marks.ok q hq).2.1) fun w'' hs=>key {tmps:=a'.tmps,defers:=[]} w'' (hcM.leave hs) rs z hrs hz he
 | ret =>
   simp only[wB,wC]at h
   obtain⟨rs,hrs,z,hz,he⟩:=h
   show LeavesInM F n P fn a'.tmps _ a'.defers .returning w'
   rw[hcM.defers]
   exact zea ms w' hcM.marks.nd (fun q hq=>(hcM.marks.ok q hq).2.1) fun w'' hs=>key {tmps:=a'.tmps,defers:=[]} w'' (hcM.leave hs) rs z hrs hz he
theorem qeb {fd:Fd}{as:List AV}{r:AV}{os:Hp}{es:List OB}(hgen:zmq fd.pk=false)(h:evFn gl cl fd as []=some (r,os,es)):os=[]:=by
 simp only[evFn,hgen,w7,if_false,wB]at h
 obtain⟨⟨e,st'⟩,hev,h⟩:=h
 cases e with
 | exit i=>cases h
 | norm=>simp only[wC,wj]at h;obtain⟨z,hz,_,h,_⟩:=h;exact h.symm
 | ret=>simp only[wC,wj]at h;obtain⟨z,hz,_,h,_⟩:=h;exact h.symm
theorem zs2 {p:Nat}{x:AV}{fr:Fr}:∀{ps:List Nat} {as:List AV} (i:Nat),p∉ps->(frAt ps as++.set p x::fr).get i=Fr.get (.set p x::(frAt ps as++fr)) i
 | [],as,i,_=>by cases as<;>rfl
 | q::ps,[],i,_=>rfl
 | q::ps,y::as,i,h=>by
   rw[wJ,not_or]at h
   have ih:=zs2 (p:=p) (x:=x) (fr:=fr) (ps:=ps) (as:=as) i h.2
   simp only[frAt,List.cons_append,Fr.get]at ih ⊢
   rw[ih]
   by_cases h1:q=i
   . rw[if_pos h1,if_neg (fun e=>h.1 (e.trans h1.symm)),if_pos h1]
   . rw[if_neg h1,if_neg h1]
theorem znv {H:Heap}{G:Gh}:∀(ps:List Nat) (as:List AV) (vs:List Value) (tmps:Array Value) (fr:Fr),vs.length=as.length->as.length=ps.length->ps.Nodup->(∀p∈ps,p<tmps.size) ->
  (∀i (h:i<vs.length) (h':i<as.length),RepV H G vs[i] as[i])->(∀i,RepT H G (tmps.getD i undef) (fr.get i)) ->
  ∀i,RepT H G (((ps.zip vs).foldl (fun tmps (t,a)=>tmps.setIfInBounds t a) tmps).getD i undef) ((frAt ps as++fr).get i)
 | [],as,vs,tmps,fr,_,_,_,_,_,hf,i=>by cases as<;>exact hf i
 | p::ps,a::as,v::vs,tmps,fr,h1,h2,hn,hlt,hr,hf,i=>by
   rw[wT]at hn
   have h0:=hr 0 (by simp) (by simp)
   simp only[List.zip_cons_cons,wV]
   have:=znv ps as vs (tmps.setIfInBounds p v) (.set p a::fr) (by simpa using h1) (by simpa using h2) hn.2 (fun q hq=>by rw[wh];exact hlt q (by simp[hq]))
    (fun i h h'=>by have:=hr (i+1) (by simpa using h) (by simpa using h');simpa using this) (fun i=>by
      have hp:=hlt p (by simp)
      simp only[Fr.get]
      by_cases hi:p=i
      . subst hi
        rw[if_pos rfl,w9,Array.getElem?_setIfInBounds_self_of_lt hp]
        exact(RepT.of_known h0.known).2 h0
      . rw[if_neg hi,w9,Array.getElem?_setIfInBounds_ne hi,<-w9];exact hf i) i
   rw[zs2 i hn.1]at this
   exact this
 | _::_,[],_,_,_,_,h2,_,_,_,_,_=>by simp at h2
 | _::_,_::_,[],_,_,h1,_,_,_,_,_,_=>by simp at h1
theorem zls {H:Heap}{G:Gh}{tmps:Array Value}:∀(ps:List Nat) (vals:List AV),(∀j (h:j<vals.length) (h':j<ps.length),RepT H G (tmps.getD ps[j] undef) vals[j])->∀i,RepT H G (tmps.getD i undef) ((frAt ps vals).get i)
 | [],vals,_,i=>by cases vals<;>trivial
 | _::_,[],_,i=>trivial
 | p::ps,v::vals,h,i=>by
   simp only[frAt,Fr.get]
   by_cases hi:p=i
   . subst hi
     rw[if_pos rfl]
     exact h 0 (by simp) (by simp)
   . rw[if_neg hi]
     exact zls ps vals (fun j h1 h2=>by have:=h (j+1) (by simpa using h1) (by simpa using h2);simpa using this) i
theorem CallOk.inRound {l:Nat}(h:CallOk P F gl cl):CallOk P (F.inRound l) gl cl:=⟨h.call,h.rnd⟩
theorem zlu {L:Prop}{a a1:Act}{w w1:World}{G G1:Gh}{hp:Hp}{st:St}{b:Nat}{x:Obj}{rid:Nat}{vals:List AV}{s s':RS}(hc:Came L gl a w G hp a1 w1 G1 st)(hk:st.hp.get SHK=some (.lp rid vals s))(hr:G1.reg SHK=some (.blk b .sc))
  (hob:Le w1.heap G1 (w1.putObj b x).heap G1->ObOk (w1.putObj b x).heap G1 SHK (.lp rid vals s')):Came L gl a w G hp a1 (w1.putObj b x) G1 {fr:=st.fr,hp:=(SHK,.lp rid vals s')::st.hp}:=by
 have hs:Step w1.heap G1 st.hp (w1.putObj b x).heap G1 ((SHK,.lp rid vals s')::st.hp) :=
  zck hc.ok.inv hk _ (.lp rid vals s') World.putObj_size (fun c hn=>World.putObj_heap_other fun e=>hn (by subst e;exact⟨.sc,.of hr,_,hk,by simp⟩)) (fun _ h=>by cases h) hob
 exact hc.trans ⟨⟨rfl,rfl⟩,hs.move,⟨hs.inv,fun i=>(hc.ok.fr i).mono hs.le⟩,rfl,rfl,fun l q hq r hr=>zdg hc.ok.inv hs (fun q hq hn=>by
  rw[Hp.get_cons]at hn
  split at hn
  . rename_i e;subst e;rw[hk];simp
  . exact hn) hq hr,.nil⟩
theorem qg6 (hF:∀f,F.fn f)(hdep:F.depth=none)(hmix:P.follows .mixedOrders=true)(hcall:CallOk P F gl cl)(hcallW:CallOk P Fence.wide gl cl){rid:Nat}{params slots:List Nat}{mA mB:MC}(hcode:RndCode P gl rid params slots mA mB)
  {as:List AV} {imps:Hp} {r:AV} {imps':Hp} {es:List OB} (h:znk params slots mA mB gl cl as imps=some (r,imps',es)) (n:Nat) (w:World) (vs:Array Value) (G:Gh) (b:Nat) (rc:Loop) (vals:List AV)
  (inv:Inv w.heap G imps) (hg:GlOk w.heap G gl) (hlen:vs.size=as.length) (hrep:∀i (h:i<vs.size) (h':i<as.length),RepV w.heap G vs[i] as[i])
  (hk0:imps.get SHK=some (.lp rid vals .ready)) (hr0:G.reg SHK=some (.blk b .sc)) (hb0:w.heap[b]? =some (.loop rc)) :
    vs.size=rc.params.size/\RoundIn F n P b rc.fn ((rc.params.zip vs).foldl (fun tmps (t,a)=>tmps.setIfInBounds t a) rc.tmps) rc.assign rc.body w
     fun e w'=>∃v G',e= .returned v/\Kept w w'/\Move w.heap G imps w'.heap G' (imps'++zcc 0 es)/\(imps≠[]->∀q,SHK<=q->∀r,G'.reg q=some r->∃r0,G.reg q=some r0/\r0.le r)/\RepT w'.heap G' v r:=by
 obtain⟨info,an,ida,idb,hri,hps,hsl,hA,hB,hdA,hdB,hpl⟩:=hcode.ok
 obtain⟨b',rc',info',hr',hb',hy',hrc,hw⟩:=inv.obs SHK _ hk0
 rw[hr0]at hr';cases hr'
 rw[hb0]at hb';cases hb'
 have:=hg.ri _ _ hri
 rw[hy']at this;cases this
 unfold znk at h
 split at h
 case h_2=>cases h
 rename_i q rid1 vals1 rest
 rw[wD]at h
 obtain⟨hc,h⟩:=h
 simp only[w6,decide_eq_true_eq,w8,zcx]at hc
 obtain⟨⟨⟨⟨⟨⟨rfl,hal⟩,hnd⟩,hltA⟩,hltB⟩,hrfA⟩,hrfB⟩:=hc
 rw[Hp.get_cons,if_pos rfl]at hk0
 simp only[wE,OB.lp.injEq]at hk0
 obtain⟨rfl,rfl,_⟩:=hk0
 have hpsz:rc.params.size=params.length:=by rw[hrc.params,<-hps];simp
 refine⟨by omega,?_⟩
 simp only[wB]at h
 obtain⟨⟨eA,stA⟩,hevA,h⟩:=h
 split at h
 case h_2=>cases h
 rename_i r1 v1 heA hkA
 simp only at heA hkA h
 subst heA
 rw[wB]at h
 obtain⟨⟨eB,stB⟩,hevB,h⟩:=h
 split at h
 case h_2=>cases h
 rename_i r2 v2 hkB
 simp only at hkB h
 simp only[wC]at h
 obtain⟨⟨l,hb,es'⟩,hpk,he⟩:=h
 simp only[wj]at he
 obtain⟨rfl,rfl,rfl⟩:=he
 let tm:=(rc.params.zip vs).foldl (fun tmps (t,a)=>tmps.setIfInBounds t a) rc.tmps
 have htm:tm=(params.zip vs.toList).foldl (fun tmps (t,a)=>tmps.setIfInBounds t a) rc.tmps:=by
  show(rc.params.zip vs).foldl _ rc.tmps=_
  rw[<-Array.foldl_toList,Array.toList_zip,hrc.params,hps]
 have hsize:∀(l:List (Nat×Value)) (t:Array Value),(l.foldl (fun tmps (t,a)=>tmps.setIfInBounds t a) t).size=t.size:=by
  intro l
  induction l with
  | nil=>intro t;rfl
  | cons x l ih=>intro t;rw[wV,ih,wh]
 have htsz:tm.size=rc.tmps.size:=by rw[htm];exact hsize _ _
 have hnt:=hrc.nt
 rw[wG]at hpl
 have hst:StOk w.heap G {fr:=frAt params as++frAt slots vals1,hp:=(SHK,.lp rid1 vals1 .ready)::rest} tm:=by
  refine⟨inv,?_⟩
  rw[htm]
  refine znv params as vs.toList rc.tmps _ (by simpa using hlen) hal hnd (fun p hp=>by have:=of_decide_eq_true (hpl p hp);omega) (fun i h1 h2=>by have:=hrep i (by simpa using h1) h2;simpa using this) ?_
  rw[<-hsl]
  refine zls info.slots vals1 fun j h1 h2=> ?_
  have:=hw.get j h1
  have e:info.slots.getD j 0=info.slots[j]:=by simp[h2]
  rwa [e]at this
 have S:Setting P (F.inRound b) n gl cl:=⟨hmix,zdq (F:=F.inRound b) hF hdep hcall.inRound n,zcv (zdq (fun _=>trivial) rfl hcallW n),hF⟩
 have hreg:∀{G1:Gh} {b1:Nat},(∀q,SHK<=q->∀r,G1.reg q=some r->∃r0,G.reg q=some r0/\r0.le r)->G1.reg SHK=some (.blk b1 .sc)->b1=b:=fun hh h1=>by
  obtain⟨r0,h2,h3⟩:=hh SHK (wX _) _ h1
  rw[hr0]at h2;cases h2
  cases h3;rfl
 refine roundIn_of_wpIn (hF _) ?_
 rw[hrc.assign,hrc.body]
 refine ze8 (N:=tm.size) (L:=True) S info.assign ida mA hA hrfA (fun _=>hltA) (zbv (by omega) _ hdA) {tmps:=tm,defers:=[]} w G _ stA .norm hg hst rfl hevA _ fun a1 w1 G1 hcA=> ?_
 obtain⟨b1,rc1,info1,g1,g2,g3,g4,g5⟩:=hcA.ok.inv.obs SHK _ hkA
 obtain rfl:=hreg (hcA.hand trivial) g1
 have hs1:=g4.st
 simp only at hs1
 have hcB:=zlu (x:=.loop {rc1 with state:=.busy}) (s':=.busy) hcA hkA g1 fun le=>⟨b1,_,info1,g1,World.putObj_heap_same (wa.1 g2).1,g3,⟨g4.params,g4.assign,g4.body,g4.nt,rfl⟩,g5.len,fun j hj=>(g5.get j hj).mono le⟩
 refine⟨_,run_beginRound g2 hs1.1,?_⟩
 refine ze8 (N:=tm.size) (L:=True) S info.body idb mB hB hrfB (fun _=>hltB) (zbv (by omega) _ hdB) a1 _ G1 _ stB eB (hg.moved hcB.move) hcB.ok (hcB.size) hevB _ fun a3 w3 G3 hcC=> ?_
 have hcD:=hcB.trans hcC
 obtain⟨b3,rc3,info3,k1,k2,k3,k4,k5⟩:=hcD.ok.inv.obs SHK _ hkB
 obtain rfl:=hreg (hcD.hand trivial) k1
 have post:∀(jump:Option Code) (s':RS),(match s' with| .ready=>jump=none| .busy=>False| .done e=>jump=(match e with| .norm=>none| .ret=>some .ret| .exit id=>some (.exit id))/\jump.isNone=false) ->
   s'=(if eB= .norm then .ready else .done eB)->jump.isNone=decide (eB= .norm)->∃v w',(Instr.endRound b3 jump).run P w3= .ok v w'/\∃v1 G',Ending.returned v= .returned v1/\Kept w w'/\Move w.heap G ((SHK,.lp rid1 vals1 .ready)::rest) w'.heap G' (hb++zcc 0 es') /\
    ((SHK,OB.lp rid1 vals1 .ready)::rest≠[]->∀q,SHK<=q->∀r,G'.reg q=some r->∃r0,G.reg q=some r0/\r0.le r)/\RepT w'.heap G' v1 (.bool (decide (eB= .norm))):=by
  intro jump s' hj hs' hv
  refine⟨_,_,run_endRound jump k2,?_⟩
  have hcE:=zlu (x:=.loop {rc3 with state:=if jump.isNone then .ready else .done,pending:=jump}) (s':=s') hcD hkB k1 fun le=>⟨b3,_,info3,k1,World.putObj_heap_same (wa.1 k2).1,k3,⟨k4.params,k4.assign,k4.body,k4.nt,by
   cases s' with
   | ready=>simp only at hj;subst hj;exact⟨rfl,rfl⟩
   | busy=>exact hj.elim
   | done e=>simp only at hj;simp only[hj.2];exact⟨rfl,hj.1⟩⟩,k5.len,fun j hj=>(k5.get j hj).mono le⟩
  rw[hs']at hcE
  obtain⟨p1,p2,p3,_,_⟩:=zi5 (vs:=[]) hcE.ok hpk rfl (fun i h=>by simp at h)
  refine⟨_,zig G3 _ _,rfl,hcE.kept,?_,fun _ q hq r hr=>hcE.hand trivial q hq r (p3 q hq r hr),?_⟩
  . have m:=hcE.move
    exact⟨p1,m.size,m.imm,m.yl,m.same,fun b hb=>m.live b (p2 b hb),m.immNew⟩
  . rw[hv];exact(zae rfl).2 (.bool _)
 cases eB with
 | norm=>exact post none .ready rfl rfl rfl
 | ret=>exact post (some .ret) (.done .ret) ⟨rfl,rfl⟩ (by simp) (by simp)
 | exit id=>exact post (some (.exit id)) (.done (.exit id)) ⟨rfl,rfl⟩ (by simp) (by simp)
end Go.Ev
namespace Go.Ev
open Go
variable {im :Im} {P:Program} {F:Fence} {n:Nat} {gl:Gl} {cl:Cl} {w:World} {G G':Gh} {st:St} {ops:Array Oper}
structure DfD where
 mA:List MC
 fos:List FO
 dargs:List Opd
 fS:Nat
 fd:Fd
 slots:List Nat
 d:Nat
 dd:Nat
 mB:MC
 res:List ResD
def znm (gl:Gl)(cl:Cl):List MC->St->Option (Ex×St)
 | [],st=>some (.norm,st)
 | m::l,st=>(evC gl cl m st).bind fun r=>match r.1 with
   | .norm=>znm gl cl l r.2
   | e=>some (e,r.2)
def zog (res:List ResD)(hk:List Nat)(st:St):Option (AV×Hp×List OB) :=
 (zbi st res).bind fun rs=>(zft st hk rs (zcy st hk rs)).map fun z=>(zp2 z.1,z.2.1,z.2.2)
def z8j (D:DfD)(gl:Gl)(cl:Cl)(vs dv:List AV)(hp0:Hp):Option (AV×Hp×List OB) :=
 (evC gl cl D.mB {fr:=frAt D.slots vs,hp:=hp0}).bind fun r=>match r.1 with
   | .exit _=>none
   | _ =>
     if(zcq hp0).all fun k=>(r.2.hp.get k).isSome then
      (zb4 (fun _ as h=>evFn gl cl D.fd as h) r.2.hp D.dd D.fS dv (zax r.2.hp (AV.refss dv))).bind fun q=>zog D.res (zcq hp0) {fr:=r.2.fr,hp:=q.2++r.2.hp}
     else none
def dfOk (D:DfD):Bool :=
 D.mA.all (fun m=>mcLt m&& !zcm m)&&D.fos.all (fun o=>ltO o.d)&&mcLt D.mB&& !zcm D.mB&&zmq D.fd.pk&& !zcm D.fd.body&&decide (D.d<SHK)&&decide (D.dd<SHK)
def evDf (D:DfD)(gl:Gl)(cl:Cl)(args:List AV)(imps:Hp):Option (AV×Hp×List OB) :=
 if dfOk D then
  (znm gl cl D.mA {fr:=frOf 0 args,hp:=imps}).bind fun r=>match r.1 with
    | .exit _=>none
    | .ret=>zog D.res (zcq imps) r.2
    | .norm=>(zb0 gl cl D.fos r.2).bind fun q =>
      (zb4 (fun _ as h=>z8j D gl cl (as.take D.slots.length) (as.drop D.slots.length) h) q.1.hp D.d D.fS (D.slots.map q.1.fr.get++vals gl q.1.fr D.dargs) (zax q.1.hp (AV.refss (D.slots.map q.1.fr.get++vals gl q.1.fr D.dargs)))).bind fun z =>
        (zft {fr:=[],hp:=z.2++q.1.hp} (zcq imps) [z.1] (zcy {fr:=[],hp:=z.2++q.1.hp} (zcq imps) [z.1])).map fun y=>(zp2 y.1,y.2.1,y.2.2)
 else none
structure DfCode (P:Program)(gl:Gl)(f:Nat)(D:DfD):Prop where
 ok:∃fn codes id ops cB an im o c,P.funcs[f]? =some fn/\(fn.name== "runtime.NumGoroutine")=false/\fn.body=some (codes.foldr Code.seq (.seq (.region id ops false) cB)) /\
  mapO (comp P an 1000000) codes=some D.mA/\(codes.all (zc4 fn.ntmps))=true/\zc4 fn.ntmps (.region id ops false)=true/\zc4 fn.ntmps cB=true /\
  ops.size=D.fos.length+1/\mapO (zf6 P im ops) (ops.toList.take D.fos.length)=some D.fos/\ops[D.fos.length]? =some o/\o.op= .defer c/\o.guard=none/\o.dst=none /\
  c.callee= .value (.func D.fS)/\mapO zag c.args.toList=some D.dargs/\comp P an 1000000 cB=some D.mB/\mapO (zei P) fn.results.toList=some D.res/\FnCode P gl D.fS D.fd
theorem zw5 (hOp:OpOk F n P gl cl)(hF:∀f,F.fn f){Q:Exit->Act->World->Prop}:∀(fos:List FO) (i:Nat) (a:Act) (w:World) (G:Gh) (st st':St) (ks:List (List Nat)),
  (∀j (h:j<fos.length),∃o,ops[i+j]? =some o/\zf6 P im ops o=some fos[j])->i+fos.length<=ops.size->(∀(i:Nat) (o:Oper),ops[i]? =some o->∀d,o.dst=some d->d<a.tmps.size) ->
    GlOk w.heap G gl->StOk w.heap G st a.tmps->zb0 gl cl fos st=some (st',ks) ->
    (∀a' w' G',Kept w w'->Step w.heap G st.hp w'.heap G' st'.hp->StOk w'.heap G' st' a'.tmps->a'.tmps.size=a.tmps.size->a'.defers=a.defers->wpOpsIn F n P ops Q (zf2 ops (i+fos.length)) a' w') ->
    wpOpsIn F n P ops Q (zf2 ops i) a w
 | [],i,a,w,G,st,st',ks,_,hl,_,_,hst,hev,hK=>by
   simp only[zb0,wE,wj]at hev
   obtain⟨rfl,_⟩:=hev
   exact hK a w G (Kept.refl w) (Step.refl hst.inv) hst rfl rfl
 | f::fos,i,a,w,G,st,st',ks,hfo,hl,hd,hg,hst,hev,hK=>by
   obtain⟨o,ho,hc⟩:=hfo 0 (by simp)
   rw[Nat.add_zero]at ho
   have hlt:i<ops.size:=(wa.1 ho).1
   rw[zgm]at hev
   simp only[wB,wC,wj]at hev
   obtain⟨t,ht,⟨st2,ks2⟩,hev,h1,h2⟩:=hev
   simp only at h1
   subst h1
   rw[zf1 hlt,wpOpsIn_cons]
   refine qd3 hOp hF ho hc (fun d hdd=>hd i o ho d hdd) hg hst ht fun a' w' G' hk hs hst' hsz hdf=> ?_
   refine zw5 hOp hF fos (i+1) a' w' G' _ st2 ks2 (fun j hj=> ?_) (by simp only[wH]at hl;omega) (fun i o ho d hdd=>by rw[hsz];exact hd i o ho d hdd) (hg.mono hs.le) hst' hev ?_
   . obtain⟨o',h1,h2⟩:=hfo (j+1) (by simp;omega)
     refine⟨o',?_,by simpa using h2⟩
     rw[show i+1+j=i+(j+1) by omega];exact h1
   . intro a'' w'' G'' e1 e2 e3 e4 e5
     have:=hK a'' w'' G'' (hk.trans e1) (hs.trans e2) e3 (e4.trans hsz) (e5.trans hdf)
     rw[wH]at this
     rw[show i+1+fos.length=i+(fos.length+1) by omega];exact this
theorem z80 (hF:∀f,F.fn f)(hro:F.round=none){Q:Exit->Act->World->Prop}{k:Nat}{o:Oper}{c:Call}{fS:Nat}{a:Act}(ho:ops[k]? =some o)(hop:o.op= .defer c)(hg:o.guard=none)(hd:o.dst=none)(hc:c.callee= .value (.func fS))(hk:ops.size=k+1)
  (h:Q .normal {a with defers:={target:=.fn (.func fS) #[],args:=c.args.map a.eval}::a.defers} w):wpOpsIn F n P ops Q (zf2 ops k) a w:=by
 have hrun:(execOp a.eval o).run P w= .ok (.defer {target:=.fn (.func fS) #[],args:=c.args.map a.eval}) w:=by
  have hev:a.eval (.func fS)= .func (.func fS) #[] #[]:=rfl
  simp only[execOp,hop,resolve,hc,hev,Deferred.ofValue,Sem.run_bind,Sem.run_pure,Result.andThen_ok,wd]
 have hwant:Region.wanted o (yielded ops a.tmps)=true:=by unfold Region.wanted;rw[hg]
 rw[zf1 (by omega),zql (by omega)]
 simp only[wpOpsIn,ho,hwant,if_true,Oper.wpIn]
 refine⟨fun f _=>hF f,?_⟩
 rw[hro,Oper.semAt_none,hrun,Oper.uponIn_defer,hd]
 exact h
theorem z4s {fn:Func}{res:List ResD}(hres:mapO (zei P) fn.results.toList=some res){a a':Act}{w':World}{imps os:Hp}{st':St}{r:AV}{es:List OB}(hc:Came True gl a w G imps a' w' G' st')(h:zog res (zcq imps) st'=some (r,os,es)) :
  ∃v,(results fn a'.tmps).run P w'= .ok v w'/\∃v1 G1,Ending.returned v= .returned v1/\Kept w w'/\Move w.heap G imps w'.heap G1 (os++zcc 0 es)/\(imps≠[]->∀q,SHK<=q->∀r,G1.reg q=some r->∃r0,G.reg q=some r0/\r0.le r)/\RepT w'.heap G1 v1 r:=by
 simp only[zog,wB,wC,wj]at h
 obtain⟨rs,hrs,⟨l,os',es'⟩,hz,he1,rfl,rfl⟩:=h
 obtain⟨us,g1,g2,g3,g4⟩:=zfs hc.ok hres hrs
 obtain⟨k1,k2,kh,k3,k4⟩:=zi5 hc.ok hz (by omega) g4
 have hrun:=zgd (fn:=fn) (vs:=us) (by simpa using g1) fun i hi hi'=>by
  have:=g3 i (by simpa using hi) hi'
  simpa using this
 refine⟨_,hrun,_,zig G' (zcq imps) (zcy st' (zcq imps) rs),rfl,hc.kept,?_,fun _ q hq r hr=>hc.hand trivial q hq r (kh q hq r hr),?_⟩
 . have m:=hc.move
   exact⟨k1,m.size,m.imm,m.yl,m.same,fun b hb=>m.live b (k2 b hb),m.immNew⟩
 . subst he1
   match us,l,k3,g1,g2,k4 with
   | [],[],_,_,_,_=>exact⟨#[],rfl,rfl,fun i h=>by simp at h⟩
   | [u],[x],_,_,_,k4 =>
     have:=k4 0 (by simp) (by simp)
     exact(RepT.of_known this.known).2 this
   | u1::u2::us,x1::x2::l,_,_,_,k4 =>
     refine⟨_,rfl,by simp only[wN];simp only[wH]at *;omega,fun i h h'=> ?_⟩
     have:=k4 i (by simpa using h) h'
     simpa using this
   | [],_::_,h1,h2,h3,_=>simp at *;omega
   | [_],[],h1,h2,h3,_=>simp at *;omega
   | [_],_::_::_,h1,h2,h3,_=>simp at *;omega
   | _::_::_,[],h1,h2,h3,_=>simp at *;omega
   | _::_::_,[_],h1,h2,h3,_=>simp at *;omega
theorem z4t {as:List AV}{imps:Hp}{vs:Array Value}{m:Nat}(inv:Inv w.heap G imps)(hlen:vs.size=as.length)(hrep:∀i (h:i<vs.size) (h':i<as.length),RepV w.heap G vs[i] as[i]) :
  StOk w.heap G {fr:=frOf 0 as,hp:=imps} (vs++Array.replicate (m-vs.size) undef):=by
 refine⟨inv,fun i=> ?_⟩
 rw[zjh]
 by_cases hi:0<=i/\i<0+as.length
 . rw[if_pos hi]
   have h1:i<vs.size:=by omega
   have h2:i<as.length:=by omega
   have e1:(vs++Array.replicate (m-vs.size) undef).getD i undef=vs[i]:=by
    rw[w9,wc h1];simp[h1]
   have e2:as.getD (i-0) .unk=as[i]:=by simp[h2]
   rw[e1,e2]
   have hv:=hrep i h1 h2
   exact(RepT.of_known hv.known).2 hv
 . rw[if_neg hi];trivial
theorem qd5 (hF:∀f,F.fn f)(hdep:F.depth=none)(hro:F.round=none)(hmix:P.follows .mixedOrders=true)(hcall:CallOk P F gl cl)(hcallW:CallOk P Fence.wide gl cl){f:Nat}{fd:Fd}(hfd:FnCode P gl f fd){u:FrameMode}
  {as:List AV} {imps:Hp} {r:AV} {os:Hp} {es:List OB} (hgen:zmq fd.pk=true) (hrf:zcm fd.body=false) (h:evFn gl cl fd as imps=some (r,os,es)) (n:Nat) {w:World} {vs:Array Value} (inv:Inv w.heap G imps) (hg:GlOk w.heap G gl) (hlen:vs.size=as.length)
  (hrep:∀i (h:i<vs.size) (h':i<as.length),RepV w.heap G vs[i] as[i]) :
  CallsDIn F n P f vs u w fun e u' w'=>u'=u/\∃v G',e= .returned v/\Kept w w'/\Move w.heap G imps w'.heap G' (os++zcc 0 es)/\(imps≠[]->∀q,SHK<=q->∀r,G'.reg q=some r->∃r0,G.reg q=some r0/\r0.le r)/\RepT w'.heap G' v r:=by
 obtain⟨fn,code,an,hfn,hname,hbody,hcomp,hdst,hres,hrfl⟩:=hfd.ok
 simp only[evFn,hgen,if_true]at h
 split at h
 . cases h
 rename_i hlt
 have hlt:mcLt fd.body=true:=by simpa using hlt
 simp only[wB]at h
 obtain⟨⟨e,st'⟩,hev,h⟩:=h
 have S:Setting P F n gl cl:=⟨hmix,zdq hF hdep hcall n,zcv (zdq (fun _=>trivial) rfl hcallW n),hF⟩
 refine callsDIn_of_wp hfn hbody (hF f) ?_ hro
 refine ze8 (N:=(vs++Array.replicate (fn.ntmps-vs.size) undef).size) (L:=True) S code 1000000 fd.body hcomp hrf (fun _=>hlt) (zbv (by simp;omega) code hdst) _ w G _ st' e hg (z4t inv hlen hrep) rfl hev _ fun a' w' G' hc=> ?_
 have key:zog fd.res (zcq imps) st'=some (r,os,es)->∃v,(results fn a'.tmps).run P w'= .ok v w'/\_:=fun hh=>z4s hres hc hh
 cases e with
 | exit i=>cases h
 | norm=>exact⟨hc.defers,key h⟩
 | ret=>exact⟨hc.defers,key h⟩
theorem z9p {L:Prop}{N:Nat}{an:Ann}(S:Setting P F n gl cl){rest:Code}:∀(codes:List Code) (mAs:List MC),mapO (comp P an 1000000) codes=some mAs->mAs.all (fun m=>mcLt m&& !zcm m)=true->codes.all (zc4 N)=true ->
  ∀(a:Act) (w:World) (G:Gh) (st st':St) (e:Ex),GlOk w.heap G gl->StOk w.heap G st a.tmps->a.tmps.size=N->znm gl cl mAs st=some (e,st')->∀(Q:Exit->Act->World->Prop),
   (∀a' w' G',Came True gl a w G st.hp a' w' G' st'->if e= .norm then rest.wpIn F n P Q a' w' else Q (exOf e) a' w')->(codes.foldr Code.seq rest).wpIn F n P Q a w
 | [],mAs,hm,_,_,a,w,G,st,st',e,hg,hst,hN,hev,Q,hQ=>by
   simp only[mapO,wE]at hm
   subst hm
   simp only[znm,wE,wj]at hev
   obtain⟨rfl,rfl⟩:=hev
   have:=hQ a w G ⟨Kept.refl w,Move.refl hst.inv,hst,rfl,rfl,fun _ q _ r hr=>⟨r,hr,Rg.le_refl r⟩,.nil⟩
   rwa [if_pos rfl]at this
 | c::codes,mAs,hm,hlt,hd,a,w,G,st,st',e,hg,hst,hN,hev,Q,hQ=>by
   simp only[mapO,wB,wC]at hm
   obtain⟨m,hc,ms,hms,rfl⟩:=hm
   simp only[List.all_cons,w6,w8]at hlt hd
   simp only[znm,wB]at hev
   obtain⟨⟨e1,st1⟩,hev1,hev⟩:=hev
   refine wpIn_seq ?_
   refine ze8 (N:=N) (L:=True) S c 1000000 m hc hlt.1.2 (fun _=>hlt.1.1) hd.1 a w G st st1 e1 hg hst hN hev1 _ fun a1 w1 G1 hc1=> ?_
   cases e1 with
   | norm =>
     refine z9p (L:=L) S codes ms hms (by simpa using hlt.2) hd.2 a1 w1 G1 st1 st' e (hg.moved hc1.move) hc1.ok (hc1.size.trans hN) hev Q fun a' w' G' hc'=>hQ a' w' G' (hc1.trans hc')
   | exit i =>
     simp only[wE,wj]at hev
     obtain⟨rfl,rfl⟩:=hev
     have:=hQ a1 w1 G1 hc1
     rw[if_neg (by simp)]at this
     exact this
   | ret =>
     simp only[wE,wj]at hev
     obtain⟨rfl,rfl⟩:=hev
     have:=hQ a1 w1 G1 hc1
     rw[if_neg (by simp)]at this
     exact this
theorem zwu {L:Prop}{a:Act}{G0:Gh}{hp0:Hp}{a1:Act}{w0 w1 w2:World}{G1 G2:Gh}{st1:St}{us:Hp}(hc:Came L gl a w0 G0 hp0 a1 w1 G1 st1)(hk:Kept w1 w2)(hs:Step w1.heap G1 st1.hp w2.heap G2 (us++st1.hp))
  (hn:∀k o,(k,o)∈us->st1.hp.get k≠none\/k<SHK):Came L gl a w0 G0 hp0 a1 w2 G2 {fr:=st1.fr,hp:=us++st1.hp} :=
 hc.trans ⟨hk,hs.move,⟨hs.inv,fun i=>(hc.ok.fr i).mono hs.le⟩,rfl,rfl,fun l q hq r hr=>zdg hc.ok.inv hs (fun q hq hn'=>zjt (fr:=st1.fr) hn hq hn') hq hr,.nil⟩
theorem zwl {hp:Hp}{all:List Nat}{k:Nat}:∀{ks:List Nat},k∈ks->up all k∈zcq (upHp hp all ks)
 | j::ks,h=>by
   rw[upHp,zcq]
   rcases wJ.1 h with rfl|h
   . exact List.mem_cons_self
   . exact List.mem_cons_of_mem _ (zwl h)
theorem zvp {hp:Hp}{all:List Nat}:∀{ks:List Nat},upHp hp all ks=[]->ks=[]
 | [],_=>rfl
 | _::_,h=>by cases h
theorem qlp (hmix:P.follows .mixedOrders=true)(hcall:CallOk P Fence.wide gl cl){f:Nat}{D:DfD}(hD:DfCode P gl f D){as:List AV}{imps:Hp}{r:AV}{os:Hp}{es:List OB}(h:evDf D gl cl as imps=some (r,os,es)) :
  zvn P f/\∀(n:Nat) (w:World) (vs:Array Value) (G:Gh),Inv w.heap G imps->GlOk w.heap G gl->vs.size=as.length->(∀i (h:i<vs.size) (h':i<as.length),RepV w.heap G vs[i] as[i]) ->
   CallsIn Fence.wide n P f vs w fun e w'=>∃v G',e= .returned v/\Kept w w'/\Move w.heap G imps w'.heap G' (os++zcc 0 es)/\(imps≠[]->∀q,SHK<=q->∀r,G'.reg q=some r->∃r0,G.reg q=some r0/\r0.le r)/\RepT w'.heap G' v r:=by
 obtain⟨fn,codes,id,ops,cB,an,im,o,c,hfn,hname,hbody,hcodes,hdc,hdr,hdB,hsz,hfos,hop,hod,hog,hodst,hcal,hargs,hcB,hres,hfS⟩:=hD.ok
 refine⟨⟨fn,hfn,hname,by simp[hbody]⟩,fun n w vs G inv hg hlen hrep=> ?_⟩
 unfold evDf at h
 rw[wD]at h
 obtain⟨hok,h⟩:=h
 simp only[dfOk,w6,w8,decide_eq_true_eq]at hok
 obtain⟨⟨⟨⟨⟨⟨⟨hokA,hokF⟩,hltB⟩,hrfB⟩,hgen⟩,hrfS⟩,hd1⟩,hd2⟩:=hok
 rw[wB]at h
 obtain⟨⟨eA,stA⟩,hevA,h⟩:=h
 have hF:∀f,Fence.wide.fn f:=fun _=>trivial
 have S:Setting P Fence.wide n gl cl:=⟨hmix,zdq hF rfl hcall n,zcv (zdq hF rfl hcall n),hF⟩
 refine callsIn_of_wp_defers hfn hbody (hF f) ?_ rfl
 generalize ha0:({tmps:=vs++Array.replicate (fn.ntmps-vs.size) undef,defers:=[]}:Act)=a0
 have hst0:StOk w.heap G {fr:=frOf 0 as,hp:=imps} a0.tmps:=by rw[<-ha0];exact z4t inv hlen hrep
 have hd0:a0.defers=[]:=by rw[<-ha0]
 have hN:fn.ntmps<=a0.tmps.size:=by rw[<-ha0];simp;omega
 refine z9p (L:=True) (N:=a0.tmps.size) S codes D.mA hcodes hokA (by
  rw[wG]at hdc ⊢
  exact fun c hc=>zbv hN c (hdc c hc)) a0 w G _ stA eA hg hst0 rfl hevA _ fun aA wA GA hcA=> ?_
 cases eA with
 | exit i=>cases h
 | ret =>
   rw[if_neg (by simp)]
   show LeavesIn Fence.wide n P fn aA.tmps _ aA.defers .returning wA
   rw[hcA.defers,hd0]
   exact z4s hres hcA h
 | norm =>
 rw[if_pos rfl]
 simp only[wB,wC]at h
 obtain⟨⟨st1,ksF⟩,hevF,⟨z1,z2⟩,hz,⟨l,os',es'⟩,hpk,he⟩:=h
 simp only[wj]at he hpk hz
 obtain⟨he1,rfl,rfl⟩:=he
 obtain⟨hlF,hgetF⟩:=zdm hfos
 refine wpIn_seq (wpIn_region ?_)
 have hr:List.range ops.size=zf2 ops 0:=by unfold zf2;rw[List.range_eq_range',Nat.sub_zero]
 rw[hr]
 have hdr':∀(i:Nat) (o:Oper),ops[i]? =some o->∀d,o.dst=some d->d<aA.tmps.size:=fun i o ho d hdd=>by
  refine wW (zs8 hdr i o ho d hdd) (Nat.le_trans hN ?_)
  rw[hcA.size];exact wX _
 refine zw5 (im:=im) S.op S.fn D.fos 0 aA wA GA stA st1 ksF (fun j hj=> ?_) (by omega) hdr' (hg.moved hcA.move) hcA.ok hevF fun a1 w1 G1 hk1 hs1 hst1 hsz1 hdf1=> ?_
 . have hj':j<(ops.toList.take D.fos.length).length:=by rw[<-hlF];exact hj
   have hj2:j<ops.size:=by omega
   refine⟨ops[j],by simp[hj2],?_⟩
   have:=hgetF j hj' hj
   simpa using this
 rw[wZ]
 have hc1:Came True gl a0 w G imps a1 w1 G1 st1:=hcA.trans ⟨hk1,hs1.move,hst1,hsz1,hdf1,fun l q hq r hr=>zdg hcA.ok.inv hs1 (zlk (z:=(st1,ksF)) hokF hevF) hq hr,.nil⟩
 refine z80 hF rfl hop hod hog hodst hcal hsz ?_
 obtain⟨hdl,hdrep⟩:=zwb (hg.moved hc1.move) hst1 hargs
 generalize hdv:vals gl st1.fr D.dargs=dv at hz hdl hdrep
 generalize hvs:D.slots.map st1.fr.get=sv at hz
 generalize hda:c.args.map a1.eval=da at hdl hdrep
 have hsvl:sv.length=D.slots.length:=by rw[<-hvs];simp
 obtain⟨⟨hcl,href,hnd,hkn⟩,r',hp',es1,us',hB,hsame,hlay,hz1,hz2⟩:=zb8 hz
 generalize hks:zax st1.hp (AV.refss (sv++dv))=ks at hz hcl href hnd hB hsame hlay hz1 hz2
 rw[zcx]at hnd
 have hu:rAs (up ks) (sv++dv)=rAs (up ks) sv++rAs (up ks) dv:=by simp[zce]
 have hsl':(rAs (up ks) sv).length=D.slots.length:=by rw[za3,hsvl]
 rw[hu,List.take_left' hsl',List.drop_left' hsl']at hB
 have hrefd:∀x∈sv++dv,∀k∈x.refs,k∈ks:=fun x hx k hk=>by
  rw[wG]at href
  have:=href k (zbc hx hk)
  simpa using this
 unfold z8j at hB
 rw[wB]at hB
 obtain⟨⟨eB,st2⟩,hevB,hB⟩:=hB
 have hB2:eB= .norm\/eB= .ret:=by cases eB with
  | exit i=>cases hB
  | norm=>exact .inl rfl
  | ret=>exact .inr rfl
 have hB:(if((zcq (upHp st1.hp ks ks)).all fun k=>(st2.hp.get k).isSome)=true then(zb4 (fun _ as h=>evFn gl cl D.fd as h) st2.hp D.dd D.fS (rAs (up ks) dv) (zax st2.hp (AV.refss (rAs (up ks) dv)))).bind fun q=>zog D.res (zcq (upHp st1.hp ks ks)) {fr:=st2.fr,hp:=q.2++st2.hp}else none)=some (r',hp',es1):=by
  rcases hB2 with rfl|rfl
  . exact hB
  . exact hB
 rw[wD,wB]at hB
 obtain⟨hall,⟨q1,us2⟩,hS,hgenB⟩:=hB
 have hslots:StOk w1.heap (upGh G1 ks) {fr:=frAt D.slots (rAs (up ks) sv),hp:=upHp st1.hp ks ks} a1.tmps:=by
  refine⟨zrg hst1.inv hcl,zls D.slots (rAs (up ks) sv) fun j h1 h2=> ?_⟩
  have hj:j<sv.length:=by rw[za3]at h1;exact h1
  have e1:(rAs (up ks) sv)[j]=rA (up ks) sv[j]:=by simp[zce]
  have e2:sv[j]=st1.fr.get D.slots[j]:=by simp[<-hvs]
  have hm:sv[j]∈sv++dv:=wL _ (wF hj)
  have hk:=zev hkn _ hm
  have hv:=(RepT.of_known hk).1 (by rw[e2];exact hst1.fr D.slots[j])
  have:=znn (ks:=ks) hv (hrefd _ hm)
  rw[e1]
  exact(RepT.of_known this.known).2 this
 have hdx:∀i (h:i<da.size) (h':i<dv.length),RepV w1.heap (upGh G1 ks) da[i] (rA (up ks) dv[i]):=fun i h h'=>by
  have hm:dv[i]∈sv++dv:=wK _ (wF h')
  exact znn ((RepT.of_known (zev hkn _ hm)).1 (hdrep i h h')) (hrefd _ hm)
 have hgl1:GlOk w1.heap (upGh G1 ks) gl:=(hg.moved hc1.move).move (fun b hb=>⟨hb,rfl⟩) fun i l h=>h
 have hpost:∀(a3:Act) (w3:World) (G3:Gh),Came True gl {a1 with defers:={target:=.fn (.func D.fS) #[],args:=da}::a1.defers} w1 (upGh G1 ks) (upHp st1.hp ks ks) a3 w3 G3 st2 ->
   LeavesIn Fence.wide n P fn a3.tmps (fun e w'=>∃v G',e= .returned v/\Kept w w'/\Move w.heap G imps w'.heap G' (os'++zcc 0 es')/\(imps≠[]->∀q,SHK<=q->∀r,G'.reg q=some r->∃r0,G.reg q=some r0/\r0.le r)/\RepT w'.heap G' v r) a3.defers .returning w3:=by
  intro a3 w3 G3 hcB'
  have hde:a3.defers=[{target:=.fn (.func D.fS) #[],args:=da}]:=by
   rw[hcB'.defers,show a1.defers=[] by rw[hdf1,hcA.defers,hd0];rfl];rfl
  rw[hde]
  obtain⟨fnS,_,_,hfnS,hnameS,hbodyS,_⟩:=hfS.ok
  have hle:Le w1.heap (upGh G1 ks) w3.heap G3:=by
   refine⟨hcB'.move.imm,fun k r hk=> ?_,hcB'.move.yl⟩
   obtain⟨j,hj,rfl,_⟩:=zlp hk
   rw[wG]at hall
   have hsome:=hall _ (zwl (hp:=st1.hp) hj)
   obtain⟨ob,hob⟩:=Option.isSome_iff_exists.1 hsome
   obtain⟨r1,hr1⟩:=hcB'.ok.inv.get_reg hob
   obtain⟨r0,h0,hler⟩:=hcB'.hand trivial _ (z5u j) r1 hr1
   rw[hk]at h0
   cases h0
   exact⟨r1,hr1,hler⟩
  obtain⟨⟨hcl2,href2,hnd2,hkn2⟩,rS,hpS,esS,usS,hevS,hsameS,hlayS,_,rfl⟩:=zb8 hS
  rw[zcx]at hnd2
  generalize hks2:zax st2.hp (AV.refss (rAs (up ks) dv))=ks2 at *
  refine leavesIn_cons (f:=D.fS) (args:=da) (by simp) (fun h=>by cases h) ?_ (fun g _=>trivial) ?_
  . have hcf:(callFunc D.fS da).run P w3= .ok (.enter D.fS da) w3:=by
     have hp:(program:Sem Program).run P w3= .ok P w3:=rfl
     simp only[callFunc,Sem.run_bind,hp,Result.andThen_ok,hfnS,hnameS,hbodyS,Option.isNone_some,w7,if_false,Sem.run_pure]
    simp only[invoke,we,hcf]
  have hlen2:(rAs (up ks2) (rAs (up ks) dv)).length=dv.length:=by rw[za3,za3]
  refine(qd5 hF rfl rfl hmix hcall hcall hfS hgen hrfS hevS (n-1) (G:=upGh G3 ks2) (zrg hcB'.ok.inv hcl2) ((hgl1.moved hcB'.move).move (fun b hb=>⟨hb,rfl⟩) fun i l h=>h) (by rw[hlen2];exact hdl) fun i h1 h2=> ?_).mono ?_
  . have hi:i<dv.length:=by rw[hlen2]at h2;exact h2
    have e1:(rAs (up ks2) (rAs (up ks) dv))[i]=rA (up ks2) (rA (up ks) dv[i]):=by simp[zce]
    rw[e1]
    refine znn ((hdx i h1 hi).mono hle) fun k hk=> ?_
    rw[wG]at href2
    have hm:rA (up ks) dv[i]∈rAs (up ks) dv:=by rw[zce];exact List.mem_map_of_mem (wF hi)
    have:=href2 k (zbc hm hk)
    simpa using this
  . rintro e u' w4 ⟨rfl,v,G',rfl,hkept,hm,hh,hv⟩
    obtain⟨G4,hstep,_⟩:=zhi hcB'.ok.inv hnd2 hcl2 hm (fun hne=>hh fun e=>hne (zvp e)) hsameS hlayS hv
    have hcC:=zwu hcB' hkept hstep (ze6 hS)
    obtain⟨v5,hrun,v6,G5,hret,hk5,hm5,hh5,hv5⟩:=z4s (fn:=fn) hres hcC hgenB
    cases hret
    refine⟨v5,hrun,?_⟩
    obtain⟨G6,hstep6,hv6⟩:=zhi hst1.inv hnd hcl hm5 (fun hne=>hh5 fun e=>hne (zvp e)) hsame hlay hv5
    rw[<-hz2]at hstep6
    have hcD:=zwu hc1 hk5 hstep6 (ze6 hz)
    have hst5:StOk w4.heap G6 {fr:=[],hp:=z2++st1.hp} a1.tmps:=⟨hcD.ok.inv,fun i=>trivial⟩
    rw[<-hz1]at hv6
    obtain⟨k1,k2,kh,k3,k4⟩:=zi5 hst5 hpk (vs:=[v5]) rfl (fun i h1 h2=>by
     have:i=0:=by simp at h1;omega
     subst this
     exact hv6)
    refine⟨v5,zig G6 (zcq imps) (zcy {fr:=[],hp:=z2++st1.hp} (zcq imps) [z1]),rfl,hcD.kept,?_,fun _ q hq r hr=>hcD.hand trivial q hq r (kh q hq r hr),?_⟩
    . have m:=hcD.move
      exact⟨k1,m.size,m.imm,m.yl,m.same,fun b hb=>m.live b (k2 b hb),m.immNew⟩
    . match l,k3,k4,he1 with
      | [x],_,k4,he1 =>
        have:=k4 0 (by simp) (by simp)
        rw[<-he1]
        exact(RepT.of_known this.known).2 this
      | [],h,_,_=>simp at h
      | _::_::_,h,_,_=>simp at h
 refine ze8 (N:=a1.tmps.size) (L:=True) S cB 1000000 D.mB hcB hrfB (fun _=>hltB) (zbv (by have:=hcA.size;omega) _ hdB) {a1 with defers:={target:=.fn (.func D.fS) #[],args:=da}::a1.defers} w1 (upGh G1 ks) _ st2 eB hgl1 hslots rfl hevB _ fun a3 w3 G3 hcB'=> ?_
 rcases hB2 with rfl|rfl
 . exact hpost a3 w3 G3 hcB'
 . exact hpost a3 w3 G3 hcB'
end Go.Ev
namespace Go.Ev
open Go
variable {P :Program} {F:Fence} {gl:Gl} {cl:Cl} {w:World} {G G':Gh} {st:St}
inductive FnOk (P:Program)(gl:Gl)(f:Nat)(fd:Fd):Prop
 | code (h:fd.giv=none) (hlt:f<RB) (ok:FnCode P gl f fd)
 | given (g:Cl->List AV->Hp->Option (AV×Hp×List OB)) (h:fd.giv=some fun _=>g) (hlt:f<RB) (ok:qfd P f g)
 | round (rid:Nat) (params slots:List Nat) (as body:MC) (hf:f=RB+rid) (h:fd.giv=some (znk params slots as body)) (ok:RndCode P gl rid params slots as body)
 | dfr (D:DfD) (h:fd.giv=some (evDf D)) (hlt:f<RB) (ok:DfCode P gl f D)
theorem z48 (hmix:P.follows .mixedOrders=true){tab:Nat->Option Fd}(htab:∀f fd,tab f=some fd->FnOk P gl f fd):∀n,CallOk P Fence.wide gl (call gl tab n)
 | 0=>⟨fun f as imps r os es _ h=>by simp[call]at h,fun rid as imps r os es h=>by simp[call]at h⟩
 | n+1=>by
   have ih:=z48 hmix htab n
   refine⟨fun f as imps r os es hlt h=> ?_,fun rid as imps r os es h=> ?_⟩
   . simp only[call,wB]at h
     obtain⟨fd,hfd,h⟩:=h
     rcases htab f fd hfd with ⟨hgiv,_,hok⟩|⟨g,hgiv,_,hok⟩|⟨rid,params,slots,mA,mB,hf,hgiv,hok⟩|⟨D,hgiv,_,hok⟩
     case dfr =>
      rw[hgiv]at h
      exact qlp hmix ih hok h
     case given =>
      rw[hgiv]at h
      exact hok gl _ ih f as imps r os es ((if_pos rfl).trans h)
     case round =>
      exfalso
      rw[hgiv]at h
      replace h:znk params slots mA mB gl (call gl tab n) as imps=some (r,os,es):=h
      cases imps with
      | nil=>simp[znk]at h
      | cons x l=>have:=hlt (by simp);omega
     rw[hgiv]at h
     replace h:evFn gl (call gl tab n) fd as imps=some (r,os,es):=h
     obtain⟨fn,code,an,hfn,hname,hbody,_⟩:=hok.ok
     refine⟨⟨fn,hfn,hname,by simp[hbody]⟩,fun m w vs G inv hg hlen hrep=> ?_⟩
     cases hgen:zmq fd.pk with
     | true=>exact qiz (fun _=>trivial) rfl rfl hmix ih ih hok hgen h m inv hg hlen hrep
     | false =>
       cases imps with
       | cons x l=>simp[evFn,hgen]at h
       | nil =>
         have:=qeb hgen h
         subst this
         refine(z79 (fun _=>trivial) rfl rfl hmix ih ih hok hgen h m inv hg hlen hrep).mono ?_
         rintro e w' ⟨v,G',h1,h2,h3,h4⟩
         exact⟨v,G',h1,h2,h3,fun h=>absurd rfl h,h4⟩
   . simp only[call,wB]at h
     obtain⟨fd,hfd,h⟩:=h
     rcases htab _ fd hfd with ⟨hgiv,hlt,hok⟩|⟨g,hgiv,hlt,hok⟩|⟨rid',params,slots,mA,mB,hf,hgiv,hok⟩|⟨D,hgiv,hlt,hok⟩
     case code=>omega
     case given=>omega
     case dfr=>omega
     obtain rfl:rid=rid':=by omega
     rw[hgiv]at h
     exact fun m w vs G b rc vals=>qg6 (fun _=>trivial) rfl hmix ih ih hok h m w vs G b rc vals
end Go.Ev
