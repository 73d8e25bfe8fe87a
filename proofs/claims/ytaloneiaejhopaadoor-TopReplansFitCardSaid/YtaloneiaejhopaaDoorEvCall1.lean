/-
  A function's results: read, and packed. No condition.
-/
import Derived.Test.YtaloneiaejhopaaDoorEvCode
import Derived.Test.YtaloneiaejhopaaDoorEvLend
set_option linter.all false
open Option renaming some.injEq->wB,ite_none_right_eq_some->wC,map_eq_some_iff->wD,bind_eq_some_iff->wE,bind_some->wF,getD_some->wG
open List renaming getElem_cons_zero->wH,singleton_append->wJ,getElem_mem->wK,getD_eq_getElem?_getD->wL,getElem?_eq_getElem->wM,nodup_cons->wN,filterMap->wO,mem_filterMap->wP,mem_cons->wQ,getElem_cons_succ->wR,length_cons->wS,all_eq_true->wT
open Bool renaming and_eq_true->wU
open Nat renaming add_sub_cancel_left->wV,zero_add->wW,add_left_cancel->wX,add_zero->wY
namespace Go.Ev
open Go
variable {P :Program} {w:World} {H:Heap} {G G':Gh} {st:St} {tmps:Array Value}
theorem zx2 {a:Addr}:(asAddr (.pointer (some a))).run P w= .ok a w:=rfl
def zj0 (tmps:Array Value):ResultVar->Sem Value
 | .tmp t=>pure (tmps.getD t undef)
 | .cell a t=>do loadVar t (<-asAddr (tmps.getD a undef))
theorem qcj (hst:StOk w.heap G st tmps){rv:ResultVar}{rd:ResD}{x:AV}(hc:zei P rv=some rd)(h:zfi st rd=some x) :
  ∃v,(zj0 tmps rv).run P w= .ok v w/\RepT w.heap G v x:=by
 cases rv with
 | tmp t =>
   simp only[zei,wB]at hc
   subst hc
   simp only[zfi,wB]at h
   subst h
   exact⟨_,rfl,hst.fr t⟩
 | cell a t =>
   simp only[zei,wD]at hc
   obtain⟨sh,hsh,rfl⟩:=hc
   simp only[zfi,wD]at h
   obtain⟨⟨v,us⟩,hs,rfl⟩:=h
   obtain⟨b,off,c,e,fz,hev,_,hb,hrc,hk,hw,hag,hn⟩:=zwd hst.inv (x':=.t a) (hst.fr a) hs
   obtain⟨val,hval,hrv⟩:=zgf hrc
   refine⟨_,?_,(RepT.of_known hk).2 (zl3 hk hw hrv)⟩
   simp only[zj0,hev,Sem.run_bind,zx2,Result.andThen_ok]
   exact zlw hsh hag hn hb hval hk
theorem zns {α:Type}{f:α->Sem Value}:∀{l:List α} {vs:List Value},vs.length=l.length->(∀i (h:i<l.length) (h':i<vs.length),(f l[i]).run P w= .ok vs[i] w)->(l.mapM f).run P w= .ok vs w
 | [],vs,h,_=>by
   have:vs=[]:=List.eq_nil_of_length_eq_zero h
   subst this;rfl
 | a::l,[],h,_=>by simp at h
 | a::l,v::vs,h,hf=>by
   rw[List.mapM_cons]
   have h0:=hf 0 (by simp) (by simp)
   simp only[wH]at h0
   simp only[Sem.run_bind,h0,Result.andThen_ok]
   rw[zns (l:=l) (vs:=vs) (by simpa using h) fun i hi hi'=>by
    have:=hf (i+1) (by simpa using hi) (by simpa using hi')
    simpa using this]
   rfl
theorem zgd {fn:Func}{vs:List Value}(h:vs.length=fn.results.size)(hf:∀i (h:i<fn.results.size) (h':i<vs.length),(zj0 tmps fn.results[i]).run P w= .ok vs[i] w) :
  (results fn tmps).run P w= .ok (match vs with|[v]=>v|l=>.tuple l.toArray) w:=by
 have hm:(fn.results.mapM (zj0 tmps)).run P w= .ok vs.toArray w:=by
  have:fn.results=fn.results.toList.toArray:=rfl
  rw[this,List.mapM_toArray]
  simp only[map_eq_pure_bind,Sem.run_bind]
  rw[zns (vs:=vs) (by simpa using h) fun i hi hi'=>by simpa using hf i (by simpa using hi) hi']
  rfl
 have e:results fn tmps=(do let vs<-fn.results.mapM (zj0 tmps);pure (if h:vs.size=1 then vs[0]else .tuple vs)):=by
  unfold results
  congr 1
 rw[e]
 simp only[Sem.run_bind,hm,Result.andThen_ok]
 match vs with
 | []=>rfl
 | [v]=>rfl
 | a::b::l=>simp
theorem zfs (hst:StOk w.heap G st tmps):∀{rvs:List ResultVar} {rds:List ResD} {xs:List AV},mapO (zei P) rvs=some rds->zbi st rds=some xs ->
  ∃vs:List Value,vs.length=rvs.length/\xs.length=rvs.length/\(∀i (h:i<rvs.length) (h':i<vs.length),(zj0 tmps rvs[i]).run P w= .ok vs[i] w) /\
   ∀i (h:i<vs.length) (h':i<xs.length),RepT w.heap G vs[i] xs[i]
 | [],rds,xs,h1,h2=>by
   simp only[mapO,wB]at h1
   subst h1
   simp only[zbi,wB]at h2
   subst h2
   exact⟨[],rfl,rfl,fun i h=>by simp at h,fun i h=>by simp at h⟩
 | rv::rvs,rds,xs,h1,h2=>by
   simp only[mapO,wE,wD]at h1
   obtain⟨rd,hrd,rds',hrds,rfl⟩:=h1
   simp only[zbi,wE,wD]at h2
   obtain⟨x,hx,xs',hxs,rfl⟩:=h2
   obtain⟨v,hv1,hv2⟩:=qcj hst hrd hx
   obtain⟨vs,g1,g2,g3,g4⟩:=zfs hst hrds hxs
   refine⟨v::vs,by simp[g1],by simp[g2],fun i h h'=> ?_,fun i h h'=> ?_⟩
   . cases i with
     | zero=>exact hv1
     | succ i=>exact g3 i (by simpa using h) (by simpa using h')
   . cases i with
     | zero=>exact hv2
     | succ i=>exact g4 i (by simpa using h) (by simpa using h')
def src1 (r:AV):Pk->List (Option Nat)
 | .asis=>[]
 | .gen=>[]
 | .own _=>match r with
   | .sl k _ _ _=>[some k]
   | _=>[none]
def zcl :List AV->List Pk->List (Option Nat)
 | [],_=>[]
 | r::rs,pks=>src1 r (pks.headD .asis)++zcl rs pks.tail
theorem zj2 :∀(rs:List AV) (pks:List Pk),zef rs pks=(zcl rs pks).filterMap id
 | [],pks=>rfl
 | r::rs,pks=>by
   have e:zef (r::rs) pks=(match pks.headD .asis,r with| .own _,.sl k _ _ _=>[k]|_,_=>[])++zef rs pks.tail:=rfl
   rw[zcl,List.filterMap_append,<-zj2 rs,e]
   congr 1
   cases pks.headD .asis with
   | asis=>rfl
   | gen=>rfl
   | own sh=>cases r<;>rfl
def zrj (G:Gh):Option Nat->Option Rg
 | some k=>G.reg k
 | none=>some .nil
theorem zmc {hp hp':Hp}:∀{rs:List AV} {pks:List Pk} {j:Nat} {l:List AV} {es:List OB},zem hp hp' j rs pks=some (l,es) ->
  es.length=(zcl rs pks).length/\∀i (h:i<es.length) (h':i<(zcl rs pks).length),(∃k sh els,(zcl rs pks)[i]=some k/\hp.get k=some (.grow sh els)/\es[i]= .grow sh els) \/
   (∃sh,(zcl rs pks)[i]=none/\es[i]= .grow sh [])
 | [],pks,j,l,es,h=>by
   simp only[zem,wB,Prod.mk.injEq]at h
   obtain⟨rfl,rfl⟩:=h
   exact⟨rfl,fun i h=>by simp at h⟩
 | r::rs,pks,j,l,es,h=>by
   simp only[zem,wE,wD]at h
   obtain⟨⟨a,e1⟩,h1,⟨l2,e2⟩,h2,h⟩:=h
   cases h
   obtain⟨g1,g2⟩:=zmc h2
   have key:(e1=[]/\src1 r (pks.headD .asis)=[]) \/
     (∃k sh els,src1 r (pks.headD .asis)=[some k]/\hp.get k=some (.grow sh els)/\e1=[.grow sh els]) \/
     (∃sh,src1 r (pks.headD .asis)=[none]/\e1=[.grow sh []]):=by
    cases hp1:pks.headD .asis with
    | gen=>rw[hp1]at h1;simp[zi6]at h1
    | asis =>
      rw[hp1]at h1
      simp only[zi6,wE]at h1
      obtain⟨x,_,h1⟩:=h1
      rw[wC]at h1
      cases h1.2
      exact .inl ⟨rfl,rfl⟩
    | own sh =>
      rw[hp1]at h1
      simp only[zi6]at h1
      split at h1
      . rename_i k n
        split at h1
        . rename_i sh' els hk
          rw[wC,wU]at h1
          obtain⟨⟨hb,_⟩,h1⟩:=h1
          have:=Sh.beq_eq hb
          subst this
          cases h1
          exact .inr (.inl ⟨k,sh,els,rfl,hk,rfl⟩)
        . cases h1
      . cases h1
        exact .inr (.inr ⟨sh,rfl,rfl⟩)
      . cases h1
   rw[zcl]
   rcases key with ⟨k1,k2⟩|⟨k,sh,els,k2,hk,k1⟩|⟨sh,k2,k1⟩
   . rw[k2,k1];simp only[List.nil_append];exact⟨g1,g2⟩
   . rw[k2,k1]
     simp only[wJ,wS]
     refine⟨by omega,fun i h h'=> ?_⟩
     cases i with
     | zero=>exact .inl ⟨k,sh,els,rfl,hk,rfl⟩
     | succ i=>exact g2 i (by omega) (by omega)
   . rw[k2,k1]
     simp only[wJ,wS]
     refine⟨by omega,fun i h h'=> ?_⟩
     cases i with
     | zero=>exact .inr ⟨sh,rfl,rfl⟩
     | succ i=>exact g2 i (by omega) (by omega)
theorem zmb {hp hp':Hp}(inv:Inv H G hp')(himm:∀b,G.imm b->G'.imm b)(hlive:∀b,Live G hp' b->G'.imm b)(hyl:∀i l,G.yl i=some l->G'.yl i=some l) :
  ∀{rs:List AV} {pks:List Pk} {j:Nat} {l:List AV} {es:List OB},zem hp hp' j rs pks=some (l,es) ->
  (∀i (h:i<(zcl rs pks).length),G'.reg (20000+(j+i))=zrj G (zcl rs pks)[i])->∀vs:List Value,vs.length=rs.length->(∀i (h:i<vs.length) (h':i<rs.length),RepT H G vs[i] rs[i]) ->
  l.length=rs.length/\∀i (h:i<vs.length) (h':i<l.length),RepV H G' vs[i] l[i]
 | [],pks,j,l,es,h,_,vs,hvs,_=>by
   simp only[zem,wB,Prod.mk.injEq]at h
   obtain⟨rfl,rfl⟩:=h
   exact⟨rfl,fun i h h'=>by simp at h'⟩
 | r::rs,pks,j,l,es,h,hreg,[],hvs,_=>by simp at hvs
 | r::rs,pks,j,l,es,h,hreg,v::vs,hvs,hr=>by
   simp only[zem,wE,wD]at h
   obtain⟨⟨a,e1⟩,h1,⟨l2,e2⟩,h2,h⟩:=h
   cases h
   have hr0:RepT H G v r:=hr 0 (by simp) (by simp)
   have key:RepV H G' v a/\(src1 r (pks.headD .asis)).length=e1.length:=by
    rw[zcl]at hreg
    cases hp1:pks.headD .asis with
    | gen=>rw[hp1]at h1;simp[zi6]at h1
    | asis =>
      rw[hp1]at h1
      simp only[zi6,wE]at h1
      obtain⟨x,hx,h1⟩:=h1
      rw[wC]at h1
      cases h1.2
      exact⟨zwf inv himm hlive hyl hx ((RepT.of_known (zn1 hx)).1 hr0),rfl⟩
    | own sh =>
      rw[hp1]at h1 hreg
      simp only[zi6]at h1
      split at h1
      . rename_i k n
        split at h1
        . rename_i sh' els hk
          rw[wC]at h1
          obtain⟨_,h1⟩:=h1
          cases h1
          have hg:=hreg 0 (by simp[src1])
          simp only[src1,wJ,wH,zrj,wY]at hg
          refine⟨?_,rfl⟩
          rw[zae rfl]at hr0
          refine(RepV.scalar rfl).2 ?_
          cases hr0 with
          | sl _ _ _ _ b root m e o hrg hs ho hle=>exact .sl _ [] 0 n b root m e o (hg.trans hrg) hs ho hle
          | slZ _ _ _ b x root m e hrg hs ho=>exact .slZ _ [] 0 b x root m e (hg.trans hrg) hs ho
          | slNil _ a hrg=>exact .slNil _ a (hg.trans hrg)
        . cases h1
      . cases h1
        have hg:=hreg 0 (by simp[src1])
        simp only[src1,wJ,wH,zrj,wY]at hg
        refine⟨?_,rfl⟩
        rw[zae rfl]at hr0
        refine(RepV.scalar rfl).2 ?_
        obtain⟨b,cap,he,_,hc,_,_⟩:=zd2 hr0
        have:=hc rfl
        simp only[List.length_nil]at this he
        subst this he
        exact .slNil _ b hg
      . cases h1
   obtain⟨g1,g2⟩:=zmb inv himm hlive hyl h2 (fun i hi=>by
    have:=hreg (e1.length+i) (by rw[zcl,List.length_append,key.2];simp;omega)
    rw[show j+(e1.length+i)=j+e1.length+i by omega]at this
    rw[this]
    congr 1
    simp only[zcl]
    rw[List.getElem_append_right (by omega)]
    congr 1
    omega) vs (by simpa using hvs) fun i hi hi'=>by
     have:=hr (i+1) (by simpa using hi) (by simpa using hi')
     simpa using this
   refine⟨by simp[g1],fun i hi hi'=> ?_⟩
   cases i with
   | zero=>exact key.1
   | succ i=>exact g2 i (by simpa using hi) (by simpa using hi')
def zcc :Nat->List OB->Hp
 | _,[]=>[]
 | j,o::l=>(20000+j,o)::zcc (j+1) l
theorem zc7 :∀{es:List OB} {j k:Nat} {o:OB},(zcc j es).get k=some o↔∃i,∃h:i<es.length,k=20000+(j+i)/\es[i]=o
 | [],j,k,o=>by simp[zcc,Hp.get]
 | e::es,j,k,o=>by
   rw[zcc,Hp.get_cons]
   by_cases h:20000+j=k
   . simp only[h,if_true,wB]
     constructor
     . intro he;exact⟨0,by simp,by omega,he⟩
     . rintro ⟨i,hi,hk,he⟩
       have:i=0:=by omega
       subst this;exact he
   . simp only[h,if_false]
     rw[zc7 (es:=es)]
     constructor
     . rintro ⟨i,hi,hk,he⟩;exact⟨i+1,by simpa using hi,by omega,by simpa using he⟩
     . rintro ⟨i,hi,hk,he⟩
       cases i with
       | zero=>exact absurd (by omega) h
       | succ i=>exact⟨i,by simpa using hi,by omega,by simpa using he⟩
theorem zf5 :∀{ks:List Nat} {hp:Hp} {k:Nat},(zla ks++hp).get k=if k∈ks then some .dead else hp.get k
 | [],hp,k=>by simp[zla]
 | x::ks,hp,k=>by
   simp only[zla,List.cons_append,Hp.get_cons,zf5 (ks:=ks),wQ]
   by_cases h:x=k
   . simp[h]
   . have:¬k=x:=fun e=>h e.symm
     simp[h,this]
theorem zsm :∀{ks:List Nat} {hp:Hp},Inv H G hp->(∀k∈ks,∃o,hp.get k=some o)->Inv H G (zla ks++hp)
 | [],hp,inv,_=>inv
 | x::ks,hp,inv,h=>by
   have ih:=zsm (ks:=ks) inv fun k hk=>h k (by simp[hk])
   obtain⟨o,ho⟩:=h x (by simp)
   by_cases hx:x∈ks
   . exact(zgv ih (k:=x) (o:=.dead) (by rw[zf5,if_pos hx])).inv
   . exact(zgv ih (k:=x) (o:=o) (by rw[zf5,if_neg hx];exact ho)).inv
theorem zqo {l:List (Option Nat)}(h:(l.filterMap id).Nodup){i j k:Nat}(hi:i<l.length)(hj:j<l.length)(h1:l[i]=some k)(h2:l[j]=some k):i=j:=by
 induction l generalizing i j with
 | nil=>simp at hi
 | cons a l ih =>
   have hl:(l.filterMap id).Nodup:=by
    rw[List.filterMap_cons]at h
    split at h
    . exact h
    . exact(wN.1 h).2
   have hmem:∀{i:Nat} (hi:i<l.length),l[i]=some k->k∈l.filterMap id:=fun hi h=>wP.2 ⟨some k,h▸wK hi,rfl⟩
   cases i with
   | zero =>
     cases j with
     | zero=>rfl
     | succ j =>
       simp only[wH]at h1
       simp only[wR]at h2
       subst h1
       have hc:wO id (some k::l)=k::wO id l:=rfl
       rw[hc]at h
       exact absurd (hmem (by simpa using hj) h2) (wN.1 h).1
   | succ i =>
     cases j with
     | zero =>
       simp only[wH]at h2
       simp only[wR]at h1
       subst h2
       have hc:wO id (some k::l)=k::wO id l:=rfl
       rw[hc]at h
       exact absurd (hmem (by simpa using hi) h1) (wN.1 h).1
     | succ j=>rw[ih hl (i:=i) (j:=j) (by simpa using hi) (by simpa using hj) (by simpa using h1) (by simpa using h2)]
open Classical in
noncomputable def zi4 (G:Gh)(hp:Hp)(src:List (Option Nat)):Gh :=
 {imm:=fun b=>G.imm b\/Live G (zla (src.filterMap id)++hp) b
  yl:=G.yl
  reg:=fun k=>if 20000<=k then(match src[k-20000]? with|some s=>zrj G s|none=>none)else none}
theorem z64 (hst:StOk H G st tmps){res:List ResD}{pks:List Pk}{l:List AV}{es:List OB}(h:zg5 st res pks=some (l,es)){rs:List AV}(hrs:zbi st res=some rs){vs:List Value}(hlen:vs.length=rs.length)
  (hv:∀i (h:i<vs.length) (h':i<rs.length),RepT H G vs[i] rs[i]) :
  Inv H (zi4 G st.hp (zcl rs pks)) (zcc 0 es)/\(∀b,Live (zi4 G st.hp (zcl rs pks)) (zcc 0 es) b->Live G st.hp b) /\
  l.length=rs.length/\∀i (h:i<vs.length) (h':i<l.length),RepV H (zi4 G st.hp (zcl rs pks)) vs[i] l[i]:=by
 simp only[zg5,hrs,wF]at h
 rw[wC,zcx,zj2]at h
 obtain⟨hn,h⟩:=h
 generalize hsrc:zcl rs pks=src at h hn ⊢
 obtain⟨o1,o2⟩:=zmc h
 rw[hsrc]at o1
 have o2':∀i (h:i<es.length) (h':i<src.length),(∃k sh els,src[i]=some k/\st.hp.get k=some (.grow sh els)/\es[i]= .grow sh els)\/(∃sh,src[i]=none/\es[i]= .grow sh []):=by
  subst hsrc;exact o2
 have hks:∀k∈src.filterMap id,∃o,st.hp.get k=some o:=fun k hk=>by
  obtain⟨s,hs,he⟩:=wP.1 hk
  simp only[id]at he
  subst he
  obtain⟨i,hi,he⟩:=List.getElem_of_mem hs
  rcases o2' i (by omega) hi with ⟨k',sh,els,h1,h2,_⟩|⟨sh,h1,_⟩
  . rw[he]at h1;cases h1;exact⟨_,h2⟩
  . rw[he]at h1;cases h1
 have invd:=zsm hst.inv hks
 have hreg:∀i (hi:i<src.length),(zi4 G st.hp src).reg (20000+i)=zrj G src[i]:=fun i hi=>by
  simp[zi4,hi]
 have hlived:∀b,Live G (zla (src.filterMap id)++st.hp) b->Live G st.hp b:=by
  rintro b ⟨k,r,⟨o,ho,hd⟩,hr⟩
  rw[zf5]at ho
  split at ho
  . cases ho;exact absurd rfl hd
  . exact⟨k,r,⟨o,ho,hd⟩,hr⟩
 obtain⟨hinv,hlive⟩:=zwn (G':=zi4 G st.hp src) (hp':=zcc 0 es) hst.inv (fun k=>((src[k-20000]?).bind id).getD 0) (fun b h=>.inl h) (fun i l h=>h)
  (fun k o hk=>by
    obtain⟨i,hi,rfl,rfl⟩:=zc7.1 hk
    have hz:=hreg i (by omega)
    rw[show 20000+i=20000+(0+i) by omega]at hz
    rw[hz]
    have e:(src[20000+(0+i)-20000]?)=some src[i]:=by rw[show 20000+(0+i)-20000=i by omega];simp[show i<src.length by omega]
    rcases o2' i hi (by omega)with ⟨k',sh,els,h1,h2,h3⟩|⟨sh,h1,h3⟩
    . left
      rw[e,h1,h3]
      exact⟨h2,rfl,fun j hj=>by cases hj⟩
    . right
      rw[h1,h3]
      exact⟨sh,rfl,rfl⟩)
  (fun k hk=>by
    simp only[zi4]
    split
    . rename_i h20
      split
      . rename_i s hs
        exfalso
        obtain⟨hi,rfl⟩:=List.getElem?_eq_some_iff.1 hs
        have hk20:k=20000+(0+(k-20000)):=by omega
        generalize k-20000=i at hk20 hi
        have hie:i<es.length:=by omega
        have:(zcc 0 es).get k=some es[i]:=zc7.2 ⟨i,hie,hk20,rfl⟩
        rw[hk]at this;cases this
      . rfl
    . rfl)
  (fun k k' b r r' ⟨o,ho,_⟩ ⟨o',ho',_⟩ hr hr' he=>by
    obtain⟨i,hi,rfl,rfl⟩:=zc7.1 ho
    obtain⟨i',hi',rfl,rfl⟩:=zc7.1 ho'
    rw[show 20000+(0+i)=20000+i by omega]at hr
    rw[show 20000+(0+i')=20000+i' by omega]at hr'
    have e:(src[20000+(0+i)-20000]?)=some src[i]:=by rw[show 20000+(0+i)-20000=i by omega];simp[show i<src.length by omega]
    have e':(src[20000+(0+i')-20000]?)=some src[i']:=by rw[show 20000+(0+i')-20000=i' by omega];simp[show i'<src.length by omega]
    simp only[e,e',wF,id]at he
    rcases o2' i hi (by omega)with ⟨k1,sh,els,h1,h2,h3⟩|⟨sh,h1,h3⟩
    . rcases o2' i' hi' (by omega)with ⟨k1',sh',els',h1',h2',h3'⟩|⟨sh',h1',h3'⟩
      . rw[h1,h1']at he
        simp only[wG]at he
        subst he
        rw[zqo hn (by omega) (by omega) h1 h1']
      . exact(hr'.nil (by rw[hreg i' (by omega),h1'];rfl)).elim
    . exact(hr.nil (by rw[hreg i (by omega),h1];rfl)).elim)
  (fun b hb=>by
    rcases hb with hb|hb
    . exact(hst.inv.imm b hb).1
    . exact hst.inv.lt b (hlived b hb))
  (fun b hb k r hl hr hr' ⟨o,ho,_⟩=>by
    obtain⟨i,hi,rfl,rfl⟩:=zc7.1 ho
    have e:(src[20000+(0+i)-20000]?)=some src[i]:=by rw[show 20000+(0+i)-20000=i by omega];simp[show i<src.length by omega]
    rw[show 20000+(0+i)=20000+i by omega]at hr'
    simp only[e,wF,id]at hl hr
    rcases o2' i hi (by omega)with ⟨k1,sh,els,h1,h2,h3⟩|⟨sh,h1,h3⟩
    . rw[h1]at hl hr
      simp only[wG]at hl hr
      rcases hb with hb|⟨k2,r2,⟨o2,ho2,hd2⟩,hr2⟩
      . exact(hst.inv.imm b hb).2 ⟨k1,r,hl,hr⟩
      . rw[zf5]at ho2
        split at ho2
        . cases ho2;exact hd2 rfl
        . rename_i hnm
          have:=hst.inv.dist k1 k2 b r r2 hr hr2 hl ⟨o2,ho2,hd2⟩
          subst this
          exact hnm (wP.2 ⟨some k1,h1▸wK _,rfl⟩)
    . exact(hr'.nil (by rw[hreg i (by omega),h1];rfl)).elim)
 refine⟨hinv,hlive,?_⟩
 have hov:zef rs pks=src.filterMap id:=by rw[zj2,hsrc]
 refine zmb (G':=zi4 G st.hp src) invd (fun b h=>.inl h) (fun b h=>.inr h) (fun i l h=>h) h (fun i hi=> ?_) vs hlen hv
 subst hsrc
 rw[wW]
 exact hreg i hi
end Go.Ev
namespace Go.Ev
open Go
variable {H H':Heap} {G G':Gh} {hp:Hp}
theorem zcz {ks:List Nat}(h:zdp hp ks=true):∀k∈ks,hp.get k=some (getO hp k)/\∀j∈zdd (getO hp k),j∈ks:=by
 intro k hk
 unfold zdp at h
 rw[wT]at h
 have:=h k hk
 rw[wU]at this
 cases ho:hp.get k with
 | none=>rw[ho]at this;cases this.1
 | some o =>
   rw[ho]at this
   refine⟨by unfold getO;rw[ho];rfl,fun j hj=> ?_⟩
   unfold getO at hj;rw[ho]at hj
   have h2:=this.2
   simp only[zk9,wT,List.contains_iff_mem]at h2
   exact h2 j hj
theorem zgl :∀{ks:List Nat} {k:Nat},k∈ks->idx ks k<ks.length/\ks.getD (idx ks k) 0=k
 | a::l,k,h=>by
   rw[idx]
   split
   . rename_i e;exact⟨by simp,by simp[e]⟩
   . rename_i e
     rcases wQ.1 h with rfl|h
     . exact absurd rfl e
     . obtain⟨h1,h2⟩:=zgl h
       exact⟨by simpa using h1,by simpa using h2⟩
theorem zg9 :∀{ks:List Nat},ks.Nodup->∀{i:Nat},i<ks.length->idx ks (ks.getD i 0)=i
 | a::l,hn,0,_=>by simp[idx]
 | a::l,hn,i+1,hi=>by
   rw[wN]at hn
   have hi':i<l.length:=by simpa using hi
   have e:(a::l).getD (i+1) 0=l.getD i 0:=rfl
   have hm:l.getD i 0∈l:=by rw[wL,wM hi'];exact wK hi'
   have hne:¬a=l.getD i 0:=fun h=>hn.1 (by rw[h];exact hm)
   rw[e,idx,if_neg hne,zg9 hn.2 hi']
variable {ks :List Nat}
theorem qfm {a b:Nat}(ha:a∈ks)(hb:b∈ks)(h:up ks a=up ks b):a=b:=by
 have e:idx ks a=idx ks b:=wX h
 rw[<-(zgl ha).2,e,(zgl hb).2]
theorem z5u (k:Nat):SHK<=up ks k:=Nat.le_add_right _ _
theorem zz7 (k:Nat):up ks k-SHK=idx ks k:=wV _ _
theorem zvq {all:List Nat}:∀{ks:List Nat} {q:Nat} {o:OB},(upHp hp all ks).get q=some o->∃k∈ks,q=up all k/\o=rOB (up all) (getO hp k):=by
 intro ks
 induction ks with
 | nil=>intro q o h;cases h
 | cons k ks ih =>
   intro q o h
   rw[upHp,Hp.get_cons]at h
   by_cases hk:up all k=q
   . simp only[hk,if_true,wB]at h
     exact⟨k,by simp,hk.symm,h.symm⟩
   . simp only[hk,if_false]at h
     obtain⟨j,hj,e⟩:=ih h
     exact⟨j,by simp[hj],e⟩
theorem zpb {all:List Nat}{k:Nat}(hk:k∈all):∀{ks:List Nat},(∀j∈ks,j∈all)->k∈ks->(upHp hp all ks).get (up all k)=some (rOB (up all) (getO hp k)):=by
 intro ks
 induction ks with
 | nil=>intro _ h;cases h
 | cons j ks ih =>
   intro ha h
   rw[upHp,Hp.get_cons]
   by_cases hj:up all j=up all k
   . rw[if_pos hj,qfm (ha j (by simp)) hk hj]
   . rw[if_neg hj]
     rcases wQ.1 h with rfl|h
     . exact absurd rfl hj
     . exact ih (fun i hi=>ha i (by simp[hi])) h
open Classical in
noncomputable def upGh (G:Gh)(ks:List Nat):Gh:={imm:=G.imm,yl:=G.yl,reg:=fun q=>if ∃k∈ks,q=up ks k then G.reg (ks.getD (q-SHK) 0)else none}
theorem zhk {k:Nat}(h:k∈ks):(upGh G ks).reg (up ks k)=G.reg k:=by
 simp only[upGh]
 rw[if_pos ⟨k,h,rfl⟩,zz7,(zgl h).2]
theorem zlp {q:Nat}{r:Rg}(h:(upGh G ks).reg q=some r):∃k∈ks,q=up ks k/\G.reg k=some r:=by
 simp only[upGh]at h
 split at h
 . rename_i hk
   obtain⟨k,hk,e⟩:=hk
   refine⟨k,hk,e,?_⟩
   rw[e,zz7,(zgl hk).2]at h;exact h
 . cases h
theorem zz8 {q b:Nat}{r:Sh}(h:(upGh G ks).At q b r):∃k∈ks,q=up ks k/\G.At k b r:=by
 obtain⟨x,hx,hat⟩:=h
 obtain⟨k,hk,e,h⟩:=zlp hx
 exact⟨k,hk,e,x,h,hat⟩
theorem zpa (hc:zdp hp ks=true){b:Nat}(h:Live (upGh G ks) (upHp hp ks ks) b):∃k∈ks,za0 hp k/\∃r,G.At k b r:=by
 obtain⟨q,r,⟨o,ho,hd⟩,hr⟩:=h
 obtain⟨k,hk,rfl,rfl⟩:=zvq ho
 rw[Gh.at_congr (zhk hk)]at hr
 exact⟨k,hk,⟨_,(zcz hc k hk).1,zho hd⟩,r,hr⟩
theorem zrg (inv:Inv H G hp)(hc:zdp hp ks=true):Inv H (upGh G ks) (upHp hp ks ks) where
 obs q o h:=by
  obtain⟨k,hk,rfl,rfl⟩:=zvq h
  have ⟨h1,h2⟩:=zcz hc k hk
  exact zja (inv.obs k _ h1) (zhk hk) (fun _ h=>h) (fun _ _ h=>h) fun j hj=>zhk (h2 j hj)
 out q h:=by
  cases hr:(upGh G ks).reg q with
  | none=>rfl
  | some r =>
    obtain⟨k,hk,rfl,_⟩:=zlp hr
    rw[zpb hk (fun _ h=>h) hk]at h;cases h
 dist q q' b r r' h h' hl hl':=by
  obtain⟨k,hk,rfl,h1⟩:=zz8 h
  obtain⟨k',hk',rfl,h1'⟩:=zz8 h'
  have live:∀k∈ks,za0 (upHp hp ks ks) (up ks k)->za0 hp k:=by
   rintro k hk ⟨o,ho,hd⟩
   rw[zpb hk (fun _ h=>h) hk]at ho;cases ho
   exact⟨_,(zcz hc k hk).1,zho hd⟩
  rw[inv.dist k k' b r r' h1 h1' (live k hk hl) (live k' hk' hl')]
 imm b hb:=⟨(inv.imm b hb).1,fun hl=>by
  obtain⟨k,_,h1,r,h2⟩:=zpa hc hl
  exact(inv.imm b hb).2 ⟨k,r,h1,h2⟩⟩
 lt b hb:=by
  obtain⟨k,_,h1,r,h2⟩:=zpa hc hb
  exact inv.lt b ⟨k,r,h1,h2⟩
theorem znn {v:Value}{x:AV}(h:RepV H G v x)(hk:∀k∈x.refs,k∈ks):RepV H (upGh G ks) v (rA (up ks) x) :=
 h.renA (.inr fun _ h=>h) (fun _ _ h=>h) fun k hk'=>zhk (hk k hk')
noncomputable def zk5 (ks:List Nat)(G G':Gh)(d m:Nat):Gh :=
 {imm:=G'.imm
  yl:=G'.yl
  reg:=fun k=>if k∈ks then G'.reg (up ks k)else match G.reg k with
   | some r=>some r
   | none=>if d<=k/\(k-d)%1000=0/\(k-d)/1000<m then G'.reg (20000+(k-d)/1000)else none}
theorem zz2 {d m i:Nat}(hk:d+1000*i∉ks)(h:G.reg (d+1000*i)=none)(hi:i<m):(zk5 ks G G' d m).reg (d+1000*i)=G'.reg (20000+i):=by
 simp only[zk5,h,hk,if_false]
 have e:d+1000*i-d=1000*i:=by omega
 rw[e,if_pos ⟨by omega,by omega,by omega⟩]
 congr 1
 omega
theorem zkl {d m k:Nat}{r:Rg}(hk:k∉ks)(h:G.reg k=some r):(zk5 ks G G' d m).reg k=some r:=by simp[zk5,h,hk]
theorem ztm {d m k:Nat}(hk:k∈ks):(zk5 ks G G' d m).reg k=G'.reg (up ks k):=by simp[zk5,hk]
theorem zwh {d:Nat}:∀{es:List OB} {j:Nat} {us:Hp},layG hp ks d j es=some us->(∀k o,us.get k=some o↔∃i,∃h:i<es.length,k=d+1000*(j+i)/\rOB (dn ks d) es[i]=o) /\
  ∀i,i<es.length->d+1000*(j+i)<SHK
 | [],j,us,h=>by
   simp only[layG,wB]at h
   subst h
   exact⟨fun k o=>by simp[Hp.get],fun i hi=>by simp at hi⟩
 | e::es,j,us,h=>by
   simp only[layG]at h
   rw[wC,wU,decide_eq_true_eq]at h
   obtain⟨⟨_,hlt⟩,h⟩:=h
   simp only[wD]at h
   obtain⟨r,hr,rfl⟩:=h
   obtain⟨g1,g2⟩:=zwh hr
   refine⟨fun k o=> ?_,fun i hi=> ?_⟩
   . rw[Hp.get_cons]
     by_cases hk:d+1000*j=k
     . simp only[hk,if_true,wB]
       constructor
       . intro he;exact⟨0,by simp,by omega,he⟩
       . rintro ⟨i,hi,hk',he⟩
         have:i=0:=by omega
         subst this;exact he
     . simp only[hk,if_false]
       rw[g1]
       constructor
       . rintro ⟨i,hi,hk',he⟩;exact⟨i+1,by simpa using hi,by omega,by simpa using he⟩
       . rintro ⟨i,hi,hk',he⟩
         cases i with
         | zero=>exact absurd (by omega) hk
         | succ i=>exact⟨i,by simpa using hi,by omega,by simpa using he⟩
   . cases i with
     | zero=>simpa using hlt
     | succ i=>have:=g2 i (by simpa using hi);omega
theorem zkr :∀{hp':Hp} {i n:Nat},zbr hp' i n=true->∀q,(∃o,hp'.get q=some o)↔∃j,j<n/\q=SHK+(i+j)
 | [],i,0,_,q=>by simp[Hp.get]
 | (p,o)::r,i,n+1,h,q=>by
   simp only[zbr,wU,decide_eq_true_eq]at h
   obtain⟨e,h⟩:=h
   rw[Hp.get_cons]
   by_cases hk:p=q
   . rw[if_pos hk];exact⟨fun _=>⟨0,by omega,by rw[<-hk,e];rfl⟩,fun _=>⟨o,rfl⟩⟩
   . rw[if_neg hk,zkr h q]
     constructor
     . rintro ⟨j,hj,e'⟩;exact⟨j+1,by omega,by rw[e'];omega⟩
     . rintro ⟨j,hj,e'⟩
       cases j with
       | zero=>exact absurd (e.trans e'.symm) hk
       | succ j=>exact⟨j,by omega,by rw[e'];omega⟩
 | [],_,_+1,h,_=>by simp[zbr]at h
 | _::_,_,0,h,_=>by simp[zbr]at h
theorem zgc {hp':Hp}(h:zbr hp' 0 ks.length=true)(hn:ks.Nodup)(q:Nat):(∃o,hp'.get q=some o)↔∃k∈ks,q=up ks k:=by
 rw[zkr h]
 constructor
 . rintro ⟨j,hj,e⟩
   refine⟨ks.getD j 0,?_,?_⟩
   . rw[wL,wM hj];exact wK hj
   . unfold up;rw[zg9 hn hj,e,wW]
 . rintro ⟨k,hk,e⟩;exact⟨idx ks k,(zgl hk).1,by rw[e,wW];rfl⟩
theorem ztl {d:Nat}(hn:ks.Nodup):∀{hp':Hp} {i n:Nat},zbr hp' i n=true->i+n=ks.length->∀k,k∈ks->i<=idx ks k->(zdu ks d hp').get k=(hp'.get (up ks k)).map (rOB (dn ks d))
 | [],i,0,_,hl,k,hk,hi=>rfl
 | (q,o)::r,i,n+1,h,hl,k,hk,hi=>by
   simp only[zbr,wU,decide_eq_true_eq]at h
   obtain⟨e,h⟩:=h
   have eq:q-SHK=i:=by rw[e];exact wV _ _
   rw[zdu,Hp.get_cons,Hp.get_cons,eq]
   by_cases hki:idx ks k=i
   . rw[if_pos (by rw[<-hki];exact(zgl hk).2),if_pos (by rw[e,<-hki];rfl)];rfl
   . rw[if_neg fun e'=>hki (by rw[<-e'];exact zg9 hn (by omega)),if_neg fun e'=>hki (by have:=e.symm.trans e';exact(wX this).symm)]
     exact ztl hn h (by omega) k hk (by omega)
 | [],_,_+1,h,_,_,_,_=>by simp[zbr]at h
 | _::_,_,0,h,_,_,_,_=>by simp[zbr]at h
theorem zz1 {d:Nat}{hp':Hp}(h:zbr hp' 0 ks.length=true)(hn:ks.Nodup){k:Nat}(hk:k∈ks):(zdu ks d hp').get k=(hp'.get (up ks k)).map (rOB (dn ks d)) :=
 ztl hn h (by omega) k hk (Nat.zero_le _)
theorem zvk {d:Nat}{hp':Hp}(h:zbr hp' 0 ks.length=true){k:Nat}(hk:k∉ks):(zdu ks d hp').get k=none:=by
 refine Hp.get_none fun o ho=> ?_
 obtain⟨q,o',h1,h2,_⟩:=zf7 ho
 obtain⟨j,hj,e⟩:=zd5 h q o' h1
 have e3:q-SHK=j:=by rw[e,wW];exact wV SHK j
 rw[e3,wL,wM hj]at h2
 exact hk (by rw[h2];exact wK hj)
theorem z8r {d k:Nat}(h:k∈ks):dn ks d (up ks k)=k:=by unfold dn;rw[if_pos (z5u k),zz7,(zgl h).2]
theorem zxe {d i:Nat}(h:20000+i<SHK):dn ks d (20000+i)=d+1000*i:=by
 unfold dn
 rw[if_neg (by omega),show 20000+i-20000=i by omega]
theorem zhy {es:List OB}{k:Nat}{o:OB}:(zcc 0 es).get k=some o↔∃i,∃h:i<es.length,k=20000+i/\es[i]=o:=by
 rw[zc7]
 constructor
 . rintro ⟨i,hi,hk,he⟩;exact⟨i,hi,by omega,he⟩
 . rintro ⟨i,hi,hk,he⟩;exact⟨i,hi,by omega,he⟩
theorem zhi (inv:Inv H G hp)(hn:ks.Nodup)(hc:zdp hp ks=true){d:Nat}{hp' us':Hp}{es:List OB}{v:Value}{r:AV}
  (m:Move H (upGh G ks) (upHp hp ks ks) H' G' (hp'++zcc 0 es)) (hand:ks≠[]->∀q,SHK<=q->∀r,G'.reg q=some r->∃r0,(upGh G ks).reg q=some r0/\r0.le r) (hs:zbr hp' 0 ks.length=true)
  (hl:layG hp ks d 0 es=some us') (hv:RepT H' G' v r):∃G2,Step H G hp H' G2 ((zdu ks d hp'++us')++hp)/\RepT H' G2 v (rA (dn ks d) r):=by
 obtain⟨hget,hlt⟩:=zwh hl
 simp only[wW]at hget hlt
 have hfresh:=(zfw (hp':=hp) hl fun _ _ _ h=>h).2
 have hnone:∀i,i<es.length->hp.get (d+1000*i)=none:=fun i hi=>hfresh _ _ (Hp.get_mem ((hget (d+1000*i) _).2 ⟨i,hi,rfl,rfl⟩))
 have hregn:∀i,i<es.length->G.reg (d+1000*i)=none:=fun i hi=>inv.out _ (hnone i hi)
 have hnk:∀i,i<es.length->d+1000*i∉ks:=fun i hi hk=>by have:=(zcz hc _ hk).1;rw[hnone i hi]at this;cases this
 have h20:∀i,i<es.length->20000+i<SHK:=fun i hi=>by
  have:=hlt i hi
  unfold SHK at *
  omega
 have hkey:∀q o,(hp'++zcc 0 es).get q=some o->(∃k∈ks,q=up ks k/\hp'.get (up ks k)=some o)\/(∃i,∃h:i<es.length,q=20000+i/\es[i]=o/\hp'.get q=none):=fun q o h=>by
  rw[Hp.get_append]at h
  cases h1:hp'.get q with
  | some o' =>
    rw[h1]at h
    obtain⟨k,hk,e⟩:=(zgc hs hn q).1 ⟨o',h1⟩
    exact .inl ⟨k,hk,e,by rw[<-e,h1,<-h]⟩
  | none =>
    rw[h1]at h
    obtain⟨i,hi,e,e2⟩:=zhy.1 h
    exact .inr ⟨i,hi,e,e2,rfl⟩
 let G2:=zk5 ks G G' d es.length
 have hreg:∀q,(∃r,G'.reg q=some r)->G2.reg (dn ks d q)=G'.reg q:=by
  rintro q ⟨rr,hr⟩
  obtain⟨o,ho⟩:=m.inv.reg_get hr
  rcases hkey q o ho with ⟨k,hk,rfl,_⟩|⟨i,hi,rfl,_,_⟩
  . rw[z8r hk]
    exact ztm hk
  . rw[zxe (h20 i hi)]
    exact zz2 (hnk i hi) (hregn i hi) hi
 have hobref:∀q o,(hp'++zcc 0 es).get q=some o->∀j∈zdd o,G2.reg (dn ks d j)=G'.reg j:=fun q o ho j hj=>hreg j (m.inv.ob_refs ho j hj)
 have hle:Le H G H' G2:=⟨fun b hb=>m.imm b hb,fun k rr h=>by
  by_cases hk:k∈ks
  . obtain⟨o,ho⟩:=(zgc hs hn (up ks k)).2 ⟨k,hk,rfl⟩
    obtain⟨r1,hr1⟩:=m.inv.get_reg (show(hp'++zcc 0 es).get (up ks k)=some o by rw[Hp.get_append,ho])
    obtain⟨r0,h0,hle⟩:=hand (fun e=>by rw[e]at hk;cases hk) _ (z5u k) r1 hr1
    rw[zhk hk,h]at h0
    cases h0
    exact⟨r1,(ztm hk).trans hr1,hle⟩
  . exact⟨rr,zkl hk h,Rg.le_refl rr⟩,fun i l h=>m.yl i l h⟩
 have hcase:∀k o,((zdu ks d hp'++us')++hp).get k=some o->(k∈ks/\∃o',hp'.get (up ks k)=some o'/\o=rOB (dn ks d) o')\/(∃i,∃h:i<es.length,k=d+1000*i/\rOB (dn ks d) es[i]=o/\hp'.get (20000+i)=none)\/(k∉ks/\hp.get k=some o):=fun k o h=>by
  rw[Hp.get_append,Hp.get_append]at h
  by_cases hkk:k∈ks
  . rw[zz1 hs hn hkk]at h
    obtain⟨o',ho'⟩:=(zgc hs hn (up ks k)).2 ⟨k,hkk,rfl⟩
    rw[ho']at h
    exact .inl ⟨hkk,o',ho',by simpa using h.symm⟩
  . rw[zvk hs hkk]at h
    have hnk:=hkk
    cases h2:us'.get k with
    | some o' =>
      rw[h2]at h
      obtain⟨i,hi,e,e2⟩:=(hget k o').1 h2
      refine .inr (.inl ⟨i,hi,e,by rw[e2];simpa using h,?_⟩)
      cases h3:hp'.get (20000+i)with
      | none=>rfl
      | some o3 =>
        obtain⟨k3,_,e3⟩:=(zgc hs hn (20000+i)).1 ⟨o3,h3⟩
        have:=z5u (ks:=ks) k3
        have:=h20 i hi
        omega
    | none=>rw[h2]at h;exact .inr (.inr ⟨hnk,h⟩)
 have hin:∀q o,hp'.get q=some o->(hp'++zcc 0 es).get q=some o:=fun q o h=>by rw[Hp.get_append,h]
 have hin2:∀i (h:i<es.length),hp'.get (20000+i)=none->(hp'++zcc 0 es).get (20000+i)=some es[i]:=fun i h hn=>by
  rw[Hp.get_append,hn];exact zhy.2 ⟨i,h,rfl,rfl⟩
 have hregk:∀q o,(hp'++zcc 0 es).get q=some o->∃r,G'.reg q=some r:=fun q o ho=>by
  have:=m.inv.obs q o ho
  cases o with
  | fix sh a=>obtain⟨b,_,_,_,h,_⟩:=this;exact⟨_,h⟩
  | grow sh els =>
    rcases this with ⟨_,h⟩|⟨_,_,_,_,_,h,_⟩
    . exact⟨_,h⟩
    . exact⟨_,h⟩
  | dead=>obtain⟨r,h⟩:=this;exact⟨_,h⟩
  | lp _ _ _=>obtain⟨_,_,_,h,_⟩:=this;exact⟨_,h⟩
  | mp _ _=>obtain⟨_,h,_⟩:=this;exact⟨_,h⟩
 have hlcase:∀k b rr,za0 ((zdu ks d hp'++us')++hp) k->G2.At k b rr->(∃q,k=dn ks d q/\za0 (hp'++zcc 0 es) q/\G'.At q b rr)\/(k∉ks/\za0 hp k/\G.At k b rr):=by
  rintro k b rr ⟨o,ho,hd⟩ hr
  rcases hcase k o ho with ⟨hk,o',ho',rfl⟩|⟨i,hi,rfl,rfl,hn⟩|⟨hk,ho⟩
  . left
    refine⟨up ks k,(z8r hk).symm,⟨o',hin _ _ ho',zho hd⟩,?_⟩
    refine(Gh.at_congr (G':=G2) (k':=k) ?_).2 hr
    rw[<-hreg (up ks k) (hregk _ _ (hin _ _ ho')),z8r hk]
  . left
    refine⟨20000+i,(zxe (h20 i hi)).symm,⟨es[i],hin2 i hi hn,zho hd⟩,?_⟩
    refine(Gh.at_congr (G':=G2) (k':=d+1000*i) ?_).2 hr
    rw[<-hreg _ (hregk _ _ (hin2 i hi hn)),zxe (h20 i hi)]
  . right
    refine⟨hk,⟨o,ho,hd⟩,?_⟩
    have:=inv.obs k o ho
    have hex:∃r,G.reg k=some r:=by
     cases o with
     | fix sh a=>obtain⟨b,_,_,_,h,_⟩:=this;exact⟨_,h⟩
     | grow sh els =>
       rcases this with ⟨_,h⟩|⟨_,_,_,_,_,h,_⟩
       . exact⟨_,h⟩
       . exact⟨_,h⟩
     | dead=>obtain⟨r,h⟩:=this;exact⟨_,h⟩
     | lp _ _ _=>obtain⟨_,_,_,h,_⟩:=this;exact⟨_,h⟩
     | mp _ _=>obtain⟨_,h,_⟩:=this;exact⟨_,h⟩
    obtain⟨r',hr'⟩:=hex
    exact(Gh.at_congr (hr'.trans (show G2.reg k=some r' from zkl hk hr').symm)).2 hr
 have hfar:∀k b rr,k∉ks->za0 hp k->G.At k b rr->¬Live (upGh G ks) (upHp hp ks ks) b/\b<H.size:=fun k b rr hk hl hr=>by
  refine⟨fun h=> ?_,inv.lt b ⟨k,rr,hl,hr⟩⟩
  obtain⟨k0,hk0,hl0,r0,hr0⟩:=zpa hc h
  rw[inv.dist k k0 b rr r0 hr hr0 hl hl0]at hk
  exact hk hk0
 have hupL:∀b,Live (upGh G ks) (upHp hp ks ks) b->Live G hp b:=fun b h=>by
  obtain⟨k,_,h1,r,h2⟩:=zpa hc h
  exact⟨k,r,h1,h2⟩
 have hL:∀b,Live G2 ((zdu ks d hp'++us')++hp) b->Live G hp b\/H.size<=b:=by
  rintro b ⟨k,rr,hl,hr⟩
  rcases hlcase k b rr hl hr with ⟨q,_,h1,h2⟩|⟨_,h1,h2⟩
  . exact(m.live b ⟨q,rr,h1,h2⟩).imp (hupL b) id
  . exact .inl ⟨k,rr,h1,h2⟩
 refine⟨G2,⟨⟨?_,?_,?_,?_,?_⟩,hle,m.size,fun b hb hn=>m.same b hb fun h=>hn (hupL b h),hL,fun b hb=> ?_⟩,?_⟩
 . intro k o hk
   rcases hcase k o hk with ⟨hkm,o',ho',rfl⟩|⟨i,hi,rfl,rfl,hn⟩|⟨hk,ho⟩
   . refine zja (m.inv.obs _ _ (hin _ _ ho')) ?_ (fun _ h=>h) (fun _ _ h=>h) (hobref _ _ (hin _ _ ho'))
     rw[<-hreg (up ks k) (hregk _ _ (hin _ _ ho')),z8r hkm]
   . refine zja (m.inv.obs _ _ (hin2 i hi hn)) ?_ (fun _ h=>h) (fun _ _ h=>h) (hobref _ _ (hin2 i hi hn))
     rw[<-hreg _ (hregk _ _ (hin2 i hi hn)),zxe (h20 i hi)]
   . refine ObOk.mono hle (fun hl b rr hr=> ?_) (fun _ h=>zkl hk h) ho (inv.obs k o ho)
     obtain⟨h1,h2⟩:=hfar k b rr hk hl hr
     exact m.same b h2 h1
 . intro k hk
   rw[Hp.get_append,Hp.get_append]at hk
   have h1:hp.get k=none:=by
    cases h:hp.get k with
    | none=>rfl
    | some o=>rw[h]at hk;cases h2:(zdu ks d hp').get k<;>rw[h2]at hk<;>first|(cases h3:us'.get k<;>rw[h3]at hk<;>cases hk;done)|cases hk
   have h2:us'.get k=none:=by
    cases h:us'.get k with
    | none=>rfl
    | some o=>rw[h]at hk;cases h2:(zdu ks d hp').get k<;>rw[h2]at hk<;>cases hk
   have h3:=inv.out k h1
   have hkk:k∉ks:=fun hk=>by have:=(zcz hc _ hk).1;rw[h1]at this;cases this
   simp only[G2,zk5,h3,hkk,if_false]
   rw[if_neg]
   rintro ⟨h4,h5,h6⟩
   have hk':k=d+1000*((k-d)/1000):=by omega
   have:=(hget k _).2 ⟨(k-d)/1000,h6,hk',rfl⟩
   rw[h2]at this;cases this
 . intro k k' b rr rr' hr hr' hl hl'
   rcases hlcase k b rr hl hr with ⟨q,e,h1,h2⟩|⟨hk,h1,h2⟩
   . rcases hlcase k' b rr' hl' hr' with ⟨q',e',h1',h2'⟩|⟨hk',h1',h2'⟩
     . rw[e,e',m.inv.dist q q' b rr rr' h2 h2' h1 h1']
     . obtain⟨g1,g2⟩:=hfar k' b rr' hk' h1' h2'
       rcases m.live b ⟨q,rr,h1,h2⟩with h|h
       . exact absurd h g1
       . omega
   . rcases hlcase k' b rr' hl' hr' with ⟨q',e',h1',h2'⟩|⟨hk',h1',h2'⟩
     . obtain⟨g1,g2⟩:=hfar k b rr hk h1 h2
       rcases m.live b ⟨q',rr',h1',h2'⟩with h|h
       . exact absurd h g1
       . omega
     . exact inv.dist k k' b rr rr' h2 h2' h1 h1'
 . intro b hb
   refine⟨(m.inv.imm b hb).1,?_⟩
   rintro ⟨k,rr,hl,hr⟩
   rcases hlcase k b rr hl hr with ⟨q,_,h1,h2⟩|⟨hk,h1,h2⟩
   . exact(m.inv.imm b hb).2 ⟨q,rr,h1,h2⟩
   . obtain⟨g1,g2⟩:=hfar k b rr hk h1 h2
     rcases m.immNew b hb with h|h|h
     . exact(inv.imm b h).2 ⟨k,rr,h1,h2⟩
     . omega
     . exact g1 h
 . rintro b ⟨k,rr,hl,hr⟩
   rcases hlcase k b rr hl hr with ⟨q,_,h1,h2⟩|⟨hk,h1,h2⟩
   . exact m.inv.lt b ⟨q,rr,h1,h2⟩
   . exact Nat.lt_of_lt_of_le (inv.lt b ⟨k,rr,h1,h2⟩) m.size
 . rcases m.immNew b hb with h|h|h
   . exact .inl h
   . exact .inr (.inl h)
   . exact .inr (.inr (hupL b h))
 . exact hv.renA (.inr fun _ h=>h) (fun _ _ h=>h) fun k hk=>hreg k (hv.known_refs k hk)
end Go.Ev
