/-
  A function's results: read, and packed. No condition.
-/
import Derived.Test.YtcddalfeicoedaaGreatDoorEvCode
import Derived.Test.YtcddalfeicoedaaGreatDoorEvLend
set_option linter.all false
open Option renaming some.injEq->wA,ite_none_right_eq_some->wB,map_eq_some_iff->wC,bind_eq_some_iff->wD,bind_some->wE,getD_some->wF
open List renaming getElem_cons_zero->wG,singleton_append->wH,getElem_mem->wI,getD_eq_getElem?_getD->wJ,getElem?_eq_getElem->wK,nodup_cons->wL,filterMap->wM,mem_filterMap->wN,mem_cons->wO,getElem_cons_succ->wP,length_cons->wQ,all_eq_true->wR
open Bool renaming and_eq_true->wS
open Nat renaming add_sub_cancel_left->wT,zero_add->wU,add_left_cancel->wV,add_zero->wW
namespace Go.Ev
open Go
variable {P :Program} {w:World} {H:Heap} {G G':Gh} {st:St} {tmps:Array Value}
theorem zwp {a:Addr}:(asAddr (.pointer (some a))).run P w= .ok a w:=rfl
def zjc (tmps:Array Value):ResultVar->Sem Value
 | .tmp t=>pure (tmps.getD t undef)
 | .cell a t=>do loadVar t (<-asAddr (tmps.getD a undef))
theorem qac (hst:StOk w.heap G st tmps){rv:ResultVar}{rd:ResD}{x:AV}(hc:zge P rv=some rd)(h:zfb st rd=some x) :
  ∃v,(zjc tmps rv).run P w= .ok v w/\RepT w.heap G v x:=by
 cases rv with
 | tmp t =>
   simp only[zge,wA]at hc
   subst hc
   simp only[zfb,wA]at h
   subst h
   exact⟨_,rfl,hst.fr t⟩
 | cell a t =>
   simp only[zge,wC]at hc
   obtain⟨sh,hsh,rfl⟩:=hc
   simp only[zfb,wC]at h
   obtain⟨⟨v,us⟩,hs,rfl⟩:=h
   obtain⟨b,off,c,e,fz,hev,_,hb,hrc,hk,hw,hag,hn⟩:=zu0 hst.inv (x':=.t a) (hst.fr a) hs
   obtain⟨val,hval,hrv⟩:=zf2 hrc
   refine⟨_,?_,(RepT.of_known hk).2 (zlr hk hw hrv)⟩
   simp only[zjc,hev,Sem.run_bind,zwp,Result.andThen_ok]
   exact zli hsh hag hn hb hval hk
theorem znd {α:Type}{f:α->Sem Value}:∀{l:List α} {vs:List Value},vs.length=l.length->(∀i (h:i<l.length) (h':i<vs.length),(f l[i]).run P w= .ok vs[i] w)->(l.mapM f).run P w= .ok vs w
 | [],vs,h,_=>by
   have:vs=[]:=List.eq_nil_of_length_eq_zero h
   subst this;rfl
 | a::l,[],h,_=>by simp at h
 | a::l,v::vs,h,hf=>by
   rw[List.mapM_cons]
   have h0:=hf 0 (by simp) (by simp)
   simp only[wG]at h0
   simp only[Sem.run_bind,h0,Result.andThen_ok]
   rw[znd (l:=l) (vs:=vs) (by simpa using h) fun i hi hi'=>by
    have:=hf (i+1) (by simpa using hi) (by simpa using hi')
    simpa using this]
   rfl
theorem zhv {fn:Func}{vs:List Value}(h:vs.length=fn.results.size)(hf:∀i (h:i<fn.results.size) (h':i<vs.length),(zjc tmps fn.results[i]).run P w= .ok vs[i] w) :
  (results fn tmps).run P w= .ok (match vs with|[v]=>v|l=>.tuple l.toArray) w:=by
 have hm:(fn.results.mapM (zjc tmps)).run P w= .ok vs.toArray w:=by
  have:fn.results=fn.results.toList.toArray:=rfl
  rw[this,List.mapM_toArray]
  simp only[map_eq_pure_bind,Sem.run_bind]
  rw[znd (vs:=vs) (by simpa using h) fun i hi hi'=>by simpa using hf i (by simpa using hi) hi']
  rfl
 have e:results fn tmps=(do let vs<-fn.results.mapM (zjc tmps);pure (if h:vs.size=1 then vs[0]else .tuple vs)):=by
  unfold results
  congr 1
 rw[e]
 simp only[Sem.run_bind,hm,Result.andThen_ok]
 match vs with
 | []=>rfl
 | [v]=>rfl
 | a::b::l=>simp
theorem zhb (hst:StOk w.heap G st tmps):∀{rvs:List ResultVar} {rds:List ResD} {xs:List AV},mapO (zge P) rvs=some rds->zbh st rds=some xs ->
  ∃vs:List Value,vs.length=rvs.length/\xs.length=rvs.length/\(∀i (h:i<rvs.length) (h':i<vs.length),(zjc tmps rvs[i]).run P w= .ok vs[i] w) /\
   ∀i (h:i<vs.length) (h':i<xs.length),RepT w.heap G vs[i] xs[i]
 | [],rds,xs,h1,h2=>by
   simp only[mapO,wA]at h1
   subst h1
   simp only[zbh,wA]at h2
   subst h2
   exact⟨[],rfl,rfl,fun i h=>by simp at h,fun i h=>by simp at h⟩
 | rv::rvs,rds,xs,h1,h2=>by
   simp only[mapO,wD,wC]at h1
   obtain⟨rd,hrd,rds',hrds,rfl⟩:=h1
   simp only[zbh,wD,wC]at h2
   obtain⟨x,hx,xs',hxs,rfl⟩:=h2
   obtain⟨v,hv1,hv2⟩:=qac hst hrd hx
   obtain⟨vs,g1,g2,g3,g4⟩:=zhb hst hrds hxs
   refine⟨v::vs,by simp[g1],by simp[g2],fun i h h'=> ?_,fun i h h'=> ?_⟩
   . cases i with
     | zero=>exact hv1
     | succ i=>exact g3 i (by simpa using h) (by simpa using h')
   . cases i with
     | zero=>exact hv2
     | succ i=>exact g4 i (by simpa using h) (by simpa using h')
def src1 (r:AV):Pk->List (Option Nat)
 | .asis=>[]
 | .gen=>[]
 | .own _=>match r with
   | .sl k _ _ _=>[some k]
   | _=>[none]
def zci :List AV->List Pk->List (Option Nat)
 | [],_=>[]
 | r::rs,pks=>src1 r (pks.headD .asis)++zci rs pks.tail
theorem zjg :∀(rs:List AV) (pks:List Pk),zd7 rs pks=(zci rs pks).filterMap id
 | [],pks=>rfl
 | r::rs,pks=>by
   have e:zd7 (r::rs) pks=(match pks.headD .asis,r with| .own _,.sl k _ _ _=>[k]|_,_=>[])++zd7 rs pks.tail:=rfl
   rw[zci,List.filterMap_append,<-zjg rs,e]
   congr 1
   cases pks.headD .asis with
   | asis=>rfl
   | gen=>rfl
   | own sh=>cases r<;>rfl
def zql (G:Gh):Option Nat->Option Rg
 | some k=>G.reg k
 | none=>some .nil
theorem zlz {hp hp':Hp}:∀{rs:List AV} {pks:List Pk} {j:Nat} {l:List AV} {es:List OB},zef hp hp' j rs pks=some (l,es) ->
  es.length=(zci rs pks).length/\∀i (h:i<es.length) (h':i<(zci rs pks).length),(∃k sh els,(zci rs pks)[i]=some k/\hp.get k=some (.grow sh els)/\es[i]= .grow sh els) \/
   (∃sh,(zci rs pks)[i]=none/\es[i]= .grow sh [])
 | [],pks,j,l,es,h=>by
   simp only[zef,wA,Prod.mk.injEq]at h
   obtain⟨rfl,rfl⟩:=h
   exact⟨rfl,fun i h=>by simp at h⟩
 | r::rs,pks,j,l,es,h=>by
   simp only[zef,wD,wC]at h
   obtain⟨⟨a,e1⟩,h1,⟨l2,e2⟩,h2,h⟩:=h
   cases h
   obtain⟨g1,g2⟩:=zlz h2
   have key:(e1=[]/\src1 r (pks.headD .asis)=[]) \/
     (∃k sh els,src1 r (pks.headD .asis)=[some k]/\hp.get k=some (.grow sh els)/\e1=[.grow sh els]) \/
     (∃sh,src1 r (pks.headD .asis)=[none]/\e1=[.grow sh []]):=by
    cases hp1:pks.headD .asis with
    | gen=>rw[hp1]at h1;simp[zin]at h1
    | asis =>
      rw[hp1]at h1
      simp only[zin,wD]at h1
      obtain⟨x,_,h1⟩:=h1
      rw[wB]at h1
      cases h1.2
      exact .inl ⟨rfl,rfl⟩
    | own sh =>
      rw[hp1]at h1
      simp only[zin]at h1
      split at h1
      . rename_i k n
        split at h1
        . rename_i sh' els hk
          rw[wB,wS]at h1
          obtain⟨⟨hb,_⟩,h1⟩:=h1
          have:=Sh.beq_eq hb
          subst this
          cases h1
          exact .inr (.inl ⟨k,sh,els,rfl,hk,rfl⟩)
        . cases h1
      . cases h1
        exact .inr (.inr ⟨sh,rfl,rfl⟩)
      . cases h1
   rw[zci]
   rcases key with ⟨k1,k2⟩|⟨k,sh,els,k2,hk,k1⟩|⟨sh,k2,k1⟩
   . rw[k2,k1];simp only[List.nil_append];exact⟨g1,g2⟩
   . rw[k2,k1]
     simp only[wH,wQ]
     refine⟨by omega,fun i h h'=> ?_⟩
     cases i with
     | zero=>exact .inl ⟨k,sh,els,rfl,hk,rfl⟩
     | succ i=>exact g2 i (by omega) (by omega)
   . rw[k2,k1]
     simp only[wH,wQ]
     refine⟨by omega,fun i h h'=> ?_⟩
     cases i with
     | zero=>exact .inr ⟨sh,rfl,rfl⟩
     | succ i=>exact g2 i (by omega) (by omega)
theorem zly {hp hp':Hp}(inv:Inv H G hp')(himm:∀b,G.imm b->G'.imm b)(hlive:∀b,Live G hp' b->G'.imm b)(hyl:∀i l,G.yl i=some l->G'.yl i=some l) :
  ∀{rs:List AV} {pks:List Pk} {j:Nat} {l:List AV} {es:List OB},zef hp hp' j rs pks=some (l,es) ->
  (∀i (h:i<(zci rs pks).length),G'.reg (20000+(j+i))=zql G (zci rs pks)[i])->∀vs:List Value,vs.length=rs.length->(∀i (h:i<vs.length) (h':i<rs.length),RepT H G vs[i] rs[i]) ->
  l.length=rs.length/\∀i (h:i<vs.length) (h':i<l.length),RepV H G' vs[i] l[i]
 | [],pks,j,l,es,h,_,vs,hvs,_=>by
   simp only[zef,wA,Prod.mk.injEq]at h
   obtain⟨rfl,rfl⟩:=h
   exact⟨rfl,fun i h h'=>by simp at h'⟩
 | r::rs,pks,j,l,es,h,hreg,[],hvs,_=>by simp at hvs
 | r::rs,pks,j,l,es,h,hreg,v::vs,hvs,hr=>by
   simp only[zef,wD,wC]at h
   obtain⟨⟨a,e1⟩,h1,⟨l2,e2⟩,h2,h⟩:=h
   cases h
   have hr0:RepT H G v r:=hr 0 (by simp) (by simp)
   have key:RepV H G' v a/\(src1 r (pks.headD .asis)).length=e1.length:=by
    rw[zci]at hreg
    cases hp1:pks.headD .asis with
    | gen=>rw[hp1]at h1;simp[zin]at h1
    | asis =>
      rw[hp1]at h1
      simp only[zin,wD]at h1
      obtain⟨x,hx,h1⟩:=h1
      rw[wB]at h1
      cases h1.2
      exact⟨zu2 inv himm hlive hyl hx ((RepT.of_known (znm hx)).1 hr0),rfl⟩
    | own sh =>
      rw[hp1]at h1 hreg
      simp only[zin]at h1
      split at h1
      . rename_i k n
        split at h1
        . rename_i sh' els hk
          rw[wB]at h1
          obtain⟨_,h1⟩:=h1
          cases h1
          have hg:=hreg 0 (by simp[src1])
          simp only[src1,wH,wG,zql,wW]at hg
          refine⟨?_,rfl⟩
          rw[zaj rfl]at hr0
          refine(RepV.scalar rfl).2 ?_
          cases hr0 with
          | sl _ _ _ _ b root m e o hrg hs ho hle=>exact .sl _ [] 0 n b root m e o (hg.trans hrg) hs ho hle
          | slZ _ _ _ b x root m e hrg hs ho=>exact .slZ _ [] 0 b x root m e (hg.trans hrg) hs ho
          | slNil _ a hrg=>exact .slNil _ a (hg.trans hrg)
        . cases h1
      . cases h1
        have hg:=hreg 0 (by simp[src1])
        simp only[src1,wH,wG,zql,wW]at hg
        refine⟨?_,rfl⟩
        rw[zaj rfl]at hr0
        refine(RepV.scalar rfl).2 ?_
        obtain⟨b,cap,he,_,hc,_,_⟩:=zdv hr0
        have:=hc rfl
        simp only[List.length_nil]at this he
        subst this he
        exact .slNil _ b hg
      . cases h1
   obtain⟨g1,g2⟩:=zly inv himm hlive hyl h2 (fun i hi=>by
    have:=hreg (e1.length+i) (by rw[zci,List.length_append,key.2];simp;omega)
    rw[show j+(e1.length+i)=j+e1.length+i by omega]at this
    rw[this]
    congr 1
    simp only[zci]
    rw[List.getElem_append_right (by omega)]
    congr 1
    omega) vs (by simpa using hvs) fun i hi hi'=>by
     have:=hr (i+1) (by simpa using hi) (by simpa using hi')
     simpa using this
   refine⟨by simp[g1],fun i hi hi'=> ?_⟩
   cases i with
   | zero=>exact key.1
   | succ i=>exact g2 i (by simpa using hi) (by simpa using hi')
def zcg :Nat->List OB->Hp
 | _,[]=>[]
 | j,o::l=>(20000+j,o)::zcg (j+1) l
theorem zc5 :∀{es:List OB} {j k:Nat} {o:OB},(zcg j es).get k=some o↔∃i,∃h:i<es.length,k=20000+(j+i)/\es[i]=o
 | [],j,k,o=>by simp[zcg,Hp.get]
 | e::es,j,k,o=>by
   rw[zcg,Hp.get_cons]
   by_cases h:20000+j=k
   . simp only[h,if_true,wA]
     constructor
     . intro he;exact⟨0,by simp,by omega,he⟩
     . rintro ⟨i,hi,hk,he⟩
       have:i=0:=by omega
       subst this;exact he
   . simp only[h,if_false]
     rw[zc5 (es:=es)]
     constructor
     . rintro ⟨i,hi,hk,he⟩;exact⟨i+1,by simpa using hi,by omega,by simpa using he⟩
     . rintro ⟨i,hi,hk,he⟩
       cases i with
       | zero=>exact absurd (by omega) h
       | succ i=>exact⟨i,by simpa using hi,by omega,by simpa using he⟩
theorem zfu :∀{ks:List Nat} {hp:Hp} {k:Nat},(zkn ks++hp).get k=if k∈ks then some .dead else hp.get k
 | [],hp,k=>by simp[zkn]
 | x::ks,hp,k=>by
   simp only[zkn,List.cons_append,Hp.get_cons,zfu (ks:=ks),wO]
   by_cases h:x=k
   . simp[h]
   . have:¬k=x:=fun e=>h e.symm
     simp[h,this]
theorem zrp :∀{ks:List Nat} {hp:Hp},Inv H G hp->(∀k∈ks,∃o,hp.get k=some o)->Inv H G (zkn ks++hp)
 | [],hp,inv,_=>inv
 | x::ks,hp,inv,h=>by
   have ih:=zrp (ks:=ks) inv fun k hk=>h k (by simp[hk])
   obtain⟨o,ho⟩:=h x (by simp)
   by_cases hx:x∈ks
   . exact(zid ih (k:=x) (o:=.dead) (by rw[zfu,if_pos hx])).inv
   . exact(zid ih (k:=x) (o:=o) (by rw[zfu,if_neg hx];exact ho)).inv
theorem zps {l:List (Option Nat)}(h:(l.filterMap id).Nodup){i j k:Nat}(hi:i<l.length)(hj:j<l.length)(h1:l[i]=some k)(h2:l[j]=some k):i=j:=by
 induction l generalizing i j with
 | nil=>simp at hi
 | cons a l ih =>
   have hl:(l.filterMap id).Nodup:=by
    rw[List.filterMap_cons]at h
    split at h
    . exact h
    . exact(wL.1 h).2
   have hmem:∀{i:Nat} (hi:i<l.length),l[i]=some k->k∈l.filterMap id:=fun hi h=>wN.2 ⟨some k,h▸wI hi,rfl⟩
   cases i with
   | zero =>
     cases j with
     | zero=>rfl
     | succ j =>
       simp only[wG]at h1
       simp only[wP]at h2
       subst h1
       have hc:wM id (some k::l)=k::wM id l:=rfl
       rw[hc]at h
       exact absurd (hmem (by simpa using hj) h2) (wL.1 h).1
   | succ i =>
     cases j with
     | zero =>
       simp only[wG]at h2
       simp only[wP]at h1
       subst h2
       have hc:wM id (some k::l)=k::wM id l:=rfl
       rw[hc]at h
       exact absurd (hmem (by simpa using hi) h1) (wL.1 h).1
     | succ j=>rw[ih hl (i:=i) (j:=j) (by simpa using hi) (by simpa using hj) (by simpa using h1) (by simpa using h2)]
open Classical in
noncomputable def zim (G:Gh)(hp:Hp)(src:List (Option Nat)):Gh :=
 {imm:=fun b=>G.imm b\/Live G (zkn (src.filterMap id)++hp) b
  yl:=G.yl
  reg:=fun k=>if 20000<=k then(match src[k-20000]? with|some s=>zql G s|none=>none)else none}
theorem z4u (hst:StOk H G st tmps){res:List ResD}{pks:List Pk}{l:List AV}{es:List OB}(h:zgp st res pks=some (l,es)){rs:List AV}(hrs:zbh st res=some rs){vs:List Value}(hlen:vs.length=rs.length)
  (hv:∀i (h:i<vs.length) (h':i<rs.length),RepT H G vs[i] rs[i]) :
  Inv H (zim G st.hp (zci rs pks)) (zcg 0 es)/\(∀b,Live (zim G st.hp (zci rs pks)) (zcg 0 es) b->Live G st.hp b) /\
  l.length=rs.length/\∀i (h:i<vs.length) (h':i<l.length),RepV H (zim G st.hp (zci rs pks)) vs[i] l[i]:=by
 simp only[zgp,hrs,wE]at h
 rw[wB,zcu,zjg]at h
 obtain⟨hn,h⟩:=h
 generalize hsrc:zci rs pks=src at h hn ⊢
 obtain⟨o1,o2⟩:=zlz h
 rw[hsrc]at o1
 have o2':∀i (h:i<es.length) (h':i<src.length),(∃k sh els,src[i]=some k/\st.hp.get k=some (.grow sh els)/\es[i]= .grow sh els)\/(∃sh,src[i]=none/\es[i]= .grow sh []):=by
  subst hsrc;exact o2
 have hks:∀k∈src.filterMap id,∃o,st.hp.get k=some o:=fun k hk=>by
  obtain⟨s,hs,he⟩:=wN.1 hk
  simp only[id]at he
  subst he
  obtain⟨i,hi,he⟩:=List.getElem_of_mem hs
  rcases o2' i (by omega) hi with ⟨k',sh,els,h1,h2,_⟩|⟨sh,h1,_⟩
  . rw[he]at h1;cases h1;exact⟨_,h2⟩
  . rw[he]at h1;cases h1
 have invd:=zrp hst.inv hks
 have hreg:∀i (hi:i<src.length),(zim G st.hp src).reg (20000+i)=zql G src[i]:=fun i hi=>by
  simp[zim,hi]
 have hlived:∀b,Live G (zkn (src.filterMap id)++st.hp) b->Live G st.hp b:=by
  rintro b ⟨k,r,⟨o,ho,hd⟩,hr⟩
  rw[zfu]at ho
  split at ho
  . cases ho;exact absurd rfl hd
  . exact⟨k,r,⟨o,ho,hd⟩,hr⟩
 obtain⟨hinv,hlive⟩:=zu8 (G':=zim G st.hp src) (hp':=zcg 0 es) hst.inv (fun k=>((src[k-20000]?).bind id).getD 0) (fun b h=>.inl h) (fun i l h=>h)
  (fun k o hk=>by
    obtain⟨i,hi,rfl,rfl⟩:=zc5.1 hk
    have hz:=hreg i (by omega)
    rw[show 20000+i=20000+(0+i) by omega]at hz
    rw[hz]
    have e:(src[20000+(0+i)-20000]?)=some src[i]:=by rw[show 20000+(0+i)-20000=i by omega];simp[show i<src.length by omega]
    rcases o2' i hi (by omega)with ⟨k',sh,els,h1,h2,h3⟩|⟨sh,h1,h3⟩
    . left
      rw[e,h1,h3]
      exact⟨h2,rfl,fun j hj=>by cases hj⟩
    . right
      rw[h1,h3]
      exact⟨sh,rfl,rfl⟩)
  (fun k hk=>by
    simp only[zim]
    split
    . rename_i h20
      split
      . rename_i s hs
        exfalso
        obtain⟨hi,rfl⟩:=List.getElem?_eq_some_iff.1 hs
        have hk20:k=20000+(0+(k-20000)):=by omega
        generalize k-20000=i at hk20 hi
        have hie:i<es.length:=by omega
        have:(zcg 0 es).get k=some es[i]:=zc5.2 ⟨i,hie,hk20,rfl⟩
        rw[hk]at this;cases this
      . rfl
    . rfl)
  (fun k k' b r r' ⟨o,ho,_⟩ ⟨o',ho',_⟩ hr hr' he=>by
    obtain⟨i,hi,rfl,rfl⟩:=zc5.1 ho
    obtain⟨i',hi',rfl,rfl⟩:=zc5.1 ho'
    rw[show 20000+(0+i)=20000+i by omega]at hr
    rw[show 20000+(0+i')=20000+i' by omega]at hr'
    have e:(src[20000+(0+i)-20000]?)=some src[i]:=by rw[show 20000+(0+i)-20000=i by omega];simp[show i<src.length by omega]
    have e':(src[20000+(0+i')-20000]?)=some src[i']:=by rw[show 20000+(0+i')-20000=i' by omega];simp[show i'<src.length by omega]
    simp only[e,e',wE,id]at he
    rcases o2' i hi (by omega)with ⟨k1,sh,els,h1,h2,h3⟩|⟨sh,h1,h3⟩
    . rcases o2' i' hi' (by omega)with ⟨k1',sh',els',h1',h2',h3'⟩|⟨sh',h1',h3'⟩
      . rw[h1,h1']at he
        simp only[wF]at he
        subst he
        rw[zps hn (by omega) (by omega) h1 h1']
      . exact(hr'.nil (by rw[hreg i' (by omega),h1'];rfl)).elim
    . exact(hr.nil (by rw[hreg i (by omega),h1];rfl)).elim)
  (fun b hb=>by
    rcases hb with hb|hb
    . exact(hst.inv.imm b hb).1
    . exact hst.inv.lt b (hlived b hb))
  (fun b hb k r hl hr hr' ⟨o,ho,_⟩=>by
    obtain⟨i,hi,rfl,rfl⟩:=zc5.1 ho
    have e:(src[20000+(0+i)-20000]?)=some src[i]:=by rw[show 20000+(0+i)-20000=i by omega];simp[show i<src.length by omega]
    rw[show 20000+(0+i)=20000+i by omega]at hr'
    simp only[e,wE,id]at hl hr
    rcases o2' i hi (by omega)with ⟨k1,sh,els,h1,h2,h3⟩|⟨sh,h1,h3⟩
    . rw[h1]at hl hr
      simp only[wF]at hl hr
      rcases hb with hb|⟨k2,r2,⟨o2,ho2,hd2⟩,hr2⟩
      . exact(hst.inv.imm b hb).2 ⟨k1,r,hl,hr⟩
      . rw[zfu]at ho2
        split at ho2
        . cases ho2;exact hd2 rfl
        . rename_i hnm
          have:=hst.inv.dist k1 k2 b r r2 hr hr2 hl ⟨o2,ho2,hd2⟩
          subst this
          exact hnm (wN.2 ⟨some k1,h1▸wI _,rfl⟩)
    . exact(hr'.nil (by rw[hreg i (by omega),h1];rfl)).elim)
 refine⟨hinv,hlive,?_⟩
 have hov:zd7 rs pks=src.filterMap id:=by rw[zjg,hsrc]
 refine zly (G':=zim G st.hp src) invd (fun b h=>.inl h) (fun b h=>.inr h) (fun i l h=>h) h (fun i hi=> ?_) vs hlen hv
 subst hsrc
 rw[wU]
 exact hreg i hi
end Go.Ev
namespace Go.Ev
open Go
variable {H H':Heap} {G G':Gh} {hp:Hp}
theorem zcx {ks:List Nat}(h:zds hp ks=true):∀k∈ks,hp.get k=some (getO hp k)/\∀j∈ze0 (getO hp k),j∈ks:=by
 intro k hk
 unfold zds at h
 rw[wR]at h
 have:=h k hk
 rw[wS]at this
 cases ho:hp.get k with
 | none=>rw[ho]at this;cases this.1
 | some o =>
   rw[ho]at this
   refine⟨by unfold getO;rw[ho];rfl,fun j hj=> ?_⟩
   unfold getO at hj;rw[ho]at hj
   have h2:=this.2
   simp only[zm1,wR,List.contains_iff_mem]at h2
   exact h2 j hj
theorem zf8 :∀{ks:List Nat} {k:Nat},k∈ks->idx ks k<ks.length/\ks.getD (idx ks k) 0=k
 | a::l,k,h=>by
   rw[idx]
   split
   . rename_i e;exact⟨by simp,by simp[e]⟩
   . rename_i e
     rcases wO.1 h with rfl|h
     . exact absurd rfl e
     . obtain⟨h1,h2⟩:=zf8 h
       exact⟨by simpa using h1,by simpa using h2⟩
theorem zgt :∀{ks:List Nat},ks.Nodup->∀{i:Nat},i<ks.length->idx ks (ks.getD i 0)=i
 | a::l,hn,0,_=>by simp[idx]
 | a::l,hn,i+1,hi=>by
   rw[wL]at hn
   have hi':i<l.length:=by simpa using hi
   have e:(a::l).getD (i+1) 0=l.getD i 0:=rfl
   have hm:l.getD i 0∈l:=by rw[wJ,wK hi'];exact wI hi'
   have hne:¬a=l.getD i 0:=fun h=>hn.1 (by rw[h];exact hm)
   rw[e,idx,if_neg hne,zgt hn.2 hi']
variable {ks :List Nat}
theorem qdh {a b:Nat}(ha:a∈ks)(hb:b∈ks)(h:up ks a=up ks b):a=b:=by
 have e:idx ks a=idx ks b:=wV h
 rw[<-(zf8 ha).2,e,(zf8 hb).2]
theorem z3g (k:Nat):SHK<=up ks k:=Nat.le_add_right _ _
theorem zyx (k:Nat):up ks k-SHK=idx ks k:=wT _ _
theorem zue {all:List Nat}:∀{ks:List Nat} {q:Nat} {o:OB},(upHp hp all ks).get q=some o->∃k∈ks,q=up all k/\o=rOB (up all) (getO hp k):=by
 intro ks
 induction ks with
 | nil=>intro q o h;cases h
 | cons k ks ih =>
   intro q o h
   rw[upHp,Hp.get_cons]at h
   by_cases hk:up all k=q
   . simp only[hk,if_true,wA]at h
     exact⟨k,by simp,hk.symm,h.symm⟩
   . simp only[hk,if_false]at h
     obtain⟨j,hj,e⟩:=ih h
     exact⟨j,by simp[hj],e⟩
theorem zog {all:List Nat}{k:Nat}(hk:k∈all):∀{ks:List Nat},(∀j∈ks,j∈all)->k∈ks->(upHp hp all ks).get (up all k)=some (rOB (up all) (getO hp k)):=by
 intro ks
 induction ks with
 | nil=>intro _ h;cases h
 | cons j ks ih =>
   intro ha h
   rw[upHp,Hp.get_cons]
   by_cases hj:up all j=up all k
   . rw[if_pos hj,qdh (ha j (by simp)) hk hj]
   . rw[if_neg hj]
     rcases wO.1 h with rfl|h
     . exact absurd rfl hj
     . exact ih (fun i hi=>ha i (by simp[hi])) h
open Classical in
noncomputable def upGh (G:Gh)(ks:List Nat):Gh:={imm:=G.imm,yl:=G.yl,reg:=fun q=>if ∃k∈ks,q=up ks k then G.reg (ks.getD (q-SHK) 0)else none}
theorem zg3 {k:Nat}(h:k∈ks):(upGh G ks).reg (up ks k)=G.reg k:=by
 simp only[upGh]
 rw[if_pos ⟨k,h,rfl⟩,zyx,(zf8 h).2]
theorem zk6 {q:Nat}{r:Rg}(h:(upGh G ks).reg q=some r):∃k∈ks,q=up ks k/\G.reg k=some r:=by
 simp only[upGh]at h
 split at h
 . rename_i hk
   obtain⟨k,hk,e⟩:=hk
   refine⟨k,hk,e,?_⟩
   rw[e,zyx,(zf8 hk).2]at h;exact h
 . cases h
theorem zyy {q b:Nat}{r:Sh}(h:(upGh G ks).At q b r):∃k∈ks,q=up ks k/\G.At k b r:=by
 obtain⟨x,hx,hat⟩:=h
 obtain⟨k,hk,e,h⟩:=zk6 hx
 exact⟨k,hk,e,x,h,hat⟩
theorem zof (hc:zds hp ks=true){b:Nat}(h:Live (upGh G ks) (upHp hp ks ks) b):∃k∈ks,zbk hp k/\∃r,G.At k b r:=by
 obtain⟨q,r,⟨o,ho,hd⟩,hr⟩:=h
 obtain⟨k,hk,rfl,rfl⟩:=zue ho
 rw[Gh.at_congr (zg3 hk)]at hr
 exact⟨k,hk,⟨_,(zcx hc k hk).1,zhc hd⟩,r,hr⟩
theorem zqi (inv:Inv H G hp)(hc:zds hp ks=true):Inv H (upGh G ks) (upHp hp ks ks) where
 obs q o h:=by
  obtain⟨k,hk,rfl,rfl⟩:=zue h
  have ⟨h1,h2⟩:=zcx hc k hk
  exact ziq (inv.obs k _ h1) (zg3 hk) (fun _ h=>h) (fun _ _ h=>h) fun j hj=>zg3 (h2 j hj)
 out q h:=by
  cases hr:(upGh G ks).reg q with
  | none=>rfl
  | some r =>
    obtain⟨k,hk,rfl,_⟩:=zk6 hr
    rw[zog hk (fun _ h=>h) hk]at h;cases h
 dist q q' b r r' h h' hl hl':=by
  obtain⟨k,hk,rfl,h1⟩:=zyy h
  obtain⟨k',hk',rfl,h1'⟩:=zyy h'
  have live:∀k∈ks,zbk (upHp hp ks ks) (up ks k)->zbk hp k:=by
   rintro k hk ⟨o,ho,hd⟩
   rw[zog hk (fun _ h=>h) hk]at ho;cases ho
   exact⟨_,(zcx hc k hk).1,zhc hd⟩
  rw[inv.dist k k' b r r' h1 h1' (live k hk hl) (live k' hk' hl')]
 imm b hb:=⟨(inv.imm b hb).1,fun hl=>by
  obtain⟨k,_,h1,r,h2⟩:=zof hc hl
  exact(inv.imm b hb).2 ⟨k,r,h1,h2⟩⟩
 lt b hb:=by
  obtain⟨k,_,h1,r,h2⟩:=zof hc hb
  exact inv.lt b ⟨k,r,h1,h2⟩
theorem zm7 {v:Value}{x:AV}(h:RepV H G v x)(hk:∀k∈x.refs,k∈ks):RepV H (upGh G ks) v (rA (up ks) x) :=
 h.renA (.inr fun _ h=>h) (fun _ _ h=>h) fun k hk'=>zg3 (hk k hk')
noncomputable def zkh (ks:List Nat)(G G':Gh)(d m:Nat):Gh :=
 {imm:=G'.imm
  yl:=G'.yl
  reg:=fun k=>if k∈ks then G'.reg (up ks k)else match G.reg k with
   | some r=>some r
   | none=>if d<=k/\(k-d)%1000=0/\(k-d)/1000<m then G'.reg (20000+(k-d)/1000)else none}
theorem zyo {d m i:Nat}(hk:d+1000*i∉ks)(h:G.reg (d+1000*i)=none)(hi:i<m):(zkh ks G G' d m).reg (d+1000*i)=G'.reg (20000+i):=by
 simp only[zkh,h,hk,if_false]
 have e:d+1000*i-d=1000*i:=by omega
 rw[e,if_pos ⟨by omega,by omega,by omega⟩]
 congr 1
 omega
theorem zjx {d m k:Nat}{r:Rg}(hk:k∉ks)(h:G.reg k=some r):(zkh ks G G' d m).reg k=some r:=by simp[zkh,h,hk]
theorem zr8 {d m k:Nat}(hk:k∈ks):(zkh ks G G' d m).reg k=G'.reg (up ks k):=by simp[zkh,hk]
theorem zu4 {d:Nat}:∀{es:List OB} {j:Nat} {us:Hp},layG hp ks d j es=some us->(∀k o,us.get k=some o↔∃i,∃h:i<es.length,k=d+1000*(j+i)/\rOB (dn ks d) es[i]=o) /\
  ∀i,i<es.length->d+1000*(j+i)<SHK
 | [],j,us,h=>by
   simp only[layG,wA]at h
   subst h
   exact⟨fun k o=>by simp[Hp.get],fun i hi=>by simp at hi⟩
 | e::es,j,us,h=>by
   simp only[layG]at h
   rw[wB,wS,decide_eq_true_eq]at h
   obtain⟨⟨_,hlt⟩,h⟩:=h
   simp only[wC]at h
   obtain⟨r,hr,rfl⟩:=h
   obtain⟨g1,g2⟩:=zu4 hr
   refine⟨fun k o=> ?_,fun i hi=> ?_⟩
   . rw[Hp.get_cons]
     by_cases hk:d+1000*j=k
     . simp only[hk,if_true,wA]
       constructor
       . intro he;exact⟨0,by simp,by omega,he⟩
       . rintro ⟨i,hi,hk',he⟩
         have:i=0:=by omega
         subst this;exact he
     . simp only[hk,if_false]
       rw[g1]
       constructor
       . rintro ⟨i,hi,hk',he⟩;exact⟨i+1,by simpa using hi,by omega,by simpa using he⟩
       . rintro ⟨i,hi,hk',he⟩
         cases i with
         | zero=>exact absurd (by omega) hk
         | succ i=>exact⟨i,by simpa using hi,by omega,by simpa using he⟩
   . cases i with
     | zero=>simpa using hlt
     | succ i=>have:=g2 i (by simpa using hi);omega
theorem zj1 :∀{hp':Hp} {i n:Nat},zbs hp' i n=true->∀q,(∃o,hp'.get q=some o)↔∃j,j<n/\q=SHK+(i+j)
 | [],i,0,_,q=>by simp[Hp.get]
 | (p,o)::r,i,n+1,h,q=>by
   simp only[zbs,wS,decide_eq_true_eq]at h
   obtain⟨e,h⟩:=h
   rw[Hp.get_cons]
   by_cases hk:p=q
   . rw[if_pos hk];exact⟨fun _=>⟨0,by omega,by rw[<-hk,e];rfl⟩,fun _=>⟨o,rfl⟩⟩
   . rw[if_neg hk,zj1 h q]
     constructor
     . rintro ⟨j,hj,e'⟩;exact⟨j+1,by omega,by rw[e'];omega⟩
     . rintro ⟨j,hj,e'⟩
       cases j with
       | zero=>exact absurd (e.trans e'.symm) hk
       | succ j=>exact⟨j,by omega,by rw[e'];omega⟩
 | [],_,_+1,h,_=>by simp[zbs]at h
 | _::_,_,0,h,_=>by simp[zbs]at h
theorem zf0 {hp':Hp}(h:zbs hp' 0 ks.length=true)(hn:ks.Nodup)(q:Nat):(∃o,hp'.get q=some o)↔∃k∈ks,q=up ks k:=by
 rw[zj1 h]
 constructor
 . rintro ⟨j,hj,e⟩
   refine⟨ks.getD j 0,?_,?_⟩
   . rw[wJ,wK hj];exact wI hj
   . unfold up;rw[zgt hn hj,e,wU]
 . rintro ⟨k,hk,e⟩;exact⟨idx ks k,(zf8 hk).1,by rw[e,wU];rfl⟩
theorem zr7 {d:Nat}(hn:ks.Nodup):∀{hp':Hp} {i n:Nat},zbs hp' i n=true->i+n=ks.length->∀k,k∈ks->i<=idx ks k->(zdm ks d hp').get k=(hp'.get (up ks k)).map (rOB (dn ks d))
 | [],i,0,_,hl,k,hk,hi=>rfl
 | (q,o)::r,i,n+1,h,hl,k,hk,hi=>by
   simp only[zbs,wS,decide_eq_true_eq]at h
   obtain⟨e,h⟩:=h
   have eq:q-SHK=i:=by rw[e];exact wT _ _
   rw[zdm,Hp.get_cons,Hp.get_cons,eq]
   by_cases hki:idx ks k=i
   . rw[if_pos (by rw[<-hki];exact(zf8 hk).2),if_pos (by rw[e,<-hki];rfl)];rfl
   . rw[if_neg fun e'=>hki (by rw[<-e'];exact zgt hn (by omega)),if_neg fun e'=>hki (by have:=e.symm.trans e';exact(wV this).symm)]
     exact zr7 hn h (by omega) k hk (by omega)
 | [],_,_+1,h,_,_,_,_=>by simp[zbs]at h
 | _::_,_,0,h,_,_,_,_=>by simp[zbs]at h
theorem zyn {d:Nat}{hp':Hp}(h:zbs hp' 0 ks.length=true)(hn:ks.Nodup){k:Nat}(hk:k∈ks):(zdm ks d hp').get k=(hp'.get (up ks k)).map (rOB (dn ks d)) :=
 zr7 hn h (by omega) k hk (Nat.zero_le _)
theorem zt6 {d:Nat}{hp':Hp}(h:zbs hp' 0 ks.length=true){k:Nat}(hk:k∉ks):(zdm ks d hp').get k=none:=by
 refine Hp.get_none fun o ho=> ?_
 obtain⟨q,o',h1,h2,_⟩:=zfw ho
 obtain⟨j,hj,e⟩:=zdy h q o' h1
 have e3:q-SHK=j:=by rw[e,wU];exact wT SHK j
 rw[e3,wJ,wK hj]at h2
 exact hk (by rw[h2];exact wI hj)
theorem z69 {d k:Nat}(h:k∈ks):dn ks d (up ks k)=k:=by unfold dn;rw[if_pos (z3g k),zyx,(zf8 h).2]
theorem zvr {d i:Nat}(h:20000+i<SHK):dn ks d (20000+i)=d+1000*i:=by
 unfold dn
 rw[if_neg (by omega),show 20000+i-20000=i by omega]
theorem zhi {es:List OB}{k:Nat}{o:OB}:(zcg 0 es).get k=some o↔∃i,∃h:i<es.length,k=20000+i/\es[i]=o:=by
 rw[zc5]
 constructor
 . rintro ⟨i,hi,hk,he⟩;exact⟨i,hi,by omega,he⟩
 . rintro ⟨i,hi,hk,he⟩;exact⟨i,hi,by omega,he⟩
theorem zg2 (inv:Inv H G hp)(hn:ks.Nodup)(hc:zds hp ks=true){d:Nat}{hp' us':Hp}{es:List OB}{v:Value}{r:AV}
  (m:Move H (upGh G ks) (upHp hp ks ks) H' G' (hp'++zcg 0 es)) (hand:ks≠[]->∀q,SHK<=q->∀r,G'.reg q=some r->∃r0,(upGh G ks).reg q=some r0/\r0.le r) (hs:zbs hp' 0 ks.length=true)
  (hl:layG hp ks d 0 es=some us') (hv:RepT H' G' v r):∃G2,Step H G hp H' G2 ((zdm ks d hp'++us')++hp)/\RepT H' G2 v (rA (dn ks d) r):=by
 obtain⟨hget,hlt⟩:=zu4 hl
 simp only[wU]at hget hlt
 have hfresh:=(zfn (hp':=hp) hl fun _ _ _ h=>h).2
 have hnone:∀i,i<es.length->hp.get (d+1000*i)=none:=fun i hi=>hfresh _ _ (Hp.get_mem ((hget (d+1000*i) _).2 ⟨i,hi,rfl,rfl⟩))
 have hregn:∀i,i<es.length->G.reg (d+1000*i)=none:=fun i hi=>inv.out _ (hnone i hi)
 have hnk:∀i,i<es.length->d+1000*i∉ks:=fun i hi hk=>by have:=(zcx hc _ hk).1;rw[hnone i hi]at this;cases this
 have h20:∀i,i<es.length->20000+i<SHK:=fun i hi=>by
  have:=hlt i hi
  unfold SHK at *
  omega
 have hkey:∀q o,(hp'++zcg 0 es).get q=some o->(∃k∈ks,q=up ks k/\hp'.get (up ks k)=some o)\/(∃i,∃h:i<es.length,q=20000+i/\es[i]=o/\hp'.get q=none):=fun q o h=>by
  rw[Hp.get_append]at h
  cases h1:hp'.get q with
  | some o' =>
    rw[h1]at h
    obtain⟨k,hk,e⟩:=(zf0 hs hn q).1 ⟨o',h1⟩
    exact .inl ⟨k,hk,e,by rw[<-e,h1,<-h]⟩
  | none =>
    rw[h1]at h
    obtain⟨i,hi,e,e2⟩:=zhi.1 h
    exact .inr ⟨i,hi,e,e2,rfl⟩
 let G2:=zkh ks G G' d es.length
 have hreg:∀q,(∃r,G'.reg q=some r)->G2.reg (dn ks d q)=G'.reg q:=by
  rintro q ⟨rr,hr⟩
  obtain⟨o,ho⟩:=m.inv.reg_get hr
  rcases hkey q o ho with ⟨k,hk,rfl,_⟩|⟨i,hi,rfl,_,_⟩
  . rw[z69 hk]
    exact zr8 hk
  . rw[zvr (h20 i hi)]
    exact zyo (hnk i hi) (hregn i hi) hi
 have hobref:∀q o,(hp'++zcg 0 es).get q=some o->∀j∈ze0 o,G2.reg (dn ks d j)=G'.reg j:=fun q o ho j hj=>hreg j (m.inv.ob_refs ho j hj)
 have hle:Le H G H' G2:=⟨fun b hb=>m.imm b hb,fun k rr h=>by
  by_cases hk:k∈ks
  . obtain⟨o,ho⟩:=(zf0 hs hn (up ks k)).2 ⟨k,hk,rfl⟩
    obtain⟨r1,hr1⟩:=m.inv.get_reg (show(hp'++zcg 0 es).get (up ks k)=some o by rw[Hp.get_append,ho])
    obtain⟨r0,h0,hle⟩:=hand (fun e=>by rw[e]at hk;cases hk) _ (z3g k) r1 hr1
    rw[zg3 hk,h]at h0
    cases h0
    exact⟨r1,(zr8 hk).trans hr1,hle⟩
  . exact⟨rr,zjx hk h,Rg.le_refl rr⟩,fun i l h=>m.yl i l h⟩
 have hcase:∀k o,((zdm ks d hp'++us')++hp).get k=some o->(k∈ks/\∃o',hp'.get (up ks k)=some o'/\o=rOB (dn ks d) o')\/(∃i,∃h:i<es.length,k=d+1000*i/\rOB (dn ks d) es[i]=o/\hp'.get (20000+i)=none)\/(k∉ks/\hp.get k=some o):=fun k o h=>by
  rw[Hp.get_append,Hp.get_append]at h
  by_cases hkk:k∈ks
  . rw[zyn hs hn hkk]at h
    obtain⟨o',ho'⟩:=(zf0 hs hn (up ks k)).2 ⟨k,hkk,rfl⟩
    rw[ho']at h
    exact .inl ⟨hkk,o',ho',by simpa using h.symm⟩
  . rw[zt6 hs hkk]at h
    have hnk:=hkk
    cases h2:us'.get k with
    | some o' =>
      rw[h2]at h
      obtain⟨i,hi,e,e2⟩:=(hget k o').1 h2
      refine .inr (.inl ⟨i,hi,e,by rw[e2];simpa using h,?_⟩)
      cases h3:hp'.get (20000+i)with
      | none=>rfl
      | some o3 =>
        obtain⟨k3,_,e3⟩:=(zf0 hs hn (20000+i)).1 ⟨o3,h3⟩
        have:=z3g (ks:=ks) k3
        have:=h20 i hi
        omega
    | none=>rw[h2]at h;exact .inr (.inr ⟨hnk,h⟩)
 have hin:∀q o,hp'.get q=some o->(hp'++zcg 0 es).get q=some o:=fun q o h=>by rw[Hp.get_append,h]
 have hin2:∀i (h:i<es.length),hp'.get (20000+i)=none->(hp'++zcg 0 es).get (20000+i)=some es[i]:=fun i h hn=>by
  rw[Hp.get_append,hn];exact zhi.2 ⟨i,h,rfl,rfl⟩
 have hregk:∀q o,(hp'++zcg 0 es).get q=some o->∃r,G'.reg q=some r:=fun q o ho=>by
  have:=m.inv.obs q o ho
  cases o with
  | fix sh a=>obtain⟨b,_,_,_,h,_⟩:=this;exact⟨_,h⟩
  | grow sh els =>
    rcases this with ⟨_,h⟩|⟨_,_,_,_,_,h,_⟩
    . exact⟨_,h⟩
    . exact⟨_,h⟩
  | dead=>obtain⟨r,h⟩:=this;exact⟨_,h⟩
  | lp _ _ _=>obtain⟨_,_,_,h,_⟩:=this;exact⟨_,h⟩
 have hlcase:∀k b rr,zbk ((zdm ks d hp'++us')++hp) k->G2.At k b rr->(∃q,k=dn ks d q/\zbk (hp'++zcg 0 es) q/\G'.At q b rr)\/(k∉ks/\zbk hp k/\G.At k b rr):=by
  rintro k b rr ⟨o,ho,hd⟩ hr
  rcases hcase k o ho with ⟨hk,o',ho',rfl⟩|⟨i,hi,rfl,rfl,hn⟩|⟨hk,ho⟩
  . left
    refine⟨up ks k,(z69 hk).symm,⟨o',hin _ _ ho',zhc hd⟩,?_⟩
    refine(Gh.at_congr (G':=G2) (k':=k) ?_).2 hr
    rw[<-hreg (up ks k) (hregk _ _ (hin _ _ ho')),z69 hk]
  . left
    refine⟨20000+i,(zvr (h20 i hi)).symm,⟨es[i],hin2 i hi hn,zhc hd⟩,?_⟩
    refine(Gh.at_congr (G':=G2) (k':=d+1000*i) ?_).2 hr
    rw[<-hreg _ (hregk _ _ (hin2 i hi hn)),zvr (h20 i hi)]
  . right
    refine⟨hk,⟨o,ho,hd⟩,?_⟩
    have:=inv.obs k o ho
    have hex:∃r,G.reg k=some r:=by
     cases o with
     | fix sh a=>obtain⟨b,_,_,_,h,_⟩:=this;exact⟨_,h⟩
     | grow sh els =>
       rcases this with ⟨_,h⟩|⟨_,_,_,_,_,h,_⟩
       . exact⟨_,h⟩
       . exact⟨_,h⟩
     | dead=>obtain⟨r,h⟩:=this;exact⟨_,h⟩
     | lp _ _ _=>obtain⟨_,_,_,h,_⟩:=this;exact⟨_,h⟩
    obtain⟨r',hr'⟩:=hex
    exact(Gh.at_congr (hr'.trans (show G2.reg k=some r' from zjx hk hr').symm)).2 hr
 have hfar:∀k b rr,k∉ks->zbk hp k->G.At k b rr->¬Live (upGh G ks) (upHp hp ks ks) b/\b<H.size:=fun k b rr hk hl hr=>by
  refine⟨fun h=> ?_,inv.lt b ⟨k,rr,hl,hr⟩⟩
  obtain⟨k0,hk0,hl0,r0,hr0⟩:=zof hc h
  rw[inv.dist k k0 b rr r0 hr hr0 hl hl0]at hk
  exact hk hk0
 have hupL:∀b,Live (upGh G ks) (upHp hp ks ks) b->Live G hp b:=fun b h=>by
  obtain⟨k,_,h1,r,h2⟩:=zof hc h
  exact⟨k,r,h1,h2⟩
 have hL:∀b,Live G2 ((zdm ks d hp'++us')++hp) b->Live G hp b\/H.size<=b:=by
  rintro b ⟨k,rr,hl,hr⟩
  rcases hlcase k b rr hl hr with ⟨q,_,h1,h2⟩|⟨_,h1,h2⟩
  . exact(m.live b ⟨q,rr,h1,h2⟩).imp (hupL b) id
  . exact .inl ⟨k,rr,h1,h2⟩
 refine⟨G2,⟨⟨?_,?_,?_,?_,?_⟩,hle,m.size,fun b hb hn=>m.same b hb fun h=>hn (hupL b h),hL,fun b hb=> ?_⟩,?_⟩
 . intro k o hk
   rcases hcase k o hk with ⟨hkm,o',ho',rfl⟩|⟨i,hi,rfl,rfl,hn⟩|⟨hk,ho⟩
   . refine ziq (m.inv.obs _ _ (hin _ _ ho')) ?_ (fun _ h=>h) (fun _ _ h=>h) (hobref _ _ (hin _ _ ho'))
     rw[<-hreg (up ks k) (hregk _ _ (hin _ _ ho')),z69 hkm]
   . refine ziq (m.inv.obs _ _ (hin2 i hi hn)) ?_ (fun _ h=>h) (fun _ _ h=>h) (hobref _ _ (hin2 i hi hn))
     rw[<-hreg _ (hregk _ _ (hin2 i hi hn)),zvr (h20 i hi)]
   . refine ObOk.mono hle (fun hl b rr hr=> ?_) (fun _ h=>zjx hk h) ho (inv.obs k o ho)
     obtain⟨h1,h2⟩:=hfar k b rr hk hl hr
     exact m.same b h2 h1
 . intro k hk
   rw[Hp.get_append,Hp.get_append]at hk
   have h1:hp.get k=none:=by
    cases h:hp.get k with
    | none=>rfl
    | some o=>rw[h]at hk;cases h2:(zdm ks d hp').get k<;>rw[h2]at hk<;>first|(cases h3:us'.get k<;>rw[h3]at hk<;>cases hk;done)|cases hk
   have h2:us'.get k=none:=by
    cases h:us'.get k with
    | none=>rfl
    | some o=>rw[h]at hk;cases h2:(zdm ks d hp').get k<;>rw[h2]at hk<;>cases hk
   have h3:=inv.out k h1
   have hkk:k∉ks:=fun hk=>by have:=(zcx hc _ hk).1;rw[h1]at this;cases this
   simp only[G2,zkh,h3,hkk,if_false]
   rw[if_neg]
   rintro ⟨h4,h5,h6⟩
   have hk':k=d+1000*((k-d)/1000):=by omega
   have:=(hget k _).2 ⟨(k-d)/1000,h6,hk',rfl⟩
   rw[h2]at this;cases this
 . intro k k' b rr rr' hr hr' hl hl'
   rcases hlcase k b rr hl hr with ⟨q,e,h1,h2⟩|⟨hk,h1,h2⟩
   . rcases hlcase k' b rr' hl' hr' with ⟨q',e',h1',h2'⟩|⟨hk',h1',h2'⟩
     . rw[e,e',m.inv.dist q q' b rr rr' h2 h2' h1 h1']
     . obtain⟨g1,g2⟩:=hfar k' b rr' hk' h1' h2'
       rcases m.live b ⟨q,rr,h1,h2⟩with h|h
       . exact absurd h g1
       . omega
   . rcases hlcase k' b rr' hl' hr' with ⟨q',e',h1',h2'⟩|⟨hk',h1',h2'⟩
     . obtain⟨g1,g2⟩:=hfar k b rr hk h1 h2
       rcases m.live b ⟨q',rr',h1',h2'⟩with h|h
       . exact absurd h g1
       . omega
     . exact inv.dist k k' b rr rr' h2 h2' h1 h1'
 . intro b hb
   refine⟨(m.inv.imm b hb).1,?_⟩
   rintro ⟨k,rr,hl,hr⟩
   rcases hlcase k b rr hl hr with ⟨q,_,h1,h2⟩|⟨hk,h1,h2⟩
   . exact(m.inv.imm b hb).2 ⟨q,rr,h1,h2⟩
   . obtain⟨g1,g2⟩:=hfar k b rr hk h1 h2
     rcases m.immNew b hb with h|h|h
     . exact(inv.imm b h).2 ⟨k,rr,h1,h2⟩
     . omega
     . exact g1 h
 . rintro b ⟨k,rr,hl,hr⟩
   rcases hlcase k b rr hl hr with ⟨q,_,h1,h2⟩|⟨hk,h1,h2⟩
   . exact m.inv.lt b ⟨q,rr,h1,h2⟩
   . exact Nat.lt_of_lt_of_le (inv.lt b ⟨k,rr,h1,h2⟩) m.size
 . rcases m.immNew b hb with h|h|h
   . exact .inl h
   . exact .inr (.inl h)
   . exact .inr (.inr (hupL b h))
 . exact hv.renA (.inr fun _ h=>h) (fun _ _ h=>h) fun k hk=>hreg k (hv.known_refs k hk)
end Go.Ev
