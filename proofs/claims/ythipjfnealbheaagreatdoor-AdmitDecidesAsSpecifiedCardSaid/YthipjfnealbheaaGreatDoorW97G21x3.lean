/-
  Chapter 17: an object is taken in. No condition.
-/
import Derived.Test.YthipjfnealbheaaGreatDoorW97G20x3
import Derived.Test.YthipjfnealbheaaGreatDoorW97G12x3
set_option linter.all false
open Nat renaming exists_eq_add_of_le'->wB,le_refl->wC
namespace Go.Proofs.S97
open Go Go.Ev Go.Proofs Go.Proofs.S97.Q
variable {gl :Gl} {n:Nat}
theorem ztb {l:List A3}(hv:VA l){k:Nat}:∀{i:Nat},i<=l.length->k<i->(aat l k).u<=sumU l i
 | 0,_,h=>absurd h (Nat.not_lt_zero _)
 | i+1,hi,h=>by
   have h1:=(hv.ok i (by omega)).u
   have h2:=zcb hv (show i<=l.length by omega)
   rw[sumU]
   by_cases e:k=i
   . subst e;omega
   . have:=ztb hv (k:=k) (show i<=l.length by omega) (by omega);omega
theorem zj2 :∀(l:List Ob),zcz (nms l)=true
 | []=>rfl
 | o::l=>by
   show(zc5 (.str o.nm)&&zcz (nms l))=true
   rw[zj2 l];rfl
theorem z41 (hn:16<=n){S:Sf}{h:Ob}{fh fl:Bool}{mh:Sh}(hv:VSf S)(hmh:Mk S.H mh sO){v:Vt}
  (hc:zq1 (call gl tab (n-1)) S h fh fl mh=if vEnd h v=0 then(if v.b=true then rOkB fh fl mh v else rOkA fh fl mh S)else(if v.b=true then rErB fh fl mh v (vEnd h v)else rErA fh fl mh S (vEnd h v))) (he:vEnd h v≠0) :
  call gl tab n 8 [sfV S (qq fh fl mh),oV h] []=some (.tup [sfV S (qq fh fl mh),.lst true .sc [],i64 (vEnd h v)],[],[]):=by
 obtain⟨d,rfl⟩:=wB hn
 rw[show d+16-1=d+15 from rfl,if_neg he]at hc
 unfold zq1 at hc
 have c1:=@zjm gl (d+15) (by omega) S (qq fh fl mh) ⟨.inr rfl,hmh⟩ hv.va
 have hne:(vEnd h v != 0)=true:=by simpa using he
 generalize vEnd h v=e at *
 rw[zaf (fd:=fd8) rfl]
 cases hb:v.b with
 | true =>
   rw[hb,if_pos rfl,rErB]at hc
   simp(disch:=apply zq;omega) only[go_sem,simprocAttr,↓Nat.reduceEqDiff,xx,fd8,m8,c1,hc,hne]
 | false =>
   rw[hb,if_neg (by decide),rErA]at hc
   simp(disch:=apply zq;omega) only[go_sem,simprocAttr,↓Nat.reduceEqDiff,xx,fd8,m8,c1,hc,hne]
theorem zqv (hn:16<=n){S:Sf}{h:Ob}{fh fl:Bool}{mh:Sh}(hv:VSf S)(hmh:Mk S.H mh sO)(hr:ROk h){v:Vt}(hi:IV h v)(hb0:v.b=false->v=v0 S)
  (hc:zq1 (call gl tab (n-1)) S h fh fl mh=if vEnd h v=0 then(if v.b=true then rOkB fh fl mh v else rOkA fh fl mh S)else(if v.b=true then rErB fh fl mh v (vEnd h v)else rErA fh fl mh S (vEnd h v))) (he:vEnd h v=0) :
  ∃k,Pn v.S.H h.nm k/\call gl tab n 8 [sfV S (qq fh fl mh),oV h] []=some (.tup [sfV (adm v.S h k (idxT v.S.A h.tn)) (qq false fl sO),.lst false .sc (nms v.o),i64 0],[],[]):=by
 obtain⟨d,rfl⟩:=wB hn
 rw[show d+16-1=d+15 from rfl,if_pos he]at hc
 unfold zq1 at hc
 have c1:=@zjm gl (d+15) (by omega) S (qq fh fl mh) ⟨.inr rfl,hmh⟩ hv.va
 have hf:¬v.S.c<tot v.S+h.sz:=fun h1=>by rw[vEnd,if_pos h1]at he;cases he
 obtain⟨g1,g2⟩:=zic hi.hv.va hi.ha
 have hge:=ztb hi.hv.va (k:=idxT v.S.A h.tn) (wC _) g1
 have hu:=(hi.hv.va.ok _ g1).u
 have hcc:=hi.hv.c
 have hsz:=hr.sz
 have hu2:uerr v.S.A (idxT v.S.A h.tn) h.sz true=0:=by
  rw[uerr,if_pos rfl,if_neg]
  have hf':¬v.S.c<sumU v.S.A v.S.A.length+h.sz:=hf
  omega
 have hq:I64 h.tn:=by rw[<-g2];have:=hi.ht _ g1;have:=zer hi.hv.va g1;exact⟨by omega,by omega⟩
 have c3:=@zs6 gl (d+15) (by omega) v.S.A hi.hv.va hi.ht h.tn h.sz hq _ g1 g2 hu2
 have hH:=hi.hv.hn
 have hol:=hi.ol
 have c4:=@zi7 gl (d+15) (by omega) false sO v.o (.inr rfl) (by omega)
 have hno:=ze3 v.o
 have hno2:=zj2 v.o
 have hnh:=ze3 v.S.H
 have htk:=zye v.S.H [oV0]
 have htko:=zgk v.o
 cases hb:v.b with
 | true =>
   rw[hb,if_pos rfl,rOkB]at hc
   obtain⟨k,hp,c5⟩:=@zih gl (d+15) (by omega) false sO v.S.H (.inr rfl) (by omega) (zd1 hi.hv.ho) h.nm
   have c6:=fun f=>@zso gl (d+15) (by omega) f sO v.S.H (.inr rfl) (by omega)
   have c7:=@z2s gl (d+15) (by omega) v.S.H (by omega) k hp.le h
   have e1:=ze0 hp.le h
   have e2:=zgk (insO v.S.H k h)
   rw[e1]at e2
   have e3:(nms v.o).take v.o.length=nms v.o:=by rw[<-zbj];exact List.take_length
   refine⟨k,hp,?_⟩
   rw[zaf (fd:=fd8) rfl]
   simp(disch:=apply zq;omega) only[go_sem,simprocAttr,↓Nat.reduceEqDiff,xx,fd8,m8,c1,hc,c5,c6,c7,c3,c4,zaa,hno,hno2,hnh,htk,htko,e1,e2,e3,zbj]
   rfl
 | false =>
   rw[hb,if_neg (by decide),rOkA]at hc
   have hv0:=hb0 hb
   have eS:v.S=S:=by rw[hv0];rfl
   have eo:v.o=[]:=by rw[hv0];rfl
   clear hv0 hb0
   rw[eS]at c3 hf hH
   rw[eS,eo]
   rw[eo]at c4
   have hsr:Srt S.H:=zd1 hv.ho
   obtain⟨k,hp,c5⟩:=@zih gl (d+15) (by omega) fh mh S.H hmh (by omega) hsr h.nm
   have c6:=fun f=>@zso gl (d+15) (by omega) f mh S.H hmh (by omega)
   have c7:=@z2s gl (d+15) (by omega) S.H (by omega) k hp.le h
   have e1:=ze0 hp.le h
   have e2:=zgk (insO S.H k h)
   rw[e1]at e2
   have e4:nms []=[]:=rfl
   rw[zc6,e4]at c4
   refine⟨k,hp,?_⟩
   rw[zaf (fd:=fd8) rfl]
   simp(disch:=apply zq;omega) only[go_sem,simprocAttr,↓Nat.reduceEqDiff,xx,fd8,m8,c1,hc,c5,c6,c7,c3,c4,zaa,e1,e2,e4]
   rfl
end Go.Proofs.S97
namespace Go.Proofs.S97
open Go Go.Ev Go.Proofs Go.Proofs.S97.Q
variable {gl :Gl} {n:Nat}
theorem z08 (hn:16<=n){S:Sf}{x:List UInt8}{fh fl:Bool}{mh:Sh}(hv:VSf S)(hmh:Mk S.H mh sO)(hx:¬hasN S x) :
  call gl tab n 14 [sfV S (qq fh fl mh),.str x] []=some (.tup [sfV S (qq fh fl mh),i64 5],[],[]):=by
 obtain⟨d,rfl⟩:=wB hn
 have hH:=hv.hn
 obtain⟨k,hp,c1⟩:=@zih gl (d+15) (by omega) fh mh S.H hmh (by omega) (zd1 hv.ho) x
 have e1:isAt S.H x k=false:=by
  cases hb:isAt S.H x k with
  | false=>rfl
  | true=>exact absurd ((zp3 (zd1 hv.ho) hp).1 hb) hx
 rw[e1]at c1
 rw[zaf (fd:=fd14) rfl]
 simp(disch:=apply zq;omega) only[go_sem,simprocAttr,↓Nat.reduceEqDiff,xx,fd14,m14,c1]
end Go.Proofs.S97
namespace Go.Proofs.S97
open Go Go.Ev Go.Proofs Go.Proofs.S97.Q
theorem zpq {l:List Ob}{k:Nat}(hk:k<=l.length)(o:Ob)(i:Nat):oat (insO l k o) i=if i<k then oat l i else if i=k then o else oat l (i-1):=by
 unfold oat insO
 simp only[List.getD_eq_getElem?_getD]
 by_cases h1:i<k
 . rw[if_pos h1,List.getElem?_append_left (by simp;omega),List.getElem?_take_of_lt h1]
 . rw[if_neg h1,List.getElem?_append_right (by simp;omega)]
   simp only[List.length_take,Nat.min_eq_left hk]
   by_cases h2:i=k
   . subst h2;rw[if_pos rfl];simp
   . rw[if_neg h2]
     obtain⟨m,rfl⟩:∃m,i=k+(m+1):=⟨i-k-1,by omega⟩
     rw[show k+(m+1)-k=m+1 by omega,List.getElem?_cons_succ,List.getElem?_drop]
     congr 2
theorem qbu {l:List Ob}(hs:Srt l){o:Ob}{k:Nat}(hp:Pn l o.nm k)(hn:¬∃j,j<l.length/\(oat l j).nm=o.nm):Srt (insO l k o):=by
 have hi:∀j,k<=j->j<l.length->Bl.lt o.nm (oat l j).nm=true:=fun j h1 h2=>by
  rcases Bl.tri (oat l j).nm o.nm with h|h|h
  . have:=hp.hi j h1 h2;rw[h]at this;cases this
  . exact absurd ⟨j,h2,h⟩ hn
  . exact h
 intro a b hab hb
 rw[ze0 hp.le]at hb
 rw[zpq hp.le,zpq hp.le]
 by_cases h1:b<k
 . rw[if_pos (show a<k by omega),if_pos h1];exact hs a b hab (by have:=hp.le;omega)
 . rw[if_neg h1]
   by_cases h2:b=k
   . rw[if_pos h2,if_pos (show a<k by omega)];exact hp.lo a (by omega)
   . rw[if_neg h2]
     by_cases h3:a<k
     . rw[if_pos h3]
       exact Bl.trans (hp.lo a h3) (hi (b-1) (by omega) (by omega))
     . rw[if_neg h3]
       by_cases h4:a=k
       . rw[if_pos h4];exact hi (b-1) (by omega) (by omega)
       . rw[if_neg h4];exact hs (a-1) (b-1) (by omega) (by omega)
theorem zs7 (t:Int):∀(l m:List Ob),usL t (l++m)=usL t l+usL t m
 | [],m=>by simp[usL]
 | x::l,m=>by rw[List.cons_append,usL,usL,zs7 t l m];omega
theorem qa7 {l:List Ob}{k:Nat}(o:Ob)(t:Int):usd (insO l k o) t (insO l k o).length=usd l t l.length+if o.tn=t then o.sz else 0:=by
 rw[zjn,zjn,insO,zs7,usL]
 conv=>rhs;rw[<-List.take_append_drop k l,zs7]
 omega
theorem z43 {S:Sf}(hv:VSf S){h:Ob}(hr:ROk h){j:Nat}(hj:j<S.A.length)(hjt:(aat S.A j).t=h.tn){k:Nat}(hp:Pn S.H h.nm k)(hn:¬hasN S h.nm)(hc:tot S+h.sz<=S.c)(hl:S.H.length<4096):VSf (adm S h k j):=by
 have hR:RL S.H:=fun i hi=>(hv.ho i hi).r
 have hlen:=ze0 hp.le h
 have hkv:=hv.va.ok j hj
 have hge:=ztb hv.va (k:=j) (wC _) hj
 have hc':sumU S.A S.A.length+h.sz<=S.c:=hc
 have hcc:=hv.c
 have hsz:=hr.sz
 have he:uerr S.A j h.sz true=0:=by rw[uerr,if_pos rfl,if_neg];have:=hkv.u;omega
 have hsrt:=qbu (zd1 hv.ho) hp hn
 refine⟨hv.c,znj hv.va hj he,hv.vk,?_,?_,?_,?_⟩
 . show(insO S.H k h).length<=4096
   omega
 . intro i hi
   have hi':i<S.H.length+1:=by rw[<-hlen];exact hi
   refine⟨?_,fun h0=>hsrt (i-1) i (by omega) hi,?_⟩
   . show ROk (oat (insO S.H k h) i)
     rw[zpq hp.le]
     split
     . exact hR i (by have:=hp.le;omega)
     . split
       . exact hr
       . exact hR (i-1) (by omega)
   . have:∃k',k'<S.A.length/\(aat S.A k').t=(oat (insO S.H k h) i).tn:=by
      rw[zpq hp.le]
      split
      . exact(hv.ho i (by have:=hp.le;omega)).t
      . split
        . exact⟨j,hj,hjt⟩
        . exact(hv.ho (i-1) (by omega)).t
     obtain⟨k',hk',e⟩:=this
     exact⟨k',by show k'<(updA _ _ _).length;rw[zav];exact hk',by show(aat (updA _ _ _) k').t=_;rw[zlm hj];exact e⟩
 . intro k' hk'
   have hk2:k'<S.A.length:=by have:k'<(updA S.A j h.sz).length:=hk';rwa [zav]at this
   show(aat (updA S.A j h.sz) k').u=usd (insO S.H k h) (aat (updA S.A j h.sz) k').t (insO S.H k h).length
   rw[zlm hj,qa7,zfe hj]
   by_cases e:k'=j
   . subst e
     rw[if_pos rfl,if_pos hjt.symm]
     simp only
     rw[hv.hu k' hk2]
   . rw[if_neg e,if_neg,hv.hu k' hk2]
     . omega
     . intro h'
       exact e (zgv hv.va hk2 hj (h'.symm.trans hjt.symm))
 . show sumU (updA S.A j h.sz) (updA S.A j h.sz).length<=S.c
   rw[zav,zk6 hj,if_pos hj]
   exact hc'
theorem qjx {S:Sf}(h:Tn S.A){o:Ob}{k j:Nat}(hj:j<S.A.length):Tn (adm S o k j).A:=fun i hi=>by
 show(aat (updA _ _ _) i).t<=_
 rw[zlm hj]
 refine h i ?_
 have:i<(updA S.A j o.sz).length:=hi
 rwa [zav]at this
theorem iv_0 {S:Sf}(hv:VSf S)(ht:Tn S.A)(hnm:∀i,i<S.H.length->(oat S.H i).nm.length<=5000){h:Ob}(ha:hasT S h.tn):IV h (v0 S):=by
 have hw:1<=S.w:=K.isP_pos hv.vk.vp
 exact⟨hv,ht,⟨⟨hw,hv.vk.vw⟩,hv.vk.vn⟩,(fun e he=>by cases he),hnm,by have:=hv.hn;show([]:List Ob).length+S.H.length<=8192;simp;omega,ha⟩
end Go.Proofs.S97
namespace Go.Proofs.S97
open Go Go.Ev Go.Proofs Go.Proofs.S97.Q
variable {gl :Gl} {n:Nat}
theorem qd5 {S:Sf}{h:Ob}(hc:¬S.c<tot S+h.sz):goV h (v0 S)=false:=by
 unfold goV
 rw[Bool.and_eq_false_iff]
 exact .inl (decide_eq_false hc)
theorem zs1 [Nonempty (H.GlK gl)](hn:16<=n){S:Sf}{h:Ob}{fh fl:Bool}{mh:Sh}(hv:VSf S)(ht:Tn S.A)(hnm:∀i,i<S.H.length->(oat S.H i).nm.length<=5000)(hmh:Mk S.H mh sO)
  (hr:ROk h) (hhn:h.nm.length<=5000) (ha:hasT S h.tn) (hnn:¬hasN S h.nm) (hl:S.H.length<4096) (hc:tot S+h.sz<=S.c) :
  ∃k,Pn S.H h.nm k/\call gl tab n 8 [sfV S (qq fh fl mh),oV h] []=some (.tup [sfV (adm S h k (idxT S.A h.tn)) (qq false fl sO),.lst false .sc [],i64 0],[],[]):=by
 have ht0:0<=tot S:=(zcb hv.va (wC _)).1
 obtain⟨v,hiv,hg,hF,hb0,hvc,hcl⟩:=@zu3 gl (n-1) _ (by omega) S h fh fl mh (iv_0 hv ht hnm ha) hmh hr hhn hnn (by omega) hl
 have e0:v=v0 S:=by rw[hF,zly (qd5 (by omega))]
 have he:vEnd h v=0:=by
  rw[e0,vEnd,if_neg (show ¬(v0 S).S.c<tot (v0 S).S+h.sz from fun h'=>by have h2:S.c<tot S+h.sz:=h';omega),if_pos (show(v0 S).w=true from rfl)]
 obtain⟨k,hp,hcall⟩:=zqv hn hv hmh hr hiv hb0 hcl he
 rw[e0]at hp hcall
 exact⟨k,hp,hcall⟩
theorem zuz {S:Sf}(hv:VSf S)(ht:Tn S.A){h:Ob}(hr:ROk h)(ha:hasT S h.tn)(hnn:¬hasN S h.nm)(hl:S.H.length<4096)(hc:tot S+h.sz<=S.c){k:Nat}(hp:Pn S.H h.nm k) :
  VSf (adm S h k (idxT S.A h.tn))/\Tn (adm S h k (idxT S.A h.tn)).A:=by
 obtain⟨g1,g2⟩:=zic hv.va ha
 exact⟨z43 hv hr g1 g2 hp hnn hc hl,qjx ht g1⟩
end Go.Proofs.S97
namespace Go.Proofs.S97
open Go Go.Ev Go.Proofs Go.Proofs.S97.Q
variable {gl :Gl} {n:Nat}
abbrev A0 :List A3:=[⟨1,1,0⟩,⟨2,1,0⟩]
abbrev L0 :List Int:=List.replicate (4*16) 0
abbrev E0 :Sf:=newS 10 A0 16 100 0 L0
abbrev Oa :Ob:=⟨[97],1,8,5⟩
abbrev Ob' :Ob:=⟨[98],1,2,3⟩
abbrev Oc :Ob:=⟨[99],2,4,0⟩
abbrev Od :Ob:=⟨[100],1,11,0⟩
theorem va_2 {u v:Int}(hu:0<=u/\u<=1099511627776)(hv:0<=v/\v<=1099511627776):VA [⟨1,1,u⟩,⟨2,1,v⟩]:=by
 refine⟨by simp,fun i hi=> ?_⟩
 match i,hi with
 | 0,_=>exact⟨show(0:Int)<1 by omega,⟨show(1:Int)<=1 by omega,show(1:Int)<=1048576 by omega⟩,hu⟩
 | 1,_=>exact⟨show(1:Int)<2 by omega,⟨show(1:Int)<=1 by omega,show(1:Int)<=1048576 by omega⟩,hv⟩
theorem vk_0 :K.VS 16 100 0 L0:=by
 refine⟨⟨4,by omega,by decide⟩,by omega,by omega,by omega,by simp,fun i hi=> ?_⟩
 have:K.nat L0 i=0:=K.nat_rep (by simpa using hi) 0
 rw[K.CO,this];omega
theorem qln :NOk 10 A0 16 100 0 L0:=⟨by omega,va_2 (by omega) (by omega),fun i hi=>by
 match i,hi with
 | 0,_=>rfl
 | 1,_=>rfl,vk_0⟩
theorem qa2 :VSf E0:=by
 refine⟨by show(0:Int)<=10/\(10:Int)<=_;omega,va_2 (by omega) (by omega),vk_0,by show([]:List Ob).length<=4096;simp,fun i hi=> ?_,fun k hk=> ?_,by show sumU A0 2<=10;decide⟩
 . have:i<([]:List Ob).length:=hi
   simp at this
 . match k,hk with
   | 0,_=>rfl
   | 1,_=>rfl
theorem tn_2 {u v:Int}:Tn [⟨1,1,u⟩,⟨2,1,v⟩]:=fun i hi=>by
 match i,hi with
 | 0,_=>show(1:Int)<=_;omega
 | 1,_=>show(2:Int)<=_;omega
theorem qje (S:Sf)(hw:S.w=16)(hL:S.L=L0)(x:List UInt8):cnt S x=0:=by
 unfold cnt
 rw[hL,hw]
 exact K.lea_zero (w:=16) (key:=x) (by omega)
theorem qaf {S:Sf}{h:Ob}{m:Int}(hv:VS (wnt S.A (idxT S.A h.tn) h.sz))(hc:0<=S.c/\S.c<=1099511627776)(hm:Lv (wnt S.A (idxT S.A h.tn) h.sz) S.c m):fgs S h=gets (wnt S.A (idxT S.A h.tn) h.sz) m S.c S.A.length:=by
 rw[fgs,zt1 hv (zvw hv hc) hm]
abbrev E1 :Sf:=⟨10,[⟨1,1,8⟩,⟨2,1,0⟩],[Oa],16,100,0,L0⟩
abbrev E2 :Sf:=⟨10,[⟨1,1,10⟩,⟨2,1,0⟩],[Oa,Ob'],16,100,0,L0⟩
abbrev E3 :Sf:=⟨10,[⟨1,1,0⟩,⟨2,1,4⟩],[Oc],16,100,0,L0⟩
theorem lv_2 :Lv (wnt E2.A (idxT E2.A Oc.tn) Oc.sz) E2.c 6:=⟨by omega,by omega,by decide,.inr (by decide)⟩
theorem lv_1 :Lv (wnt E1.A (idxT E1.A Oc.tn) Oc.sz) E1.c 6:=⟨by omega,by omega,by decide,.inr (by decide)⟩
theorem qka :vtn E2 Oc=1:=by
 have hv:VS (wnt E2.A (idxT E2.A Oc.tn) Oc.sz):=zd0 (va_2 (by omega) (by omega)) (show(0:Int)<=4/\(4:Int)<=_ by omega)
 have e:=qaf hv (show(0:Int)<=10/\(10:Int)<=_ by omega) lv_2
 have ho:¬own E2 Oc:=by
  unfold own
  rw[e];decide
 rw[vtn,if_neg ho,e]
 decide
theorem qkb :vtn E1 Oc=1:=by
 have hv:VS (wnt E1.A (idxT E1.A Oc.tn) Oc.sz):=zd0 (va_2 (by omega) (by omega)) (show(0:Int)<=4/\(4:Int)<=_ by omega)
 have e:=qaf hv (show(0:Int)<=10/\(10:Int)<=_ by omega) lv_1
 have ho:¬own E1 Oc:=by
  unfold own
  rw[e];decide
 rw[vtn,if_neg ho,e]
 decide
theorem qlu :les E2 Ob' Oa<0:=by
 unfold les
 rw[qje E2 rfl rfl,qje E2 rfl rfl]
 decide
theorem qaz :wls (v0 E2) Oc=[Oa,Ob']:=by
 show wl [Oa,Ob'] (vtn E2 Oc) 2=_
 rw[qka];rfl
theorem qlo :(mls (v0 E2) Oc).1=1:=by
 rw[mls,qaz]
 show(mst E2 [Oa,Ob'] ([],0) 1).1=1
 have h:les E2 (oat [Oa,Ob'] (0+1)) (oat [Oa,Ob'] (mst E2 [Oa,Ob'] ([],0) 0).1)<0:=qlu
 rw[show(1:Nat)=0+1 from rfl,qc6 h]
theorem qh0 :jls (v0 E2) Oc=1:=by
 rw[jls,qlo,qaz];rfl
theorem qax :xls (v0 E2) Oc=Ob':=by rw[xls,qh0];rfl
theorem ql0 :kls (v0 E2) Oc=0:=by rw[kls,qax];rfl
theorem qlk :(nxt Oc (v0 E2)).S=E1/\(nxt Oc (v0 E2)).o=[Ob']/\(nxt Oc (v0 E2)).w=true:=by
 refine⟨?_,?_,?_⟩
 . show drp E2 (jls (v0 E2) Oc) (kls (v0 E2) Oc)=E1
   rw[qh0,ql0];rfl
 . show []++[xls (v0 E2) Oc]=[Ob']
   rw[qax];rfl
 . show(true&&(!decide ((xls (v0 E2) Oc).tn=Oc.tn)||_))=true
   rw[qax];rfl
theorem qll {v:Vt}(hS:v.S=E1)(ho:v.o=[Ob'])(hw:v.w=true):(nxt Oc v).S=E0/\(nxt Oc v).o=[Ob',Oa]/\(nxt Oc v).w=true/\wls v Oc≠[]:=by
 have w1:wls v Oc=[Oa]:=by
  rw[wls,hS,qkb];rfl
 have m1:(mls v Oc).1=0:=by rw[mls,w1];rfl
 have j1:jls v Oc=0:=by rw[jls,m1,w1,hS];rfl
 have x1:xls v Oc=Oa:=by rw[xls,j1,hS];rfl
 have k1:kls v Oc=0:=by rw[kls,x1,hS];rfl
 refine⟨?_,?_,?_,by rw[w1];simp⟩
 . show drp v.S (jls v Oc) (kls v Oc)=E0
   rw[j1,k1,hS];rfl
 . show v.o++[xls v Oc]=_
   rw[x1,ho];rfl
 . show(v.w&&(!decide ((xls v Oc).tn=Oc.tn)||_))=true
   rw[x1,hw];rfl
theorem qki :(runV Oc 2 (v0 E2)).S=E0/\(runV Oc 2 (v0 E2)).o=[Ob',Oa]/\(runV Oc 2 (v0 E2)).w=true/\(runV Oc 2 (v0 E2)).b=true:=by
 obtain⟨a1,a2,a3⟩:=qlk
 obtain⟨b1,b2,b3,b4⟩:=qll a1 a2 a3
 have g2:goV Oc (v0 E2)=true:=by
  unfold goV
  rw[Bool.and_eq_true,decide_eq_true_eq,decide_eq_true_eq,qaz]
  exact⟨show(10:Int)<sumU E2.A 2+4 by decide,by simp⟩
 have g1:goV Oc (nxt Oc (v0 E2))=true:=by
  unfold goV
  rw[Bool.and_eq_true,decide_eq_true_eq,decide_eq_true_eq,a1]
  exact⟨show(10:Int)<sumU E1.A 2+4 by decide,b4⟩
 rw[zjs g2,zjs g1]
 exact⟨b1,b2,b3,rfl⟩
end Go.Proofs.S97
