/-
  Chapter 17: the modest are spared. No condition.
-/
import Derived.Test.YthipjfnealbheaaDoorW17G27x4
import Derived.Test.YthipjfnealbheaaDoorW17G6x4
import Derived.Test.YthipjfnealbheaaDoorCards
import Derived.Test.YthipjfnealbheaaDoorTie
import Derived.ProofKit
import Derived.OpenShut
import Derived.Deep.DeepHandedRow
import Derived.Lib.LaidTab
import Derived.MakeChecks
set_option linter.all false
open Int renaming ediv_nonneg->wB,ediv_le_self->wC,le_refl->wD
open Nat renaming le_refl->wE,exists_eq_add_of_le'->wF,lt_or_ge->wG
namespace Go.Proofs.S17
open Go Go.Ev Go.Proofs Go.Proofs.S17.Q
variable {gl :Gl} {n:Nat}
theorem quoA {x y:Int}(hx:0<=x/\x<=1099511627776)(hy:1<=y):zan .quo .i64 x y=some (.int .i64 (x/y)):=by
 show(if y=0 then none else some (AV.int .i64 (IntKind.wrap .i64 (x.tdiv y))))=_
 have h1:x/y<=x:=wC _ hx.1
 have h2:0<=x/y:=wB hx.1 (by omega)
 rw[if_neg (by omega),Int.tdiv_eq_ediv_of_nonneg hx.1,za0 (by omega) (by omega)]
def L15 :MC:=match m15 with| .seq _ (.seq _ (.seq (.seq _ (.block _ (.loop _ b))) _))=>b|_=>.skip
def S15 (f:Bool)(m:Sh)(l:List A3)(i:Nat):St:=⟨[.set 4 (i64 i),.set 3 (i64 (wsA l i)),.set 0 (.lst f m (ac l))],[]⟩
theorem zvp (h:1<=n){f:Bool}{m:Sh}{l:List A3}(hm:Mk l m sA)(hv:VA l)(hl:l.length<=1000):call gl tab n 15 [.lst f m (ac l)] []=some (i64 (wsA l l.length),[],[]):=by
 obtain⟨d,rfl⟩:=wF h
 have hst:∀i,i<l.length->zbn [.slot 0,.slot 3,.slot 4] (evC gl (call gl tab d) L15 (S15 f m l i))=some (S15 f m l (i+1)):=fun i hi=>by
  have hx:=zd7 hi
  obtain rfl:=hm.eq hi
  have hb:=ztq hv (show i<=l.length by omega)
  have hb1:=(hv.ok i hi).w
  have e:=qg6 l i
  unfold S15
  rw[e]
  generalize wsA l i=u at *
  simp(disch:=apply zq;omega) only[go_sem,simprocAttr,↓Nat.reduceEqDiff,xx,L15,m15,zac,hx]
 simp only[L15,m15]at hst
 rw[zah (fd:=fd15) rfl]
 simp(disch:=apply zq;omega) only[go_sem,simprocAttr,↓Nat.reduceEqDiff,xx,fd15,m15,zac]
 rw[zam (S15 f m l) l.length (by unfold LF;omega)]
 . simp(disch:=apply zq;omega) only[go_sem,simprocAttr,↓Nat.reduceEqDiff,xx,S15,zac]
 . simp(disch:=apply zq;omega) only[go_sem,simprocAttr,↓Nat.reduceEqDiff,xx,S15,zac,qg7]
 . exact hst
 . simp(disch:=apply zq;omega) only[go_sem,simprocAttr,↓Nat.reduceEqDiff,xx,S15,zac]
def L4a :MC:=match m4 with| .seq _ (.seq _ (.seq _ (.seq _ (.seq _ (.seq _ (.seq _ (.seq (.seq _ (.block _ (.loop _ b))) _)))))))=>b|_=>.skip
def L4b :MC:=match L4a with| .seq _ (.seq (.block _ (.seq _ (.seq _ (.seq _ (.seq _ (.seq _ (.block _ (.loop _ b)))))))) _)=>b|_=>.skip
def S4a (S T:Sf)(h:Ob)(go:List Ob)(lev room:Int)(k:Nat):St :=
 ⟨[.set 11 (i64 k),.set 10 (i64 room),.set 9 (i64 lev),.set 7 (.lst false .sc (nms go)),.set 6 (.ptr 6 []),.set 3 (.ptr 3 []),.set 2 (.ptr 2 [])],[(6,.fix shB (sfV T (qq false false sO))),(3,.fix sO (oV h)),(2,.fix shB (sfV S (qq false false sO)))]⟩
def S4b (S T:Sf)(h x:Ob)(go:List Ob)(lev room:Int)(k a:Nat):St :=
 ⟨[.set 14 (i64 a),.set 13 (.ptr 13 []),.set 11 (i64 k),.set 10 (i64 room),.set 9 (i64 lev),.set 7 (.lst false .sc (nms go)),.set 6 (.ptr 6 []),.set 3 (.ptr 3 []),.set 2 (.ptr 2 [])],[(13,.fix sO (oV x)),(6,.fix shB (sfV T (qq false false sO))),(3,.fix sO (oV h)),(2,.fix shB (sfV S (qq false false sO)))]⟩
set_option maxHeartbeats 2000000 in
theorem qdf {d:Nat}{S T:Sf}{h x:Ob}{go:List Ob}{lev room:Int}{k:Nat}(hA:S.A.length<=8)
  (hm:∀a,a<S.A.length->0<=lev*(aat S.A a).w/\lev*(aat S.A a).w<=1099511627776)
  (hok:x.tn≠h.tn->∀a,a<S.A.length->(aat S.A a).t=x.tn->lev*(aat S.A a).w<(aat S.A a).u) (a:Nat) (ha:a<S.A.length) :
  zbn [.slot 2,.slot 3,.slot 6,.slot 7,.slot 9,.slot 10,.slot 11,.slot 13,.slot 14,.key 2,.key 3,.key 6,.key 13] (evC gl (call gl tab d) L4b (S4b S T h x go lev room k a))=some (S4b S T h x go lev room k (a+1)):=by
 have hx:=zd7 ha
 have h1:=hm a ha
 by_cases e1:(aat S.A a).t=x.tn
 . have e1':((aat S.A a).t==x.tn)=true:=by simpa using e1
   by_cases e2:x.tn=h.tn
   . have e2':(x.tn != h.tn)=false:=by simpa using e2
     simp(disch:=apply zq;omega) only[go_sem,simprocAttr,↓Nat.reduceEqDiff,xx,L4b,L4a,m4,S4b,zac,hx,e1',e2']
   . have e2':(x.tn != h.tn)=true:=by simpa using e2
     have h2:=hok e2 a ha e1
     simp(disch:=apply zq;omega) only[go_sem,simprocAttr,↓Nat.reduceEqDiff,xx,L4b,L4a,m4,S4b,zac,hx,e1',e2']
 . have e1':((aat S.A a).t==x.tn)=false:=by simpa using e1
   simp(disch:=apply zq;omega) only[go_sem,simprocAttr,↓Nat.reduceEqDiff,xx,L4b,L4a,m4,S4b,zac,hx,e1']
theorem qei {l:List Ob}{i:Nat}(h:i<l.length):(nms l)[i]? =some (.str (oat l i).nm):=by
 unfold nms oat
 rw[List.getElem?_map,List.getD_eq_getElem?_getD,List.getElem?_eq_getElem h];rfl
set_option maxHeartbeats 4000000 in
theorem qdg {d:Nat}{S T:Sf}{h:Ob}{go:List Ob}{lev R:Int}(hA:S.A.length<=8)(hS:S.H.length<=4096)(hT:T.H.length<=4096)(hsr:Srt S.H)
  (hm:∀a,a<S.A.length->0<=lev*(aat S.A a).w/\lev*(aat S.A a).w<=1099511627776) (hR:0<=R)
  (hin:∀k,k<go.length->oat go k∈S.H/\¬hasN T (oat go k).nm) (hsz:∀k,k<go.length->1<=(oat go k).sz/\(oat go k).sz<=1099511627776) (hh:h.sz<=1099511627776)
  (hrm:∀k,k<go.length->0<=R+szs go k/\R+szs go k<h.sz) (hgl:go.length<=4096)
  (hok:∀k,k<go.length->(oat go k).tn≠h.tn->∀a,a<S.A.length->(aat S.A a).t=(oat go k).tn->lev*(aat S.A a).w<(aat S.A a).u) (k:Nat) (hk:k<go.length) :
  zbn [.slot 2,.slot 3,.slot 6,.slot 7,.slot 9,.slot 10,.slot 11,.key 2,.key 3,.key 6] (evC gl (call gl tab (d+1)) L4a (S4a S T h go lev (R+szs go k) k))=some (S4a S T h go lev (R+szs go (k+1)) (k+1)):=by
 have hx:=qei hk
 have hr:=hrm k hk
 have hz:=hsz k hk
 have e:=z8o go k
 obtain⟨h1,h2⟩:=hin k hk
 obtain⟨i,hi,hi1,hi2,c1⟩:=@zoc gl (d+1) (by omega) false sO S.H (.inr rfl) (by omega) (oat go k).nm
 obtain⟨j,hj,_,hj2,c2⟩:=@zoc gl (d+1) (by omega) false sO T.H (.inr rfl) (by omega) (oat go k).nm
 have hiS:i<S.H.length:=by
  rcases wG i S.H.length with h'|h'
  . exact h'
  . exfalso
    obtain⟨q,hq,e'⟩:=zhq h1
    exact hi1 q (by omega) (by rw[e'])
 have ex:=qhp hsr h1 hiS (hi2 hiS)
 have hjT:¬j<T.H.length:=fun h'=>h2 ⟨j,h',hj2 h'⟩
 rw[ix,if_pos hiS]at c1
 rw[ix,if_neg hjT]at c2
 have hxi:=zeq hiS
 rw[ex]at hxi
 have hst:=fun a ha=>@qdf gl (d+1) S T h (oat go k) go lev (R+szs go (k+1)) k hA hm (hok k hk) a ha
 rw[e,<-Int.add_assoc]at hst ⊢
 have hlk:(nms go).length=go.length:=zc3 go
 generalize oat go k=x at *
 generalize szs go k=s at *
 simp only[L4b,L4a,m4]at hst
 simp(disch:=apply zq;omega) only[go_sem,simprocAttr,↓Nat.reduceEqDiff,xx,L4a,m4,S4a,hx,c1,c2,hxi,hlk,zaa]
 rw[zam (S4b S T h x go lev (R+s+x.sz) k) S.A.length (by unfold LF;omega)]
 . simp(disch:=apply zq;omega) only[go_sem,simprocAttr,↓Nat.reduceEqDiff,xx,S4b,zac]
 . simp(disch:=apply zq;omega) only[go_sem,simprocAttr,↓Nat.reduceEqDiff,xx,S4b,zac,oV]
 . exact hst
 . simp(disch:=apply zq;omega) only[go_sem,simprocAttr,↓Nat.reduceEqDiff,xx,S4b,zac]
theorem z6v {l:List A3}(hv:VA l){k:Nat}:∀{i:Nat},i<=l.length->k<i->(aat l k).w<=wsA l i
 | 0,_,h=>absurd h (Nat.not_lt_zero _)
 | i+1,hi,h=>by
   have h1:=(hv.ok i (by omega)).w
   have h2:=ztq hv (show i<=l.length by omega)
   rw[wsA]
   by_cases e:k=i
   . subst e;omega
   . have:=z6v hv (k:=k) (show i<=l.length by omega) (by omega);omega
theorem qet {S:Sf}(hv:VSf S){a:Nat}(ha:a<S.A.length):0<=S.c/wsA S.A S.A.length*(aat S.A a).w/\S.c/wsA S.A S.A.length*(aat S.A a).w<=1099511627776:=by
 have hc:=hv.c
 have h1:=z6v hv.va (wE _) ha
 have h2:=(hv.va.ok a ha).w
 have h3:0<=S.c/wsA S.A S.A.length:=wB hc.1 (by omega)
 refine⟨Int.mul_nonneg h3 (by omega),?_⟩
 have h4:=Int.mul_le_mul_of_nonneg_left h1 h3
 have h5:S.c/wsA S.A S.A.length*wsA S.A S.A.length<=S.c:=Int.ediv_mul_le _ (by omega)
 generalize S.c/wsA S.A S.A.length=q at *
 generalize q*(aat S.A a).w=u at *
 generalize q*wsA S.A S.A.length=z at *
 omega
theorem max1 {W:Int}(h:1<=W):zhs zwg (i64 1) [i64 W]=some (i64 W):=by
 have e:zhs zwg (i64 1) [i64 W]=some (i64 (if W>1 then W else 1)):=by simp[zhs,zwg]
 rw[e]
 have e2:(if W>1 then W else 1)=W:=by split<;>omega
 rw[e2]
theorem kdOb {x:AV}(h:HasKd kO x):∃o:Ob,x=oV o:=by
 obtain⟨k,rfl,hx⟩:=h
 simp only[HasKds]at hx
 obtain⟨_,_,rfl,⟨a,rfl,_⟩,_,_,rfl,⟨b,rfl,_⟩,_,_,rfl,⟨c,rfl,_⟩,_,_,rfl,⟨e,rfl,_⟩,rfl⟩:=hx
 exact⟨⟨a,b,c,e⟩,rfl⟩
set_option maxHeartbeats 4000000 in
theorem qh5 [Nonempty (H.GlK gl)](hn:20<=n)(c7:call gl tab n 7 [] []=some (.bool true,[],[]))(ar:List AV)(h:HasKds [kF,kO] ar):call gl tab (n+1) 4 ar []=some (.bool true,[],[]):=by
 simp only[HasKds]at h
 obtain⟨_,_,rfl,h1,_,_,rfl,h2,rfl⟩:=h
 obtain⟨S,rfl,hS⟩:=kdF h1
 obtain⟨o,rfl⟩:=kdOb h2
 obtain⟨b,hb,cv⟩:=@qhb gl n (by omega) S (qq false false sO) ⟨.inr rfl,.inr rfl⟩ hS
 cases b with
 | false=>rw[zah (fd:=fd4) rfl];simp(disch:=apply zq;omega) only[go_sem,simprocAttr,↓Nat.reduceEqDiff,xx,fd4,m4,cv,c7]
 | true =>
 obtain⟨⟨f1,f2,f3⟩,hv⟩:=hb.1 rfl
 by_cases hnl:o.nm.length<=200
 case neg=>rw[zah (fd:=fd4) rfl];simp(disch:=apply zq;omega) only[go_sem,simprocAttr,↓Nat.reduceEqDiff,xx,fd4,m4,cv,c7,oV]
 rcases qbf S o with ⟨e,he⟩|fr
 . have c1:=@zvk gl n (by omega) S o false false sO hv (.inr rfl) e he
   have hne:=z8d he
   clear he
   rw[zah (fd:=fd4) rfl];simp(disch:=apply zq;omega) only[go_sem,simprocAttr,↓Nat.reduceEqDiff,xx,fd4,m4,cv,c7,c1,oV,hne]
 obtain⟨hi,g,_,ce,co⟩:=@z24 gl n _ (by omega) S o hv hS.t fr
 by_cases he:vEnd o (vE S o)=0
 case neg =>
  have c1:=ce he
  have hne:=z8e he
  generalize vEnd o (vE S o)=e at *
  rw[zah (fd:=fd4) rfl];simp(disch:=apply zq;omega) only[go_sem,simprocAttr,↓Nat.reduceEqDiff,xx,fd4,m4,cv,c7,c1,oV,hne]
 obtain⟨k,hp,c1⟩:=co he
 obtain⟨t1,t2⟩:=qgu fr hi g he hp
 have hv0:=(z6y he).1
 clear ce co
 generalize vE S o=v at *
 obtain⟨q1,q2⟩:=zjb hi.hv.va hi.ha
 generalize hq:idxT v.S.A o.tn=j at *
 have hTH:(adm v.S o k j).H=insO v.S.H k o:=rfl
 have hTl:=zel hp.le o
 have hno:∀x∈v.o,¬hasN (adm v.S o k j) x.nm:=fun x hx=>by
  rintro ⟨i,hi',e⟩
  rw[hTH]at hi' e
  rw[zi5 hp.le]at e
  have h3:=(g.om x hx).2
  by_cases e1:i<k
  . rw[if_pos e1]at e;exact h3 ⟨i,by have:=hp.le;omega,e⟩
  . rw[if_neg e1]at e
    by_cases e2:i=k
    . rw[if_pos e2]at e
      obtain⟨i2,h4,h5⟩:=zhq (g.om x hx).1
      exact fr.n ⟨i2,h4,by rw[h5,<-e]⟩
    . rw[if_neg e2]at e;exact h3 ⟨i-1,by omega,e⟩
 have hhas:∃i,i<(adm v.S o k j).H.length/\(oat (adm v.S o k j).H i).nm=o.nm:=⟨k,by rw[hTH,hTl];have:=hp.le;omega,by rw[hTH,zi5 hp.le,if_neg (Nat.lt_irrefl _),if_pos rfl]⟩
 have hTl2:(adm v.S o k j).H.length+v.o.length=S.H.length+1:=by rw[hTH,hTl];have:=g.ln;omega
 have hTc:=t1.ht
 have hTn:=t1.hn
 have hTcc:=t1.c
 have hTva:=t1.va
 have hTm:=(zcw t1.va (wE _)).1
 have hgc:=g.c
 have hgt:=g.tt
 have hgr:=g.rm
 have hgl:=g.ln
 have hgo:=g.om
 have hgp:=g.pt
 have hcc:=hv.c
 have hst0:0<=S.c-tot S:=by have:=hv.ht;show 0<=S.c-sumU S.A S.A.length;omega
 have hts:0<=tot S:=(zcw hv.va (wE _)).1
 have hosz:=fr.r.sz
 have hsz:∀i,i<v.o.length->1<=(oat v.o i).sz/\(oat v.o i).sz<=1099511627776:=fun i hi'=>by
  obtain⟨i2,h4,h5⟩:=zhq (hgo _ (ze4 hi')).1
  rw[<-h5];exact(hv.ho _ h4).r.sz
 have hsn:∀i,i<=v.o.length->0<=szs v.o i:=fun i=>by
  induction i with
  | zero=>intro _;exact wD _
  | succ i ih=>intro h';have:=ih (by omega);have:=hsz i (by omega);rw[z8o];omega
 have hle:∀i,i<=v.o.length->szs v.o i<=(i:Int)*1099511627776:=fun i=>by
  induction i with
  | zero=>intro _;exact wD _
  | succ i ih=>intro h';have:=ih (by omega);have:=hsz i (by omega);rw[z8o];omega
 have hend:=hle v.o.length (wE _)
 have hend0:=hsn v.o.length (wE _)
 have ctot:=@zk4 gl n (by omega) false sA S.A (.inr rfl) hv.va
 have ctT:=@zk4 gl n (by omega) false sA (adm v.S o k j).A (.inr rfl) hTva
 have cwt:=@zvp gl n (by omega) false sA S.A (.inr rfl) hv.va (by omega)
 obtain⟨i,hi1,hi2,hi3,cf⟩:=@zoc gl n (by omega) false sO (adm v.S o k j).H (.inr rfl) (by omega) o.nm
 have hiT:i<(adm v.S o k j).H.length:=by
  obtain⟨i2,h4,h5⟩:=hhas
  rcases wG i (adm v.S o k j).H.length with h'|h'
  . exact h'
  . exact absurd h5 (hi2 i2 (by omega))
 rw[ix,if_pos hiT]at cf
 have hA1:0<S.A.length:=by obtain⟨i2,h4,_⟩:=fr.t;omega
 have hw1:=ztq hv.va (wE _)
 have hqu:=quoA hcc (show 1<=wsA S.A S.A.length by omega)
 have hlv:=fun a (ha:a<S.A.length)=>qet hv ha
 have hlp:∀k,k<v.o.length->(oat v.o k).tn≠o.tn->∀a,a<S.A.length->(aat S.A a).t=(oat v.o k).tn->S.c/wsA S.A S.A.length*(aat S.A a).w<(aat S.A a).u:=fun k' hk' hne a ha hat=>by
  have:=hgp _ (ze4 hk') hne a ha hat
  rw[Int.mul_comm];exact this
 have hq0:0<=S.c/wsA S.A S.A.length:=wB hcc.1 (by omega)
 have hq1:S.c/wsA S.A S.A.length<=S.c:=wC _ hcc.1
 obtain⟨n',rfl⟩:=wF (show 1<=n by omega)
 have hst:=fun a ha=>@qdg gl n' S (adm v.S o k j) o v.o (S.c/wsA S.A S.A.length) (S.c-tot S) f1 (by omega) (by omega) (zee hv.ho) hlv hst0
  (fun k' hk'=>⟨(hgo _ (ze4 hk')).1,hno _ (ze4 hk')⟩) hsz hosz.2 (fun k' hk'=>⟨by have:=hsn k' (by omega);omega,hgr k' hk'⟩) (by omega) hlp a ha
 have hrend:o.sz<=S.c-tot S+szs v.o v.o.length:=by omega
 have hmx:=max1 (show 1<=wsA S.A S.A.length by omega)
 have hlen2:(nms v.o).length=v.o.length:=zc3 v.o
 have hs0:=qhe v.o
 have hAc:(adm v.S o k j).c=v.S.c:=rfl
 have htS:tot S=sumU S.A S.A.length:=rfl
 have hgg:v.o.length<=31:=by omega
 clear hgo hno hgp hgr hhas hp hi g hi2 hi3 hlv hlp hsn hle hsz he fr hv t1 t2 hS hTva h1 h2 hgt
 generalize adm v.S o k j=T at *
 generalize S.c/wsA S.A S.A.length=lev at *
 generalize wsA S.A S.A.length=W at *
 generalize tot S=tS at *
 subst htS
 generalize sumU S.A S.A.length=tS at *
 generalize sumU T.A T.A.length=tT at *
 generalize hse:szs v.o v.o.length=se at *
 simp only[L4a,m4]at hst
 rw[zah (fd:=fd4) rfl]
 simp(disch:=apply zq;omega) only[go_sem,simprocAttr,↓Nat.reduceEqDiff,xx,fd4,m4,cv,c7,c1,oV,ctot,cwt,hqu,hmx,hlen2]
 rw[zam (fun i=>S4a S T o v.o lev (S.c-tS+szs v.o i) i) v.o.length (by unfold LF;omega)]
 . simp(disch:=apply zq;omega) only[go_sem,simprocAttr,↓Nat.reduceEqDiff,xx,S4a,cf,ctT,hlen2,zaa,hse,c7]
 . simp(disch:=apply zq;omega) only[go_sem,simprocAttr,↓Nat.reduceEqDiff,xx,S4a,hs0,oV,Int.add_zero]
 . exact hst
 . simp(disch:=apply zq;omega) only[go_sem,simprocAttr,↓Nat.reduceEqDiff,xx,S4a,hlen2]
theorem law4 [Nonempty (H.GlK gl)](hn:20<=n)(ar:List AV)(h:HasKds [kF,kO] ar):call gl tab (n+1) 4 ar []=some (.bool true,[],[]):=qh5 hn (zyz (by omega)) ar h
end Go.Proofs.S17
namespace Go.Proofs.YthipjfnealbheaaDoor
open Go Go.Ev Go.Proofs Go.ChangeShapes Go.WideShapes Go.ChangeAt Go.RowKit
theorem own :ownKnob Tryd.prog.godebug=none:=by kernel_rfl
theorem gCon :Tryd.prog.globalNamed "weirgate/hash.constants" =some 0:=by kernel_rfl
theorem qid :(Tryd.prog.globals[0]?).map (·.type)=some 148:=by kernel_rfl
theorem kCon :kdOf Tryd.prog 8 148=some (.ar 64 (.int .u32)):=by kernel_rfl
theorem qir :AV.agg S17.kA=avD (H:=Unit) (.ar 64 (.int .u32)) Rows.laid_weirgate_hash_constants:=by kernel_rfl
theorem qev :laidOutB Tryd.prog=true:=by kernel_rfl
theorem z5w {P:Program}{t t':Nat->Option (Sh×AV)}{ri:Nat->Option RInfo}{f:Nat}{fd:Ev.Fd}(h:FnOk P ⟨t,ri⟩ f fd):FnOk P ⟨t',ri⟩ f fd:=by
 cases h with
 | code h hlt ok=>exact .code h hlt ⟨ok.ok⟩
 | given g h hlt ok=>exact .given g h hlt ok
 | round rid ps sl ma mb hf h ok=>exact .round rid ps sl ma mb hf h ⟨ok.ok⟩
 | dfr D h hlt ok =>
   obtain⟨fn,codes,id,ops,cB,an,im,o,c,h1,h2,h3,h4,h5,h6,h7,h8,h9,h10,h11,h12,h13,h14,h15,h16,h17,fc⟩:=ok.ok
   exact .dfr D h hlt ⟨fn,codes,id,ops,cB,an,im,o,c,h1,h2,h3,h4,h5,h6,h7,h8,h9,h10,h11,h12,h13,h14,h15,h16,h17,⟨fc.ok⟩⟩
noncomputable def gl1:Gl:=⟨fun g=>match g with|0=>some (.ar 64 .sc,.agg S17.kA)|_=>none,S17.ri⟩
theorem z8n :∀f fd,S17.tab f=some fd->FnOk Tryd.prog gl1 f fd:=fun f fd h=>z5w (S17.tab_ok f fd h)
theorem qfr :Nonempty (S17.H.GlK gl1):=⟨⟨rfl⟩⟩
abbrev qew :List (String×DataW Unit):=[("weirgate/hash.constants",Rows.laid_weirgate_hash_constants)]
theorem qic {W:World}(h:laidMetH Tryd.prog qew W):TabOk W.heap gl1:=by
 have h:laidMet Tryd.prog qew W:=h
 refine z1k h fun g sh a hg=> ?_
 match g,hg with
 | 0,hg =>
   obtain⟨rfl,rfl⟩:=Prod.mk.inj (Option.some.inj hg)
   exact⟨_,List.mem_cons_self,8,148,_,gCon,qid,kCon,rfl,qir⟩
 | _+1,hg=>cases hg
def z6m :Array Value:=(S17.kList.map fun x=>Value.int .u32 (x.toNat:Int)).toArray
def put (vs:Array Value):Obj->Obj
 | .cells _ t frozen=>.cells vs t frozen
 | o=>o
noncomputable def zlp (os:Os):World :=
 {World.holding Tryd.prog os ⟨#[],#[],[]⟩with heap:=(World.holding Tryd.prog os ⟨#[],#[],[]⟩).heap.modify 0 (put z6m)}
end Go.Proofs.YthipjfnealbheaaDoor
