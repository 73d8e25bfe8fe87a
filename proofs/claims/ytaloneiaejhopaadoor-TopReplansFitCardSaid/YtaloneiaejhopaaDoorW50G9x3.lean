/-
  Flows: all arcs of a node, while distances are looked for. No condition.
-/
import Derived.Test.YtaloneiaejhopaaDoorW50G8x3
import Derived.Test.YtaloneiaejhopaaDoorEvY
set_option linter.all false
open List renaming cons_append->wB,nil_append->wC,length_replicate->wD,mem_cons_self->wE,map_cons->wF
open Int renaming mul_le_mul_of_nonneg_right->wG,natCast_nonneg->wH
open Nat renaming exists_eq_add_of_le'->wJ,eq_zero_or_pos->wK
namespace Go.Proofs.S50
open Go Go.Ev Go.Proofs Go.Fl
variable {gl :Gl} {n:Nat}
structure D9 where
 B:Bool
 out:List Int
 K:List Int
 V:List Int
 m:Nat
 j:Nat
structure GOk (g:Nt):Prop where
 ok:NOk g 1048576
 n:g.n<=100
 a:g.a.length<=4000
 c:∀i,i<g.a.length->(art g.a i).c<=1073741824
abbrev ad (g:Nt):Nat->List Nat:=adj g.a g.a.length
abbrev M9 (g:Nt)(out:List Int):Nat:=msr ((g.n:Int)*1048576) out
def pn (l:List (Int×Int)):List (Int×Nat):=l.map fun e=>(e.1,e.2.toNat)
theorem z1i {l l':List (Int×Int)}{a:Int}{t:Nat}(h:l.Perm ((a,(t:Int))::l'))(hn:∀e∈l',0<=e.2):(pn l).Perm ((a,t)::pn l')/\∀e∈l,0<=e.2:=by
 refine⟨?_,fun e he=> ?_⟩
 . have:=h.map fun e:Int×Int=>(e.1,e.2.toNat)
   rw[wF]at this
   exact this
 . rcases List.mem_cons.1 (h.mem_iff.1 he)with rfl|h1
   . exact wH t
   . exact hn e h1
structure I9 (g:Nt)(fl pr:List Int)(s u:Nat)(di:Int)(C:Nat)(a:D9):Prop where
 dj:DJ g fl pr s (ad g) u a.j a.out (pn (prs a.K a.V a.m))
 nn:∀e∈prs a.K a.V a.m,0<=e.2
 du:nth a.out u=di
 kl:a.m<=a.K.length
 vl:a.V.length=a.K.length
 mm:a.m+M9 g a.out<=C
theorem pl {g:Nt}{fl pr:List Int}{s to:Nat}{out:List Int}(hg:GOk g)(hr:RN g fl pr)(hpb:PB g 1048576 pr s to)(hs:s<g.n){v:Nat}(hv:v<g.n)(hp:∀v,v<g.n->nth out v=far\/∃P,Pa g fl pr s out v P (nth out v)):0<=nth out v/\nth out v<=4611686018427387904:=by
 rcases hp v hv with e|⟨P,hP⟩
 . rw[e];unfold far;decide
 . have h1:=(hP.le hr).1
   have h2:=hP.bd hg.ok (by decide) hs hpb
   have h3:=(hpb.b v hv).1
   have h4:=hg.n
   have:(g.n:Int)*1048576<=100*1048576:=wG (by omega) (by decide)
   omega
theorem z1m {g:Nt}{u:Nat}(hu:u<g.n):(outV g)[u]? =some (lV .sc (us (ad g u))):=by
 unfold outV;rw[List.getElem?_map,zfn hu];rfl
theorem zxq (g:Nt)(u:Nat):(ad g u).length<=g.a.length:=znb g.a u g.a.length
section
variable {d :Nat} {g:Nt} {b:Bool} {fl pr:List Int} {s to u C:Nat} {di:Int} (hC:C<=11000000000) (hg:GOk g) (hfb:FB g fl) (hr:RN g fl pr) (hpb:PB g 1048576 pr s to) (hs:s<g.n) (hu:u<g.n)
include hC hg hfb hr hpb hs hu
theorem qkf {a:D9}(h:I9 g fl pr s u di C a)(hj:a.j<(ad g u).length):∃a',I9 g fl pr s u di C a'/\a'.j=a.j+1 /\
  zaz K90 (evC gl (call gl tab (d+5)) L90 (S90 a.B g b yA4 fl pr a.out a.K a.V a.m di u (us (ad g u)) a.j))=some (S90 a'.B g b yA4 fl pr a'.out a'.K a'.V a'.m di u (us (ad g u)) a'.j):=by
 obtain⟨B,out,K,V,m,j⟩:=a
 obtain⟨dj,nn,du,kl,vl,mm⟩:=h
 simp only at dj nn du kl vl mm hj ⊢
 have hje:(ad g u)[j]? =some (ad g u)[j]:=List.getElem?_eq_getElem hj
 have hi:inc g u (ad g u)[j]:=(znc g u hu _).1 (List.getElem_mem hj)
 have hql:(us (ad g u)).length<=4000:=by
  rw[zao];exact Nat.le_trans (znb _ _ _) hg.a
 have hq:=zjs hje
 generalize (ad g u)[j]=i at *
 have hkb:=fun k hk=>(hg.ok.k k hk)
 by_cases hp:0<room g fl u i
 case neg =>
  refine⟨⟨B,out,K,V,m,j+1⟩,⟨z4n dj hje (.inl (by omega)),nn,du,kl,vl,mm⟩,rfl,?_⟩
  exact qgx hfb.l hg.a hq hi hfb hg.c hkb hql hp
 have hd:=pl hg hr hpb hs hu dj.p
 rw[du]at hd
 have ht:=zi8 hg.ok hi
 have hcst:-1073741824<=cst g u i/\cst g u i<=1073741824:=by
  have:=hkb i hi.1
  unfold cst;split<;>omega
 have hnK:(g.n:Int)*1048576<=100*1048576:=wG (by have:=hg.n;omega) (by decide)
 have hprb:∀v,v<g.n->0<=nth pr v/\nth pr v<=1099511627776:=fun v hv=>by
  have h1:=hpb.b v hv
  have h2:=hpb.t
  omega
 have e:cst g u i+nth pr u-nth pr (oth g u i)=red g pr u i:=rfl
 by_cases hn:di+(cst g u i+nth pr u-nth pr (oth g u i))<nth out (oth g u i)
 case neg =>
  refine⟨⟨B,out,K,V,m,j+1⟩,⟨z4n dj hje (.inr (by show nth out (oth g u i)<=nth out u+red g pr u i;rw[du];rw[e]at hn;omega)),nn,du,kl,vl,mm⟩,rfl,?_⟩
  exact in90 hfb.l hg.a hq hi hfb hg.c hkb hql hp (zt5 hfb.l dj.l hpb.l hu ht hcst (hprb u hu) (hprb _ ht) hd (by omega) (Int.not_lt.1 hn))
 have hn':nth out u+red g pr u i<nth out (oth g u i):=by rw[du];rw[e]at hn;exact hn
 have hbn:0<=di+red g pr u i/\di+red g pr u i<=(g.n:Int)*1048576:=by
  have:=(z4o hg.ok hr hpb (by decide) (by unfold far;omega) hs hu dj hje hi hp hn' (.refl _)).2
  rw[du]at this;exact this
 have hne:=z9x hg.ok hi
 have hms:=z1x (B:=(g.n:Int)*1048576) (l:=out) (i:=oth g u i) (by rw[dj.l];exact ht) hbn.1 hbn.2 (by rw[e]at hn;exact hn)
 have hdu:nth (out.set (oth g u i) (di+red g pr u i)) u=di:=by rw[zcb (by rw[dj.l];exact ht),if_neg (fun e=>hne e.symm)];exact du
 have h0:0<=di+(cst g u i+nth pr u-nth pr (oth g u i)):=by rw[e];exact hbn.1
 by_cases hfull:K.length=m
 . obtain⟨K',V',e1,e2,e3,c⟩:=zrt (gl:=gl) (n:=d+5) (b:=b) (sh:=yA4) (K:=K) (V:=V) (i:=i) (r:=room g fl u i) (bk:=bko g u i) hfb.l dj.l hpb.l hu ht hcst (hprb u hu) (hprb _ ht) hd (by omega) hn h0 hfull (by omega) (by omega)
   rw[e]at c e3
   rw[<-du]at e3
   obtain⟨e4,e5⟩:=z1i e3 nn
   have dj':=(z4o hg.ok hr hpb (by decide) (by unfold far;omega) hs hu dj hje hi hp hn' e4).1
   rw[du]at dj'
   refine⟨⟨true,_,K',V',m+1,j+1⟩,⟨dj',e5,hdu,by simp only;omega,by simp only;omega,by simp only;unfold M9 at *;omega⟩,rfl,?_⟩
   exact qky hfb.l hg.a hq hi hfb hg.c hkb hql hp c
 . obtain⟨K',V',e1,e2,e3,c⟩:=zt6 (gl:=gl) (n:=d+5) (b:=b) (sh:=yA4) (K:=K) (V:=V) (i:=i) (r:=room g fl u i) (bk:=bko g u i) hfb.l dj.l hpb.l hu ht hcst (hprb u hu) (hprb _ ht) hd (by omega) hn h0 rfl vl (show m+1<=K.length by omega) (by omega)
   rw[e]at c e3
   rw[<-du]at e3
   obtain⟨e4,e5⟩:=z1i e3 nn
   have dj':=(z4o hg.ok hr hpb (by decide) (by unfold far;omega) hs hu dj hje hi hp hn' e4).1
   rw[du]at dj'
   refine⟨⟨B,_,K',V',m+1,j+1⟩,⟨dj',e5,hdu,by simp only;omega,by simp only;omega,by simp only;unfold M9 at *;omega⟩,rfl,?_⟩
   exact in90 hfb.l hg.a hq hi hfb hg.c hkb hql hp c
def i90 (g:Nt)(b:Bool)(sh:Sh)(fl pr out K V:List Int)(m:Nat)(di:Int)(u:Nat):Hp:=i490 g b sh fl pr out K V m di u++[(100013,.fix .sc (.ptr 100002 [])),(100014,.fix .sc (i64 (u:Int)))]
def r90 (B:Bool)(g:Nt)(b:Bool)(sh:Sh)(fl pr out K V:List Int)(m:Nat)(di:Int)(u:Nat):AV×Hp×List OB :=
 if B then(.tup [],j490 g b sh fl pr out 20000 20001 m di u++[(100013,.fix .sc (.ptr 100002 [])),(100014,.fix .sc (i64 (u:Int)))],[.grow .sc (ns K),.grow .sc (ns V)])
 else(.tup [],i90 g b sh fl pr out K V m di u,[])
theorem qhr {sh:Sh}(hsh:g.a=[]\/sh=yA4){out K V:List Int}{m:Nat}(dj:DJ g fl pr s (ad g) u 0 out (pn (prs K V m)))(nn:∀e∈prs K V m,0<=e.2)(du:nth out u=di)(kl:m<=K.length)(vl:V.length=K.length)(mm:m+M9 g out<=C) :
  ∃(B:Bool) (out' K' V':List Int) (m':Nat),DI g fl pr s out' (pn (prs K' V' m'))/\(∀e∈prs K' V' m',0<=e.2)/\m'<=K'.length/\V'.length=K'.length/\m'+M9 g out'<=C /\
   call gl tab (d+6) 90 [.yld 100000,.ptr 100013 [],.ptr 100014 []] (i90 g b sh fl pr out K V m di u)=some (r90 B g b sh fl pr out' K' V' m' di u):=by
 have hl:=z1m (g:=g) hu
 rcases wK (ad g u).length with h0|h0
 . have e0:ad g u=[]:=List.length_eq_zero_iff.1 h0
   have e1:lV .sc (us (ad g u))= .lst true .sc []:=by rw[e0];rfl
   rw[e1]at hl
   refine⟨false,out,K,V,m,qag (znc g) hu dj (show(ad g u).length<=0 by omega),nn,kl,vl,mm,?_⟩
   rw[zbo (fd:=fd90) rfl]
   simp(disch:=apply zq;omega) only[go_sem,simprocAttr,↓Nat.reduceEqDiff,xx,fd90,m90,i90,i490,hl,zi7]
   rw[zak (fun _=>⟨[.set 16 (i64 0),.set 15 (i64 0),.set 14 (.lst true .sc []),.set 2 (.ptr 100014 []),.set 1 (.ptr 100013 []),.set 0 (.yld 100000)],h90 false g b sh fl pr out K V m di u⟩) 0 (by unfold LF;omega)]
   . simp(disch:=apply zq;omega) only[go_sem,simprocAttr,↓Nat.reduceEqDiff,xx,h90,r90,i90,i490]
   . simp(disch:=apply zq;omega) only[go_sem,simprocAttr,↓Nat.reduceEqDiff,xx,h90]
   . intro i hi;omega
   . simp(disch:=apply zq;omega) only[go_sem,simprocAttr,↓Nat.reduceEqDiff,xx,h90]
 . have hne:g.a≠[]:=fun e=>by
    have:=zxq g u
    have h1:g.a.length=0:=by rw[e];rfl
    omega
   have hsh:=hsh.resolve_left hne
   subst hsh
   have e1:lV .sc (us (ad g u))= .lst false .sc (us (ad g u)):=by
    unfold lV;rw[zjr,if_neg]
    rw[List.isEmpty_iff];intro e;rw[e]at h0;simp at h0
   rw[e1]at hl
   obtain⟨a,⟨ha,hjl⟩,hfin,hiter⟩:=zmo (f:=evC gl (call gl tab (d+5)) L90) (ks:=K90) (fun a:D9=>S90 a.B g b yA4 fl pr a.out a.K a.V a.m di u (us (ad g u)) a.j) (fun a=>I9 g fl pr s u di C a/\a.j<=(ad g u).length) (fun a=>a.j=(ad g u).length) (fun a=>(ad g u).length-a.j) (a0:=⟨false,out,K,V,m,0⟩)
    (by have:=zxq g u;have:=hg.a;unfold LF;simp only;omega) ⟨⟨dj,nn,du,kl,vl,mm⟩,Nat.zero_le _⟩
    (fun a ⟨ha,hjl⟩=>by
      by_cases hj:a.j<(ad g u).length
      . obtain⟨a',h1,h2,h3⟩:=@qkf gl d g b fl pr s to u C di hC hg hfb hr hpb hs hu a ha hj
        exact .inr ⟨a',⟨h1,by omega⟩,by omega,h3⟩
      . refine .inl ⟨by omega,?_⟩
        have e:a.j=(ad g u).length:=by omega
        obtain⟨B,out,K,V,m,j⟩:=a
        simp only at e
        subst e
        cases B
        . simp(disch:=apply zq;omega) only[go_sem,simprocAttr,↓Nat.reduceEqDiff,xx,L90,m90,S90,f90,h90,zao]
        . simp(disch:=apply zq;omega) only[go_sem,simprocAttr,↓Nat.reduceEqDiff,xx,L90,m90,S90,f90,h90,zao])
   refine⟨a.B,a.out,a.K,a.V,a.m,qag (znc g) hu ha.dj (show(ad g u).length<=a.j by omega),ha.nn,ha.kl,ha.vl,ha.mm,?_⟩
   obtain⟨B,out',K',V',m',j'⟩:=a
   simp only at hfin
   subst hfin
   simp only[L90,m90]at hiter
   rw[zbo (fd:=fd90) rfl]
   simp(disch:=apply zq;omega) only[go_sem,simprocAttr,↓Nat.reduceEqDiff,xx,fd90,m90,i90,i490,hl,zi7]
   rw[hiter]
   . cases B
     . simp(disch:=apply zq;omega) only[go_sem,simprocAttr,↓Nat.reduceEqDiff,xx,S90,f90,h90,zao,r90,i90,i490]
     . simp(disch:=apply zq;omega) only[go_sem,simprocAttr,↓Nat.reduceEqDiff,xx,S90,f90,h90,zao,r90,j490]
   . simp(disch:=apply zq;omega) only[go_sem,simprocAttr,↓Nat.reduceEqDiff,xx,S90,f90,h90]
end
end Go.Proofs.S50
namespace Go.Proofs.S50
open Go Go.Ev Go.Proofs Go.Fl
variable {gl :Gl} {n:Nat}
set_option maxHeartbeats 4000000 in
theorem qfr {d:Nat}{g:Nt}{b B:Bool}{sh:Sh}{fl pr out K V K1 V1 out' K' V':List Int}{m m' u:Nat}{di:Int}(ho:out.length=g.n)(hu:u<g.n)(hd:nth out u=di)
  (c69:call gl tab (d+7) 69 [.ptr 100000 []] [(100000,.fix sHp (.aggR [.sl 100001 [] 0 (m+1),.sl 100002 [] 0 (m+1)])),(100001,.grow .sc (ns K)),(100002,.grow .sc (ns V))] =
  some (.tup [i64 di,i64 (u:Int)],[(100000,.fix sHp (.aggR [.sl 100001 [] 0 m,.sl 100002 [] 0 m])),(100001,.grow .sc (ns K1)),(100002,.grow .sc (ns V1))],[]))
  (c90:call gl tab (d+7) 90 [.yld 100000,.ptr 100013 [],.ptr 100014 []] (i90 g b sh fl pr out K1 V1 m di u)=some (r90 B g b sh fl pr out' K' V' m' di u)) :
  zaz K49 (evC gl (call gl tab (d+7)) L49 (S49 g b sh fl pr out K V (m+1)))=some (S49 g b sh fl pr out' K' V' m'):=by
 have x1:=zb2 (show u<out.length by omega)
 have c70:=@zz6 gl (d+7) (by omega) g b sh fl pr u
 simp only[i90,i490,wB,wC]at c90
 cases B
 . simp only[r90,i90,i490,wB,wC,Bool.false_eq_true,if_false]at c90
   simp(disch:=apply zq;omega) only[go_sem,simprocAttr,↓Nat.reduceEqDiff,xx,L49,m49,S49,c69,x1,zab,ho,hd,c70,c90]
 . simp only[r90,j490,wB,wC,if_true]at c90
   simp(disch:=apply zq;omega) only[go_sem,simprocAttr,↓Nat.reduceEqDiff,xx,L49,m49,S49,c69,x1,zab,ho,hd,c70,c90,zbp]
structure J9 where
 out:List Int
 K:List Int
 V:List Int
 m:Nat
structure Q9 (g:Nt)(fl pr:List Int)(s:Nat)(a:J9):Prop where
 di:DI g fl pr s a.out (pn (prs a.K a.V a.m))
 nn:∀e∈prs a.K a.V a.m,0<=e.2
 kl:a.m<=a.K.length
 vl:a.V.length=a.K.length
 mm:a.m+M9 g a.out<=11000000000
section
variable {d :Nat} {g:Nt} {b:Bool} {sh:Sh} {fl pr:List Int} {s to:Nat} (hg:GOk g) (hfb:FB g fl) (hr:RN g fl pr) (hpb:PB g 1048576 pr s to) (hs:s<g.n) (hsh:g.a=[]\/sh=yA4)
include hg hfb hr hpb hs hsh
theorem qgb {a:J9}(h:Q9 g fl pr s a)(hm:0<a.m):∃a',Q9 g fl pr s a'/\a'.m+M9 g a'.out<a.m+M9 g a.out /\
  zaz K49 (evC gl (call gl tab (d+7)) L49 (S49 g b sh fl pr a.out a.K a.V a.m))=some (S49 g b sh fl pr a'.out a'.K a'.V a'.m):=by
 obtain⟨out,K,V,m⟩:=a
 obtain⟨di,nn,kl,vl,mm⟩:=h
 simp only at di nn kl vl mm hm ⊢
 obtain⟨m,rfl⟩:∃k,m=k+1:=⟨m-1,by omega⟩
 obtain⟨K1,V1,e1,e2,e3,c69⟩:=@qhg gl (d+7) (by omega) K V m K.length rfl vl kl (by omega)
 have hmem:(nth K 0,nth V 0)∈prs K V (m+1):=e3.mem_iff.2 wE
 have hv0:0<=nth V 0:=nn _ hmem
 have nn1:∀e∈prs K1 V1 m,0<=e.2:=fun e he=>nn e (e3.mem_iff.2 (List.mem_cons_of_mem _ he))
 have hpn:(pn (prs K V (m+1))).Perm ((nth K 0,(nth V 0).toNat)::pn (prs K1 V1 m)):=by
  have:=e3.map fun e:Int×Int=>(e.1,e.2.toNat)
  rw[wF]at this
  exact this
 have hin:=di.h (nth K 0,(nth V 0).toNat) (hpn.mem_iff.2 wE)
 have hun:(nth V 0).toNat<g.n:=hin.1
 have e4:nth V 0=(((nth V 0).toNat:Nat):Int):=by omega
 rw[e4]at c69
 generalize (nth V 0).toNat=u at *
 generalize nth K 0=k0 at *
 by_cases hd:nth out u<k0
 . refine⟨⟨out,K1,V1,m⟩,⟨z8u di hpn hd,nn1,by simp only;omega,by simp only;omega,by simp only;omega⟩,by simp only;omega,?_⟩
   exact qbr (d:=d+4) di.l hun hd c69
 . obtain⟨he,dj⟩:=qef (adj:=ad g) di hpn hd
   obtain⟨B,out',K',V',m',f1,f2,f3,f4,f5,c90⟩:=@qhr gl (d+1) g b fl pr s to u (m+M9 g out) k0 (by omega) hg hfb hr hpb hs hun sh hsh out K1 V1 m dj nn1 he (by omega) (by omega) (Nat.le_refl _)
   refine⟨⟨out',K',V',m'⟩,⟨f1,f2,f3,f4,by simp only;omega⟩,by simp only;omega,?_⟩
   exact qfr di.l hun he c69 c90
theorem zta (hn:8<=n):∃out,DI g fl pr s out []/\call gl tab n 49 [.ptr 100000 [],i64 (s:Int)] (nwH g b sh fl pr)=some (.sl 20000 [] 0 g.n,nwH g b sh fl pr,[.grow .sc (ns out)]):=by
 obtain⟨d,rfl⟩:=wJ hn
 have hgn:=hg.n
 have c67:=@z06 gl (d+7) (by omega) g.n 4611686018427387904 (by omega) (by omega)
 have x1:(ns (List.replicate g.n 4611686018427387904))[s]? =some (i64 4611686018427387904):=by rw[zb2 (by simp;exact hs)];simp[nth,List.getElem?_replicate,hs]
 have c68:=@qks gl (d+7) (by omega) 0 s
 have hset:(ns (List.replicate g.n 4611686018427387904)).set s (.int .i64 0)=ns ((List.replicate g.n far).set s 0):=by rw[zh4];rfl
 have hms:M9 g ((List.replicate g.n far).set s 0)<=10990000000:=by
  have h1:=z90 (B:=(g.n:Int)*1048576) (by omega) ((List.replicate g.n far).set s 0)
  rw[List.length_set,wD]at h1
  have h2:g.n*((g.n:Int)*1048576+1).toNat<=100*104857601:=Nat.mul_le_mul hgn (by omega)
  unfold M9;omega
 obtain⟨a,ha,hf,hiter⟩:=zmo (f:=evC gl (call gl tab (d+7)) L49) (ks:=K49) (fun a:J9=>S49 g b sh fl pr a.out a.K a.V a.m) (Q9 g fl pr s) (fun a=>a.m=0) (fun a=>a.m+M9 g a.out) (a0:=⟨(List.replicate g.n far).set s 0,[0],[(s:Int)],1⟩)
  (by unfold LF;simp only;omega) ⟨di_0 hs,(fun e he=>by
    have:prs [0] [(s:Int)] 1=[(0,(s:Int))]:=rfl
    simp only[this,List.mem_singleton]at he
    rw[he];exact wH s),by simp,by simp,by simp only;omega⟩
  (fun a ha=>by
    rcases wK a.m with h0|h0
    . refine .inl ⟨h0,?_⟩
      rw[h0]
      simp(disch:=apply zq;omega) only[go_sem,simprocAttr,↓Nat.reduceEqDiff,xx,L49,m49,S49]
    . obtain⟨a',h1,h2,h3⟩:=@qgb gl d g b sh fl pr s to hg hfb hr hpb hs hsh a ha h0
      exact .inr ⟨a',h1,h2,h3⟩)
 have hdi:=ha.di
 rw[hf]at hdi hiter
 refine⟨a.out,hdi,?_⟩
 simp only[L49,m49]at hiter
 rw[zbo (fd:=fd49) rfl]
 simp(disch:=apply zq;omega) only[go_sem,simprocAttr,↓Nat.reduceEqDiff,xx,fd49,m49,c67,x1,c68,zbp,zab,wD,hset]
 rw[hiter]
 . simp(disch:=apply zq;omega) only[go_sem,simprocAttr,↓Nat.reduceEqDiff,xx,S49]
 . simp(disch:=apply zq;omega) only[go_sem,simprocAttr,↓Nat.reduceEqDiff,xx,S49]
end
end Go.Proofs.S50
namespace Go.Proofs.S50
open Go Go.Ev Go.Proofs Go.Fl
variable {gl :Gl} {n:Nat}
def bs (l:List Bool):List AV:=l.map .bool
theorem zc0 (l:List Bool):(bs l).length=l.length:=by simp[bs]
theorem z86 {l:List Bool}{i:Nat}(h:i<l.length):(bs l)[i]? =some (.bool (dd l i)):=by simp[bs,dd,h]
theorem ztj (l:List Bool)(i:Nat)(x:Bool):bs (l.set i x)=(bs l).set i (.bool x):=by simp[bs]
theorem qjr (n:Nat)(x:Bool):List.replicate n (AV.bool x)=bs (List.replicate n x):=by simp[bs]
def i73 (g:Nt)(b:Bool)(sh:Sh)(fl pr:List Int)(dead:List Bool)(to:Nat):Hp :=
 [(100000,.fix .sc (i64 (to:Int))),(100001,.fix .sc (.sl 100002 [] 0 g.n)),(100002,.grow .sc (bs dead)),(100003,.fix .sc (.ptr 100004 [])),(100004,.fix sNw (nwV g b sh 100005 100006)),(100005,.grow .sc (ns fl)),(100006,.grow .sc (ns pr)),(100007,.fix .sc (.fn 73 [.ptr 100000 [],.ptr 100001 [],.ptr 100003 [],.ptr 100007 []]))]
abbrev a73 (u:Nat)(M:Int):List AV:=[i64 (u:Int),i64 M,.ptr 100000 [],.ptr 100001 [],.ptr 100003 [],.ptr 100007 []]
theorem z60 (h:1<=n){g:Nt}{b:Bool}{sh:Sh}{fl pr:List Int}{dead:List Bool}{u to:Nat}{M:Int}(hu:u=to\/M=0):call gl tab n 73 (a73 u M) (i73 g b sh fl pr dead to)=some (i64 M,i73 g b sh fl pr dead to,[]):=by
 obtain⟨d,rfl⟩:=wJ h
 rw[zbo (fd:=fd73) rfl]
 by_cases e:u=to
 . subst e
   simp(disch:=apply zq;omega) only[go_sem,simprocAttr,↓Nat.reduceEqDiff,xx,fd73,m73,i73]
 . have hM:=hu.resolve_left e
   subst hM
   have e2:((u:Int)==(to:Int))=false:=by rw[beq_eq_false_iff_ne];omega
   simp(disch:=apply zq;omega) only[go_sem,simprocAttr,↓Nat.reduceEqDiff,xx,fd73,m73,i73,e2]
def i730 (st:RS)(g:Nt)(b:Bool)(sh:Sh)(fl pr:List Int)(dead:List Bool)(to u:Nat)(M sent:Int):Hp :=
 [(100000,.lp 730 [.ptr 100001 [],.ptr 100003 [],.ptr 100007 [],.ptr 100009 [],.ptr 100010 [],.ptr 100011 []] st),(100001,.fix .sc (.sl 100002 [] 0 g.n)),(100002,.grow .sc (bs dead)),(100003,.fix .sc (.ptr 100004 [])),(100004,.fix sNw (nwV g b sh 100005 100006)),(100005,.grow .sc (ns fl)),(100006,.grow .sc (ns pr)),(100007,.fix .sc (.fn 73 [.ptr 100008 [],.ptr 100001 [],.ptr 100003 [],.ptr 100007 []])),(100008,.fix .sc (i64 (to:Int))),(100009,.fix .sc (i64 (u:Int))),(100010,.fix .sc (i64 M)),(100011,.fix .sc (i64 sent))]
section
variable {g :Nt} {b:Bool} {sh:Sh} {fl pr:List Int} {dead:List Bool} {to u i t:Nat} {M sent r c:Int} {bk:Bool} (hf:fl.length=g.a.length) (hp:pr.length=g.n) (hdl:dead.length=g.n) (hu:u<g.n) (ht:t<g.n)
  (hc:-1073741824<=c/\c<=1073741824) (h1:0<=nth pr u/\nth pr u<=1099511627776) (h2:0<=nth pr t/\nth pr t<=1099511627776)
include hf hp hdl hu ht hc h1 h2
theorem zng (h:2<=n)(hs:sent=M):call gl tab n 1000730 [wV i t r c bk] (i730 .ready g b sh fl pr dead to u M sent)=some (.bool false,i730 (.done (.exit 0)) g b sh fl pr dead to u M sent,[]):=by
 obtain⟨d,rfl⟩:=wJ h
 subst hs
 rw[zd4 (fd:=zh5) rfl rfl]
 simp(disch:=apply zq;omega) only[go_sem,simprocAttr,↓Nat.reduceEqDiff,xx,zh5,zuo,zum,i730]
theorem zpn (h:2<=n)(hs:sent≠M)(hk:dd dead t=true\/c+nth pr u-nth pr t≠0):call gl tab n 1000730 [wV i t r c bk] (i730 .ready g b sh fl pr dead to u M sent)=some (.bool true,i730 .ready g b sh fl pr dead to u M sent,[]):=by
 obtain⟨d,rfl⟩:=wJ h
 have e1:(sent==M)=false:=by rw[beq_eq_false_iff_ne];exact hs
 have c71:=@zfr gl (d+1) (by omega) g b sh false false fl pr u i t r c bk (by omega) (by omega) hc h1 h2
 have x1:=z86 (show t<dead.length by omega)
 have t1:=zek hf
 have t2:=zek hp
 rw[zd4 (fd:=zh5) rfl rfl]
 cases hd:dd dead t with
 | true =>
   rw[hd]at x1
   simp(disch:=apply zq;omega) only[go_sem,simprocAttr,↓Nat.reduceEqDiff,xx,zh5,zuo,zum,i730,e1,x1,zc0,hdl]
 | false =>
   rw[hd]at x1 hk
   have hz:=hk.resolve_left (by decide)
   generalize c+nth pr u-nth pr t=z at *
   have e2:(z != 0)=true:=by simp;exact hz
   simp(disch:=apply zq;omega) only[go_sem,simprocAttr,↓Nat.reduceEqDiff,xx,zh5,zuo,zum,i730,e1,x1,zc0,hdl,c71,zab,hf,hp,t1,t2,e2]
theorem zrs (h:2<=n)(hs:sent≠M)(hk:dd dead t=false)(hz:c+nth pr u-nth pr t=0)(hM:0<=sent/\sent<=M/\M<=1099511627776)(hr:0<=r/\r<=1073741824)(hi:i<g.a.length){q:Int}{fl':List Int}{dead':List Bool}(hq:0<=q/\q<=1073741824)(hf':fl'.length=g.a.length)(hfi:0<=nth fl' i/\nth fl' i<=1073741824)
  (c73:call gl tab (n-1) 73 (a73 t (mi r (M-sent))) (i73 g b sh fl pr dead to)=some (i64 q,i73 g b sh fl' pr dead' to,[])) :
  call gl tab n 1000730 [wV i t r c bk] (i730 .ready g b sh fl pr dead to u M sent)=some (.bool true,i730 .ready g b sh (fl'.set i (nth fl' i+if bk then -q else q)) pr dead' to u M (sent+q),[]):=by
 obtain⟨d,rfl⟩:=wJ h
 rw[show d+2-1=d+1 from rfl]at c73
 have e1:(sent==M)=false:=by rw[beq_eq_false_iff_ne];exact hs
 have c71:=@zfr gl (d+1) (by omega) g b sh false false fl pr u i t r c bk (by omega) (by omega) hc h1 h2
 rw[hz]at c71
 have x1:=z86 (show t<dead.length by omega)
 have x2:=zb2 (show i<fl'.length by omega)
 have t1:=zek hf
 have t2:=zek hp
 rw[hk]at x1
 simp only[i73]at c73
 have emi:(if M-sent<r then M-sent else r)=mi r (M-sent):=rfl
 have emx:(if 0-q>q then 0-q else q)=q:=if_neg (by omega)
 have emx2:(if 0-(0-q)>0-q then 0-(0-q)else 0-q)=q:=by split<;>omega
 rw[zd4 (fd:=zh5) rfl rfl]
 cases bk
 . simp(disch:=apply zq;omega) only[go_sem,simprocAttr,↓Nat.reduceEqDiff,xx,zh5,zuo,zum,i730,e1,x1,x2,zgt,zmg,zp8,emi,emx,Option.bind_some,zc0,hdl,c71,zab,hf,hf',hp,t1,t2,c73,zh4]
 . simp(disch:=apply zq;omega) only[go_sem,simprocAttr,↓Nat.reduceEqDiff,xx,zh5,zuo,zum,i730,e1,x1,x2,zgt,zmg,zp8,emi,emx2,Option.bind_some,zc0,hdl,c71,zab,hf,hf',hp,t1,t2,c73,zh4]
   rw[Int.zero_sub]
end
end Go.Proofs.S50
