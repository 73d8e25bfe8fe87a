/-
  Flows: distances. No condition.
-/
import Derived.Test.YtaloneiaejhopaaGreatDoorW51G4x3
set_option linter.all false
open List renaming nil_append->wB,getElem?_eq_some_iff->wC,getElem?_replicate->wD,cons_append->wE,isEmpty_iff->wF,getD_eq_getElem?_getD->wG,length_singleton->wH,length_replicate->wJ,mem_cons_self->wK,isEmpty_nil->wM,length_set->wN,map_cons->wO
open Nat renaming reduceEqDiff->wP,exists_eq_add_of_le'->wQ,le_refl->wR,eq_zero_or_pos->wS
open Option renaming bind_some->wT
open Int renaming mul_le_mul_of_nonneg_right->wU
namespace Go.Proofs.S51
open Go Go.Ev Go.Proofs Go.Fl
variable {gl :Gl} {n:Nat}
set_option maxHeartbeats 4000000 in
theorem Qs {d:Nat}{g:Nt}{b B:Bool}{sh:Sh}{fl pr out K V K1 V1 out' K' V':List Int}{m m' u:Nat}{di:Int}(ho:out.length=g.n)(hu:u<g.n)(hd:nth out u=di)
  (c69:call gl tab (d+7) 84 [.ptr 100000 []] [(100000,.fix sHp (.aggR [.sl 100001 [] 0 (m+1),.sl 100002 [] 0 (m+1)])),(100001,.grow .sc (ns K)),(100002,.grow .sc (ns V))] =
  some (.tup [i64 di,i64 (u:Int)],[(100000,.fix sHp (.aggR [.sl 100001 [] 0 m,.sl 100002 [] 0 m])),(100001,.grow .sc (ns K1)),(100002,.grow .sc (ns V1))],[]))
  (c90:call gl tab (d+7) 113 [.yld 100000,.ptr 100013 [],.ptr 100014 []] (i90 g b sh fl pr out K1 V1 m di u)=some (r90 B g b sh fl pr out' K' V' m' di u)) :
  aK K49 (evC gl (call gl tab (d+7)) L49 (S49 g b sh fl pr out K V (m+1)))=some (S49 g b sh fl pr out' K' V' m'):=by
 have x1:=bc (show u<out.length by omega);have c70:=@ways_at gl (d+7) (by omega) g b sh fl pr u;simp only[i90,iF,wE,wB]at c90;cases B
 . simp only[r90,i90,iF,wE,wB,Bool.false_eq_true,if_false]at c90;simp(disch:=apply zq;omega) only[go_sem,simprocAttr,↓wP,xx,L49,S49,c69,x1,ae,ho,hd,c70,c90]
 . simp only[r90,uR,wE,wB,if_true]at c90;simp(disch:=apply zq;omega) only[go_sem,simprocAttr,↓wP,xx,L49,S49,c69,x1,ae,ho,hd,c70,c90,bH]
structure J9 where
 out:List Int
 K:List Int
 V:List Int
 m:Nat
structure Q9 (g:Nt)(fl pr:List Int)(s:Nat)(a:J9):Prop where
 di:DI g fl pr s a.out (pn (prs a.K a.V a.m))
 nn:∀e∈prs a.K a.V a.m,0<=e.2
 kl:a.m<=a.K.length
 vl:a.V.length=a.K.length
 mm:a.m+M9 g a.out<=11000000000
section
variable {d :Nat} {g:Nt} {b:Bool} {sh:Sh} {fl pr:List Int} {s to:Nat} (hg:GOk g) (hfb:FB g fl) (hr:RN g fl pr) (hpb:PB g 1048576 pr s to) (hs:s<g.n) (hsh:g.a=[]\/sh=yA4)
include hg hfb hr hpb hs hsh
theorem QU {a:J9}(h:Q9 g fl pr s a)(hm:0<a.m):∃a',Q9 g fl pr s a'/\a'.m+M9 g a'.out<a.m+M9 g a.out /\
  aK K49 (evC gl (call gl tab (d+7)) L49 (S49 g b sh fl pr a.out a.K a.V a.m))=some (S49 g b sh fl pr a'.out a'.K a'.V a'.m):=by
 obtain⟨out,K,V,m⟩:=a;obtain⟨di,nn,kl,vl,mm⟩:=h;simp only at di nn kl vl mm hm ⊢;obtain⟨m,rfl⟩:∃k,m=k+1:=⟨m-1,by omega⟩;obtain⟨K1,V1,e1,e2,e3,c69⟩:=@RE gl (d+7) (by omega) K V m K.length rfl vl kl (by omega);have hmem:(nth K 0,nth V 0)∈prs K V (m+1):=e3.mem_iff.2 wK;have hv0:0<=nth V 0:=nn _ hmem;have nn1:∀e∈prs K1 V1 m,0<=e.2:=fun e he=>nn e (e3.mem_iff.2 (List.mem_cons_of_mem _ he))
 have hpn:(pn (prs K V (m+1))).Perm ((nth K 0,(nth V 0).toNat)::pn (prs K1 V1 m)):=by
  have:=e3.map fun e:Int×Int=>(e.1,e.2.toNat)
  rw[wO]at this;exact this
 have hin:=di.h (nth K 0,(nth V 0).toNat) (hpn.mem_iff.2 wK);have hun:(nth V 0).toNat<g.n:=hin.1;have e4:nth V 0=(((nth V 0).toNat:Nat):Int):=by omega
 rw[e4]at c69;generalize (nth V 0).toNat=u at *
 generalize nth K 0=k0 at *
 by_cases hd:nth out u<k0
 . refine⟨⟨out,K1,V1,m⟩,⟨Lc di hpn hd,nn1,by simp only;omega,by simp only;omega,by simp only;omega⟩,by simp only;omega,?_⟩;exact ME (d:=d+4) di.l hun hd c69
 . obtain⟨he,dj⟩:=On (adj:=ad g) di hpn hd;obtain⟨B,out',K',V',m',f1,f2,f3,f4,f5,c90⟩:=@RT gl (d+1) g b fl pr s to u (m+M9 g out) k0 (by omega) hg hfb hr hpb hs hun sh hsh out K1 V1 m dj nn1 he (by omega) (by omega) (wR _);refine⟨⟨out',K',V',m'⟩,⟨f1,f2,f3,f4,by simp only;omega⟩,by simp only;omega,?_⟩;exact Qs di.l hun he c69 c90
theorem yU (hn:8<=n):∃out,DI g fl pr s out []/\call gl tab n 57 [.ptr 100000 [],i64 (s:Int)] (nwH g b sh fl pr)=some (.sl 20000 [] 0 g.n,nwH g b sh fl pr,[.grow .sc (ns out)]):=by
 obtain⟨d,rfl⟩:=wQ hn;have hgn:=hg.n;have c67:=@Fc gl (d+7) (by omega) g.n 4611686018427387904 (by omega) (by omega);have x1:(ns (List.replicate g.n 4611686018427387904))[s]? =some (i64 4611686018427387904):=by rw[bc (by simp;exact hs)];simp[nth,wD,hs]
 have c68:=@UV gl (d+7) (by omega) 0 s;have hset:(ns (List.replicate g.n 4611686018427387904)).set s (.int .i64 0)=ns ((List.replicate g.n far).set s 0):=by rw[fB];rfl
 have hms:M9 g ((List.replicate g.n far).set s 0)<=10990000000:=by have h1:=Ch (B:=(g.n:Int)*1048576) (by omega) ((List.replicate g.n far).set s 0);rw[wN,wJ]at h1;have h2:g.n*((g.n:Int)*1048576+1).toNat<=100*104857601:=Nat.mul_le_mul hgn (by omega);unfold M9;omega
 obtain⟨a,ha,hf,hiter⟩:=fF (f:=evC gl (call gl tab (d+7)) L49) (ks:=K49) (fun a:J9=>S49 g b sh fl pr a.out a.K a.V a.m) (Q9 g fl pr s) (fun a=>a.m=0) (fun a=>a.m+M9 g a.out) (a0:=⟨(List.replicate g.n far).set s 0,[0],[(s:Int)],1⟩)
  (by unfold LF;simp only;omega) ⟨Ya hs,(fun e he=>by
    have:prs [0] [(s:Int)] 1=[(0,(s:Int))]:=rfl;simp only[this,List.mem_singleton]at he;rw[he];exact Int.natCast_nonneg s),by simp,by simp,by simp only;omega⟩
  (fun a ha=>by
    rcases wS a.m with h0|h0
    . refine .inl ⟨h0,?_⟩;rw[h0];simp(disch:=apply zq;omega) only[go_sem,simprocAttr,↓wP,xx,L49,S49]
    . obtain⟨a',h1,h2,h3⟩:=@QU gl d g b sh fl pr s to hg hfb hr hpb hs hsh a ha h0;exact .inr ⟨a',h1,h2,h3⟩)
 have hdi:=ha.di;rw[hf]at hdi hiter;refine⟨a.out,hdi,?_⟩;simp only[L49,wq]at hiter;rw[bf (fd:=Tf) rfl];simp(disch:=apply zq;omega) only[go_sem,simprocAttr,↓wP,xx,Tf,m57,c67,x1,c68,bH,ae,wJ,hset];rw[hiter]
 . simp(disch:=apply zq;omega) only[go_sem,simprocAttr,↓wP,xx,S49]
 . simp(disch:=apply zq;omega) only[go_sem,simprocAttr,↓wP,xx,S49]
end
def bs (l:List Bool):List AV:=l.map .bool
theorem dB (l:List Bool):(bs l).length=l.length:=by simp[bs]
theorem EO {l:List Bool}{i:Nat}(h:i<l.length):(bs l)[i]? =some (.bool (dd l i)):=by simp[bs,dd,h]
theorem uk (l:List Bool)(i:Nat)(x:Bool):bs (l.set i x)=(bs l).set i (.bool x):=by simp[bs]
theorem T7 (n:Nat)(x:Bool):List.replicate n (AV.bool x)=bs (List.replicate n x):=by simp[bs]
def i73 (g:Nt)(b:Bool)(sh:Sh)(fl pr:List Int)(dead:List Bool)(to:Nat):Hp :=
 [(100000,.fix .sc (i64 (to:Int))),(100001,.fix .sc (.sl 100002 [] 0 g.n)),(100002,.grow .sc (bs dead)),(100003,.fix .sc (.ptr 100004 [])),(100004,.fix sNw (nwV g b sh 100005 100006)),(100005,.grow .sc (ns fl)),(100006,.grow .sc (ns pr)),(100007,.fix .sc (.fn 88 [.ptr 100000 [],.ptr 100001 [],.ptr 100003 [],.ptr 100007 []]))]
abbrev a73 (u:Nat)(M:Int):List AV:=[i64 (u:Int),i64 M,.ptr 100000 [],.ptr 100001 [],.ptr 100003 [],.ptr 100007 []]
theorem IC (h:1<=n){g:Nt}{b:Bool}{sh:Sh}{fl pr:List Int}{dead:List Bool}{u to:Nat}{M:Int}(hu:u=to\/M=0):call gl tab n 88 (a73 u M) (i73 g b sh fl pr dead to)=some (i64 M,i73 g b sh fl pr dead to,[]):=by
 obtain⟨d,rfl⟩:=wQ h;rw[bf (fd:=CZ) rfl];by_cases e:u=to
 . subst e;simp(disch:=apply zq;omega) only[go_sem,simprocAttr,↓wP,xx,CZ,m88,i73]
 . have hM:=hu.resolve_left e;subst hM;have e2:((u:Int)==(to:Int))=false:=by rw[beq_eq_false_iff_ne];omega
   simp(disch:=apply zq;omega) only[go_sem,simprocAttr,↓wP,xx,CZ,m88,i73,e2]
def gW (st:RS)(g:Nt)(b:Bool)(sh:Sh)(fl pr:List Int)(dead:List Bool)(to u:Nat)(M sent:Int):Hp :=
 [(100000,.lp 880 [.ptr 100001 [],.ptr 100003 [],.ptr 100007 [],.ptr 100009 [],.ptr 100010 [],.ptr 100011 []] st),(100001,.fix .sc (.sl 100002 [] 0 g.n)),(100002,.grow .sc (bs dead)),(100003,.fix .sc (.ptr 100004 [])),(100004,.fix sNw (nwV g b sh 100005 100006)),(100005,.grow .sc (ns fl)),(100006,.grow .sc (ns pr)),(100007,.fix .sc (.fn 88 [.ptr 100008 [],.ptr 100001 [],.ptr 100003 [],.ptr 100007 []])),(100008,.fix .sc (i64 (to:Int))),(100009,.fix .sc (i64 (u:Int))),(100010,.fix .sc (i64 M)),(100011,.fix .sc (i64 sent))]
section
variable {g :Nt} {b:Bool} {sh:Sh} {fl pr:List Int} {dead:List Bool} {to u i t:Nat} {M sent r c:Int} {bk:Bool} (hf:fl.length=g.a.length) (hp:pr.length=g.n) (hdl:dead.length=g.n) (hu:u<g.n) (ht:t<g.n)
  (hc:-1073741824<=c/\c<=1073741824) (h1:0<=nth pr u/\nth pr u<=1099511627776) (h2:0<=nth pr t/\nth pr t<=1099511627776)
include hf hp hdl hu ht hc h1 h2
theorem rZ (h:2<=n)(hs:sent=M):call gl tab n 1000880 [wV i t r c bk] (gW .ready g b sh fl pr dead to u M sent)=some (.bool false,gW (.done (.exit 0)) g b sh fl pr dead to u M sent,[]):=by obtain⟨d,rfl⟩:=wQ h;subst hs;rw[cX (fd:=iX) rfl rfl];simp(disch:=apply zq;omega) only[go_sem,simprocAttr,↓wP,xx,iX,sX,sS,gW]
theorem uO (h:2<=n)(hs:sent≠M)(hk:dd dead t=true\/c+nth pr u-nth pr t≠0):call gl tab n 1000880 [wV i t r c bk] (gW .ready g b sh fl pr dead to u M sent)=some (.bool true,gW .ready g b sh fl pr dead to u M sent,[]):=by
 obtain⟨d,rfl⟩:=wQ h;have e1:(sent==M)=false:=by rw[beq_eq_false_iff_ne];exact hs
 have c71:=@ie gl (d+1) (by omega) g b sh false false fl pr u i t r c bk (by omega) (by omega) hc h1 h2;have x1:=EO (show t<dead.length by omega);have t1:=eK hf;have t2:=eK hp;rw[cX (fd:=iX) rfl rfl]
 cases hd:dd dead t with
 | true =>rw[hd]at x1;simp(disch:=apply zq;omega) only[go_sem,simprocAttr,↓wP,xx,iX,sX,sS,gW,e1,x1,dB,hdl]
 | false =>
   rw[hd]at x1 hk;have hz:=hk.resolve_left (by decide);generalize c+nth pr u-nth pr t=z at *
   have e2:(z != 0)=true:=by simp;exact hz
   simp(disch:=apply zq;omega) only[go_sem,simprocAttr,↓wP,xx,iX,sX,sS,gW,e1,x1,dB,hdl,c71,ae,hf,hp,t1,t2,e2]
theorem xM (h:2<=n)(hs:sent≠M)(hk:dd dead t=false)(hz:c+nth pr u-nth pr t=0)(hM:0<=sent/\sent<=M/\M<=1099511627776)(hr:0<=r/\r<=1073741824)(hi:i<g.a.length){q:Int}{fl':List Int}{dead':List Bool}(hq:0<=q/\q<=1073741824)(hf':fl'.length=g.a.length)(hfi:0<=nth fl' i/\nth fl' i<=1073741824)
  (c73:call gl tab (n-1) 88 (a73 t (mi r (M-sent))) (i73 g b sh fl pr dead to)=some (i64 q,i73 g b sh fl' pr dead' to,[])) :
  call gl tab n 1000880 [wV i t r c bk] (gW .ready g b sh fl pr dead to u M sent)=some (.bool true,gW .ready g b sh (fl'.set i (nth fl' i+if bk then -q else q)) pr dead' to u M (sent+q),[]):=by
 obtain⟨d,rfl⟩:=wQ h;rw[show d+2-1=d+1 from rfl]at c73;have e1:(sent==M)=false:=by rw[beq_eq_false_iff_ne];exact hs
 have c71:=@ie gl (d+1) (by omega) g b sh false false fl pr u i t r c bk (by omega) (by omega) hc h1 h2;rw[hz]at c71;have x1:=EO (show t<dead.length by omega);have x2:=bc (show i<fl'.length by omega);have t1:=eK hf;have t2:=eK hp;rw[hk]at x1;simp only[i73]at c73;have emi:(if M-sent<r then M-sent else r)=mi r (M-sent):=rfl;have emx:(if 0-q>q then 0-q else q)=q:=if_neg (by omega);have emx2:(if 0-(0-q)>0-q then 0-(0-q)else 0-q)=q:=by split<;>omega
 rw[cX (fd:=iX) rfl rfl];cases bk
 . simp(disch:=apply zq;omega) only[go_sem,simprocAttr,↓wP,xx,iX,sX,sS,gW,e1,x1,x2,fL,ka,mI,emi,emx,wT,dB,hdl,c71,ae,hf,hf',hp,t1,t2,c73,fB]
 . simp(disch:=apply zq;omega) only[go_sem,simprocAttr,↓wP,xx,iX,sX,sS,gW,e1,x1,x2,fL,ka,mI,emi,emx2,wT,dB,hdl,c71,ae,hf,hf',hp,t1,t2,c73,fB];rw[Int.zero_sub]
end
def f91 (q:List AV)(j:Nat):Fr:=[.set 16 (i64 (j:Int)),.set 15 (i64 (q.length:Int)),.set 14 (.lst false .sc q),.set 2 (.ptr 100013 []),.set 1 (.ptr 100012 []),.set 0 (.yld 100000)]
def h91 (st:RS)(g:Nt)(b:Bool)(sh:Sh)(fl pr:List Int)(dead:List Bool)(to u:Nat)(M sent:Int):Hp :=
 [(100013,.fix .sc (i64 (u:Int))),(100012,.fix .sc (.ptr 100004 [])),(100011,.fix .sc (i64 sent)),(100010,.fix .sc (i64 M)),(100009,.fix .sc (i64 (u:Int))),(100008,.fix .sc (i64 (to:Int))),(100007,.fix .sc (.fn 88 [.ptr 100008 [],.ptr 100001 [],.ptr 100003 [],.ptr 100007 []])),(100006,.grow .sc (ns pr)),(100005,.grow .sc (ns fl)),(100004,.fix sNw (nwV g b sh 100005 100006)),(100003,.fix .sc (.ptr 100004 [])),(100002,.grow .sc (bs dead)),(100001,.fix .sc (.sl 100002 [] 0 g.n)),(100000,.lp 880 [.ptr 100001 [],.ptr 100003 [],.ptr 100007 [],.ptr 100009 [],.ptr 100010 [],.ptr 100011 []] st)]
def Has :Hp->Hp->Prop
 | [],H=>Hp.get H 100014=none
 | (k,o)::r,H=>Hp.get H k=some o/\Has r H
def S91 (g:Nt)(b:Bool)(sh:Sh)(fl pr:List Int)(dead:List Bool)(to u:Nat)(M sent:Int)(q:List AV)(j:Nat):St:=⟨f91 q j,h91 .ready g b sh fl pr dead to u M sent⟩
section
variable {d :Nat} {g:Nt} {b:Bool} {fl pr:List Int} {dead:List Bool} {to u k:Nat} {M sent:Int} {q:List AV} {j:Nat} (hf:fl.length=g.a.length) (hM:g.a.length<=4000) (hq:q[j]? =some (i64 (k:Int))) (hk:inc g u k)
 (hb:FB g fl) (hcb:∀i,i<g.a.length->(art g.a i).c<=1073741824) (hkb:∀i,i<g.a.length->0<=(art g.a i).k/\(art g.a i).k<=1048576) (hql:q.length<=4000)
include hf hM hq hk hb hcb hkb hql
set_option maxHeartbeats 4000000 in
theorem Rj (hr:¬0<room g fl u k):aK K90 (evC gl (call gl tab (d+1)) L90 (S91 g b yA4 fl pr dead to u M sent q j))=some (S91 g b yA4 fl pr dead to u M sent q (j+1)):=by
 have hj:j<q.length:=by have:=wC.1 hq;exact this.1
 have x1:=dY hk.1;have x2:=bc (show k<fl.length by rw[hf];exact hk.1);have h1:=hb.b k hk.1;have h2:=hcb k hk.1;have h3:=hkb k hk.1;have h4:=hk.1;unfold room at hr;by_cases e:(art g.a k).f=u
 . rw[if_pos e]at hr;simp(disch:=apply zq;omega) only[go_sem,simprocAttr,↓wP,xx,L90,S91,f91,h91,hq,x1,x2,ak,ae,hf,e]
 . rw[if_neg e]at hr;have e2:(((art g.a k).f:Int) != (u:Int))=true:=by simp;omega
   simp(disch:=apply zq;omega) only[go_sem,simprocAttr,↓wP,xx,L90,S91,f91,h91,hq,x1,x2,ak,ae,hf,e2]
set_option maxHeartbeats 4000000 in
theorem VJ {fl':List Int}{dead':List Bool}{sent':Int}(hr:0<room g fl u k)(c:call gl tab (d+1) 1000880 [wV k (oth g u k) (room g fl u k) (cst g u k) (bko g u k)] (gW .ready g b yA4 fl pr dead to u M sent)=some (.bool true,gW .ready g b yA4 fl' pr dead' to u M sent',[])) :
  aK K90 (evC gl (call gl tab (d+1)) L90 (S91 g b yA4 fl pr dead to u M sent q j))=some (S91 g b yA4 fl' pr dead' to u M sent' q (j+1)):=by
 have hj:j<q.length:=by have:=wC.1 hq;exact this.1
 have x1:=dY hk.1;have x2:=bc (show k<fl.length by rw[hf];exact hk.1);have h1:=hb.b k hk.1;have h2:=hcb k hk.1;have h3:=hkb k hk.1;have h4:=hk.1;unfold room oth cst bko at c;unfold room at hr;by_cases e:(art g.a k).f=u
 . rw[if_pos e]at hr;rw[if_pos e,if_pos e,if_pos e,decide_eq_true e]at c;simp only[gW,Bool.not_true]at c;simp(disch:=apply zq;omega) only[go_sem,simprocAttr,↓wP,xx,L90,S91,f91,h91,hq,x1,x2,ak,ae,hf,e,c]
 . rw[if_neg e]at hr;have e2:(((art g.a k).f:Int) != (u:Int))=true:=by simp;omega
   rw[if_neg e,if_neg e,if_neg e,decide_eq_false e,show -(art g.a k).k=0-(art g.a k).k by omega]at c;simp only[gW,Bool.not_false]at c;simp(disch:=apply zq;omega) only[go_sem,simprocAttr,↓wP,xx,L90,S91,f91,h91,hq,x1,x2,ak,ae,hf,e2,c]
set_option maxHeartbeats 4000000 in
theorem OH (hr:0<room g fl u k)(c:call gl tab (d+1) 1000880 [wV k (oth g u k) (room g fl u k) (cst g u k) (bko g u k)] (gW .ready g b yA4 fl pr dead to u M sent)=some (.bool false,gW (.done (.exit 0)) g b yA4 fl pr dead to u M sent,[])) :
  ∃fr H,evC gl (call gl tab (d+1)) L90 (S91 g b yA4 fl pr dead to u M sent q j)=some (.ret,⟨fr,H⟩)/\Has (h91 (.done (.exit 0)) g b yA4 fl pr dead to u M sent) H:=by
 have hj:j<q.length:=by have:=wC.1 hq;exact this.1
 have x1:=dY hk.1;have x2:=bc (show k<fl.length by rw[hf];exact hk.1);have h1:=hb.b k hk.1;have h2:=hcb k hk.1;have h3:=hkb k hk.1;have h4:=hk.1;unfold room oth cst bko at c;unfold room at hr;by_cases e:(art g.a k).f=u
 . rw[if_pos e]at hr;rw[if_pos e,if_pos e,if_pos e,decide_eq_true e]at c;simp only[gW,Bool.not_true]at c;refine⟨_,_,by simp(disch:=apply zq;omega) only[go_sem,simprocAttr,↓wP,xx,L90,S91,f91,h91,hq,x1,x2,ak,ae,hf,e,c];rfl,?_⟩;simp only[h91,Has];simp(disch:=apply zq;omega) only[go_sem,simprocAttr,↓wP,xx,and_true,true_and]
 . rw[if_neg e]at hr;have e2:(((art g.a k).f:Int) != (u:Int))=true:=by simp;omega
   rw[if_neg e,if_neg e,if_neg e,decide_eq_false e,show -(art g.a k).k=0-(art g.a k).k by omega]at c;simp only[gW,Bool.not_false]at c;refine⟨_,_,by simp(disch:=apply zq;omega) only[go_sem,simprocAttr,↓wP,xx,L90,S91,f91,h91,hq,x1,x2,ak,ae,hf,e2,c];rfl,?_⟩;simp only[h91,Has];simp(disch:=apply zq;omega) only[go_sem,simprocAttr,↓wP,xx,and_true,true_and]
end
def live (d:List Bool):Nat->Nat
 | 0=>0
 | n+1=>live d n+if dd d n=true then 0 else 1
theorem vN {d d':List Bool}(h:∀v,dd d v=true->dd d' v=true):∀n,live d' n<=live d n
 | 0=>wR _
 | n+1=>by
   have ih:=vN h n;rw[live,live];by_cases e:dd d n=true
   . rw[if_pos e,if_pos (h n e)];omega
   . rw[if_neg e];split<;>omega
theorem yh {d d':List Bool}(h:∀v,dd d v=true->dd d' v=true){u:Nat}(h1:dd d u=false)(h2:dd d' u=true):∀{n},u<n->live d' n<live d n
 | 0,hn=>by omega
 | n+1,hn=>by
   rw[live,live];by_cases e:u=n
   . subst e;have:=vN h u;rw[h1,h2,if_pos rfl,if_neg (by decide)];omega
   . have ih:=yh h h1 h2 (n:=n) (by omega);by_cases e2:dd d n=true
     . rw[if_pos e2,if_pos (h n e2)];omega
     . rw[if_neg e2];split<;>omega
structure P9 where
 fl:List Int
 dead:List Bool
 sent:Int
 j:Nat
section
variable {d :Nat} {g:Nt} {b:Bool} {pr:List Int} {s to u k:Nat} {M:Int} {fl0:List Int} {dead0:List Bool} (hg:GOk g) (hpb:PB g 1048576 pr s to) (hu:u<g.n) (hM:0<M/\M<=1099511627776) (hdl:dead0.length=g.n) (hu0:dd dead0 u=false) (hlv:live dead0 g.n<=k+1)
 (ih:∀u M fl dead,u<g.n->0<=M->M<=1099511627776->FB g fl->RN g fl pr->dead.length=g.n->dd dead u=false->live dead g.n<=k->∃fl' dead' r,PP g pr to u M fl dead fl' dead' r/\call gl tab (d+1) 88 (a73 u M) (i73 g b yA4 fl pr dead to)=some (i64 r,i73 g b yA4 fl' pr dead' to,[]))
include hg hpb hu hM hdl hu0 hlv ih
theorem QC {a:P9}(h:PI g pr to (ad g) u M fl0 dead0 a.j a.fl a.dead a.sent)(hj:a.j<(ad g u).length) :
  (a.sent=M/\∃fr H,evC gl (call gl tab (d+2)) L90 (S91 g b yA4 a.fl pr a.dead to u M a.sent (us (ad g u)) a.j)=some (.ret,⟨fr,H⟩)/\Has (h91 (.done (.exit 0)) g b yA4 a.fl pr a.dead to u M a.sent) H) \/
  ∃a':P9,PI g pr to (ad g) u M fl0 dead0 a'.j a'.fl a'.dead a'.sent/\a'.j=a.j+1 /\
  aK K90 (evC gl (call gl tab (d+2)) L90 (S91 g b yA4 a.fl pr a.dead to u M a.sent (us (ad g u)) a.j))=some (S91 g b yA4 a'.fl pr a'.dead to u M a'.sent (us (ad g u)) a'.j):=by
 obtain⟨fl,dead,sent,j⟩:=a;simp only at h hj ⊢;have hje:(ad g u)[j]? =some (ad g u)[j]:=List.getElem?_eq_getElem hj;have hi:inc g u (ad g u)[j]:=(oY g u hu _).1 (List.getElem_mem hj);have hql:(us (ad g u)).length<=4000:=by rw[aj];exact Nat.le_trans (zm _ _) hg.a
 have hq:=dy hje;generalize (ad g u)[j]=i at *
 have hkb:=fun k hk=>(hg.ok.k k hk)
 have hfb:=h.fb;by_cases hp:0<room g fl u i
 case neg=>exact .inr ⟨⟨fl,dead,sent,j+1⟩,D8 h hje (.inl (show room g fl u i<=0 by omega)),rfl,Rj hfb.l hg.a hq hi hfb hg.c hkb hql hp⟩
 have ht:=jI hg.ok hi;have hcst:-1073741824<=cst g u i/\cst g u i<=1073741824:=by have:=hkb i hi.1;unfold cst;split<;>omega
 have hnK:(g.n:Int)*1048576<=100*1048576:=wU (by have:=hg.n;omega) (by decide);have hprb:∀v,v<g.n->0<=nth pr v/\nth pr v<=1099511627776:=fun v hv=>by have h1:=hpb.b v hv;have h2:=hpb.t;omega
 have hdl':dead.length=g.n:=by rw[h.dl];exact hdl
 by_cases hsM:sent=M
 . refine .inl ⟨hsM,?_⟩;exact OH hfb.l hg.a hq hi hfb hg.c hkb hql hp (rZ hfb.l hpb.l hdl' hu ht hcst (hprb u hu) (hprb _ ht) (by omega) hsM)
 have e:cst g u i+nth pr u-nth pr (oth g u i)=red g pr u i:=rfl;by_cases hsk:dd dead (oth g u i)=true\/red g pr u i≠0
 . exact .inr ⟨⟨fl,dead,sent,j+1⟩,D8 h hje (.inr hsk),rfl,VJ hfb.l hg.a hq hi hfb hg.c hkb hql hp (uO hfb.l hpb.l hdl' hu ht hcst (hprb u hu) (hprb _ ht) (by omega) hsM hsk)⟩
 have hd0:dd dead (oth g u i)=false:=by
  cases hd:dd dead (oth g u i)with
  | false=>rfl
  | true=>exact absurd (.inl hd) hsk
 have hz:red g pr u i=0:=Decidable.byContradiction fun h=>hsk (.inr h)
 have hss:=h.s;have hm:=sP (room g fl u i) (M-sent);have hrb:room g fl u i<=1073741824:=by have h1:=hfb.b i hi.1;have h2:=hg.c i hi.1;unfold room;split<;>omega
 have hlive:live dead g.n<=k:=by have:=yh (d:=dead0) (d':=dead) h.dm hu0 h.du hu;omega
 obtain⟨fl',dead',r,hpp,c73⟩:=ih (oth g u i) (mi (room g fl u i) (M-sent)) fl dead ht (by omega) (by omega) hfb h.rn hdl' hd0 hlive;have hrs:=hpp.s;have hfi:0<=nth fl' i/\nth fl' i<=1073741824:=by have h1:=hpp.fb.b i hi.1;have h2:=hg.c i hi.1;omega
 have hfl:fl'.set i (nth fl' i+if bko g u i then -r else r)=add g fl' u i r:=by
  unfold add bko;by_cases e:(art g.a i).f=u
  . rw[decide_eq_true e,if_pos e];rfl
  . rw[decide_eq_false e,if_neg e];rfl
 refine .inr ⟨⟨add g fl' u i r,dead',sent+r,j+1⟩,Nb hg.ok hu0 h hje hi hd0 hz ⟨hm.1,hm.2.1⟩ (show 0<mi (room g fl u i) (M-sent) by omega) hpp,rfl,?_⟩;have c:=xM (gl:=gl) (n:=d+2) (b:=b) (sh:=yA4) (r:=room g fl u i) (c:=cst g u i) (bk:=bko g u i) hfb.l hpb.l hdl' hu ht hcst (hprb u hu) (hprb _ ht) (by omega) hsM hd0 hz ⟨hss.1,hss.2,hM.2⟩ ⟨by omega,hrb⟩ hi.1 (q:=r) ⟨hrs.1,by omega⟩ hpp.fb.l hfi c73;rw[hfl]at c;exact VJ hfb.l hg.a hq hi hfb hg.c hkb hql hp c
def i91 (st:RS)(g:Nt)(b:Bool)(sh:Sh)(fl pr:List Int)(dead:List Bool)(to u:Nat)(M sent:Int):Hp:=gW st g b sh fl pr dead to u M sent++[(100012,.fix .sc (.ptr 100004 [])),(100013,.fix .sc (i64 (u:Int)))]
theorem RR (hgn:g.a≠[])(hb0:FB g fl0)(hr0:RN g fl0 pr):∃(st:RS) (fl:List Int) (dead:List Bool) (sent:Int) (j:Nat),PI g pr to (ad g) u M fl0 dead0 j fl dead sent/\(sent<M->(ad g u).length<=j)/\(st= .ready\/st= .done (.exit 0)) /\
  call gl tab (d+3) 113 [.yld 100000,.ptr 100012 [],.ptr 100013 []] (i91 .ready g b yA4 fl0 pr (dead0.set u true) to u M 0)=some (.tup [],i91 st g b yA4 fl pr dead to u M sent,[]):=by
 have hl:=Eb (g:=g) hu;have hp0:=XR (g:=g) (pr:=pr) (to:=to) (adj:=ad g) (u:=u) (M:=M) (fl0:=fl0) (dead0:=dead0) (by omega) (by omega) hb0 hr0;rcases wS (ad g u).length with h0|h0
 . have e0:ad g u=[]:=List.length_eq_zero_iff.1 h0;have e1:lV .sc (us (ad g u))= .lst true .sc []:=by rw[e0];rfl
   rw[e1]at hl;refine⟨.ready,fl0,dead0.set u true,0,0,hp0,fun _=>by omega,.inl rfl,?_⟩;rw[bf (fd:=lv) rfl];simp(disch:=apply zq;omega) only[go_sem,simprocAttr,↓wP,xx,lv,Ci,i91,gW,hl,kU];rw[aE (fun _=>⟨[.set 16 (i64 0),.set 15 (i64 0),.set 14 (.lst true .sc []),.set 2 (.ptr 100013 []),.set 1 (.ptr 100012 []),.set 0 (.yld 100000)],h91 .ready g b yA4 fl0 pr (dead0.set u true) to u M 0⟩) 0 (by unfold LF;omega)]
   . simp(disch:=apply zq;omega) only[go_sem,simprocAttr,↓wP,xx,h91]
   . simp(disch:=apply zq;omega) only[go_sem,simprocAttr,↓wP,xx,h91]
   . intro i hi;omega
   . simp(disch:=apply zq;omega) only[go_sem,simprocAttr,↓wP,xx,h91]
 . have e1:lV .sc (us (ad g u))= .lst false .sc (us (ad g u)):=by
    unfold lV;rw[fR,if_neg];rw[wF];intro e;rw[e]at h0;simp at h0
   rw[e1]at hl;obtain⟨a,⟨ha,hjl⟩,hfin,hiter⟩:=fF (f:=evC gl (call gl tab (d+2)) L90) (ks:=K90) (fun a:P9=>S91 g b yA4 a.fl pr a.dead to u M a.sent (us (ad g u)) a.j) (fun a=>PI g pr to (ad g) u M fl0 dead0 a.j a.fl a.dead a.sent/\a.j<=(ad g u).length)
    (fun a=>a.j=(ad g u).length\/(a.sent=M/\∃fr H,evC gl (call gl tab (d+2)) L90 (S91 g b yA4 a.fl pr a.dead to u M a.sent (us (ad g u)) a.j)=some (.ret,⟨fr,H⟩)/\Has (h91 (.done (.exit 0)) g b yA4 a.fl pr a.dead to u M a.sent) H)) (fun a=>(ad g u).length-a.j) (a0:=⟨fl0,dead0.set u true,0,0⟩)
    (by have:=zm g u;have:=hg.a;unfold LF;simp only;omega) ⟨hp0,Nat.zero_le _⟩
    (fun a ⟨ha,hjl⟩=>by
      by_cases hj:a.j<(ad g u).length
      . rcases @QC gl d g b pr s to u k M fl0 dead0 hg hpb hu hM hdl hu0 hlv ih a ha hj with ⟨h1,fr,H,h2,h3⟩|⟨a',h1,h2,h3⟩
        . exact .inl ⟨.inr ⟨h1,fr,H,h2,h3⟩,by rw[h2];rfl⟩
        . exact .inr ⟨a',⟨h1,by omega⟩,by omega,h3⟩
      . refine .inl ⟨.inl (by omega),?_⟩;have e:a.j=(ad g u).length:=by omega
        obtain⟨fl,dead,sent,j⟩:=a;simp only at e;subst e;simp(disch:=apply zq;omega) only[go_sem,simprocAttr,↓wP,xx,L90,S91,f91,h91,aj])
   rcases hfin with hfin|⟨hsM,fr,H,h2,h3⟩
   . refine⟨.ready,a.fl,a.dead,a.sent,a.j,ha,fun _=>by omega,.inl rfl,?_⟩;obtain⟨fl,dead,sent,j'⟩:=a;simp only at hfin;subst hfin;simp only[L90,wq]at hiter;rw[bf (fd:=lv) rfl];simp(disch:=apply zq;omega) only[go_sem,simprocAttr,↓wP,xx,lv,Ci,i91,gW,hl,kU];rw[hiter]
     . simp(disch:=apply zq;omega) only[go_sem,simprocAttr,↓wP,xx,S91,f91,h91,aj]
     . simp(disch:=apply zq;omega) only[go_sem,simprocAttr,↓wP,xx,S91,f91,h91]
   . refine⟨.done (.exit 0),a.fl,a.dead,a.sent,a.j,ha,fun h=>by omega,.inr rfl,?_⟩;obtain⟨fl,dead,sent,j'⟩:=a;rw[h2]at hiter;simp only[L90,wq]at hiter;simp only[h91,Has]at h3;obtain⟨z13,z12,z11,z10,z9,z8,z7,z6,z5,z4,z3,z2,z1,z0,zz⟩:=h3;rw[bf (fd:=lv) rfl];simp(disch:=apply zq;omega) only[go_sem,simprocAttr,↓wP,xx,lv,Ci,i91,gW,hl,kU];rw[hiter]
     . simp(disch:=apply zq;omega) only[go_sem,simprocAttr,↓wP,xx,z13,z12,z11,z10,z9,z8,z7,z6,z5,z4,z3,z2,z1,z0,zz]
     . simp(disch:=apply zq;omega) only[go_sem,simprocAttr,↓wP,xx,S91,f91,h91]
end
theorem UL {d:Nat}{g:Nt}{b:Bool}{sh:Sh}{fl pr fl':List Int}{dead dead':List Bool}{u to:Nat}{M sent:Int}{st:RS}(hst:st= .ready\/st= .done (.exit 0))(hu:u≠to)(hM:0<M)(hug:u<g.n)(hdl:dead.length=g.n)(hdl':dead'.length=g.n)(hs:0<=sent/\sent<=M)
  (c90:call gl tab (d+2) 113 [.yld 100000,.ptr 100012 [],.ptr 100013 []] (i91 .ready g b sh fl pr (dead.set u true) to u M 0)=some (.tup [],i91 st g b sh fl' pr dead' to u M sent,[])) :
  call gl tab (d+3) 88 (a73 u M) (i73 g b sh fl pr dead to)=some (i64 sent,i73 g b sh fl' pr (dead'.set u (decide (sent<M))) to,[]):=by
 have e2:((u:Int)==(to:Int))=false:=by rw[beq_eq_false_iff_ne];omega
 have e3:(M==0)=false:=by rw[beq_eq_false_iff_ne];omega
 have x1:=EO (show u<dead.length by omega);have x2:=EO (show u<dead'.length by omega);have c70:=@ways_at gl (d+2) (by omega) g b sh fl pr u;simp only[i91,gW,wE,wB,uk]at c90;rw[bf (fd:=CZ) rfl];rcases hst with rfl|rfl
 . simp(disch:=apply zq;omega) only[go_sem,simprocAttr,↓wP,xx,CZ,m88,i73,e2,e3,dB,hdl,hdl',x1,x2,c70,c90,uk]
 . simp(disch:=apply zq;omega) only[go_sem,simprocAttr,↓wP,xx,CZ,m88,i73,e2,e3,dB,hdl,hdl',x1,x2,c70,c90,uk]
theorem ID {g:Nt}{b:Bool}{pr:List Int}{s to:Nat}(hg:GOk g)(hgn:g.a≠[])(hpb:PB g 1048576 pr s to):∀k n,3*k+3<=n->∀u M fl dead,u<g.n->0<=M->M<=1099511627776->FB g fl->RN g fl pr->dead.length=g.n->dd dead u=false->live dead g.n<=k->∃fl' dead' r,PP g pr to u M fl dead fl' dead' r/\call gl tab n 88 (a73 u M) (i73 g b yA4 fl pr dead to)=some (i64 r,i73 g b yA4 fl' pr dead' to,[])
 | 0,n,hn,u,M,fl,dead,hu,hM,hM2,hb,hr,hdl,hd,hl=>by have:=yh (d:=dead) (d':=dead.set u true) (fun v hv=>by rw[nl (by omega)];split<;>simp_all) hd (by rw[nl (by omega),if_pos rfl]) hu;omega
 | k+1,n,hn,u,M,fl,dead,hu,hM,hM2,hb,hr,hdl,hd,hl=>by
   by_cases h0:u=to\/M=0
   . exact⟨fl,dead,M,RD h0 hM hb hr,IC (by omega) h0⟩
   . obtain⟨d,rfl⟩:∃d,n=d+4:=⟨n-4,by omega⟩;have hut:u≠to:=fun h=>h0 (.inl h)
     have hM0:0<M:=by have:M≠0:=fun h=>h0 (.inr h);omega
     have ih:=ID (b:=b) hg hgn hpb k (d+1) (by omega);obtain⟨st,fl',dead',sent,j,h1,h2,h3,c90⟩:=@RR gl d g b pr s to u k M fl dead hg hpb hu ⟨hM0,hM2⟩ hdl hd hl ih hgn hb hr;refine⟨fl',dead'.set u (decide (sent<M)),sent,RF (oY g) hu hut hd (by omega) h1 h2,?_⟩;exact UL (d:=d+1) h3 hut hM0 hu hdl (by rw[h1.dl];exact hdl) h1.s c90
theorem N6 {g:Nt}{b:Bool}{pr fl:List Int}{s to:Nat}{M:Int}(hg:GOk g)(hgn:g.a≠[])(hpb:PB g 1048576 pr s to)(hs:s<g.n)(hM:0<=M)(hM2:M<=1099511627776)(hb:FB g fl)(hr:RN g fl pr)(hn:3*g.n+4<=n) :
  ∃fl' dead' r,PP g pr to s M fl (List.replicate g.n false) fl' dead' r/\call gl tab n 59 [.ptr 100000 [],i64 (s:Int),i64 (to:Int),i64 M] (nwH g b yA4 fl pr)=some (i64 r,nwH g b yA4 fl' pr,[]):=by
 obtain⟨d,rfl⟩:∃d,n=d+1:=⟨n-1,by omega⟩;have hd:∀v,dd (List.replicate g.n false) v=false:=fun v=>by unfold dd;rw[wG,wD];split<;>rfl
 have hlv:∀m,live (List.replicate g.n false) m<=m:=fun m=>by
  induction m with
  | zero=>exact wR _
  | succ m ih=>rw[live,hd,if_neg (by decide)];omega
 obtain⟨fl',dead',r,h1,c73⟩:=ID (gl:=gl) (b:=b) hg hgn hpb g.n d (by omega) s M fl (List.replicate g.n false) hs hM hM2 hb hr (by simp) (hd s) (hlv _);refine⟨fl',dead',r,h1,?_⟩;have hl:g.n<=LIM:=by have:=hg.n;unfold LIM;omega
 simp only[i73]at c73;rw[bf (fd:=Te) rfl];have sc:(AV.fn 88 [.ptr 6 [],.ptr 9 [],.ptr 4 [],.ptr 10 []]).scalar=true:=rfl;simp(disch:=apply zq;omega) only[go_sem,simprocAttr,↓wP,xx,Te,m59,hl,T7,sc,c73]
def cK (out:List Int):Nat->List Nat
 | 0=>[]
 | i+1=>if nth out i<far then cK out i++[i]else cK out i
theorem ud (out:List Int):∀i,(cK out i).length<=i
 | 0=>wR _
 | i+1=>by
   have:=ud out i;rw[cK];split
   . rw[List.length_append,wH];omega
   . omega
abbrev sFr :Sh:=.st [.sc,.sc,.sc,.sc,.sc]
noncomputable def L50:MC:=wq 0 m58
def cV (l:List Nat):AV:=if l.isEmpty then .lst true .sc []else .sl 6074 [] 0 l.length
def cH (l:List Nat):Hp:=if l.isEmpty then []else [(6074,.grow .sc (us l))]
def S51 (g:Nt)(b:Bool)(sh:Sh)(fl pr out:List Int)(sent co:Int)(i:Nat):St :=
 ⟨[.set 24 (i64 (i:Int)),.set 23 (i64 (g.n:Int)),.set 22 (.sl 100003 [] 0 g.n),.set 7 (.ptr 7 []),.set 6 (.ptr 6 [])],
   [(100003,.grow .sc (ns out)),(100002,.grow .sc (ns pr)),(100001,.grow .sc (ns fl)),(100000,.fix sNw (nwV g b sh 100001 100002))]++cH (cK out i)++[(7,.fix sFr (.aggR [i64 sent,i64 co,.sl 100001 [] 0 g.a.length,.sl 100002 [] 0 g.n,cV (cK out i)])),(6,.fix sFr zA5)]⟩
section
variable {d :Nat} {g:Nt} {b:Bool} {sh:Sh} {fl pr out:List Int} {sent co:Int}
theorem QT (ho:out.length=g.n)(hN:g.n<=1000){i:Nat}(hi:i<g.n):aK K50 (evC gl (call gl tab d) L50 (S51 g b sh fl pr out sent co i))=some (S51 g b sh fl pr out sent co (i+1)):=by
 have x1:=bc (show i<out.length by omega);have hl:=ud out i;have l1:1<=LIM:=by unfold LIM;omega
 have tk:∀(u:List AV) (v:AV),(u++[v]).take (u.length+1)=u++[v]:=fun u v=>List.take_of_length_le (by simp)
 have ua:us (cK out i++[i])=us (cK out i)++[i64 (i:Int)]:=dU _ _;by_cases hf:nth out i<far
 . have e:cK out (i+1)=cK out i++[i]:=by rw[cK,if_pos hf]
   unfold S51;rw[e];have hf':nth out i<4611686018427387904:=hf
   cases he:(cK out i).isEmpty with
   | true =>obtain h0:=wF.1 he;rw[h0];simp(disch:=apply zq;omega) only[go_sem,simprocAttr,↓wP,xx,L50,cV,cH,x1,ae,ho,wM,wB,List.isEmpty_cons,us,wO,List.map_nil,wH,l1]
   | false =>
     have h2:(cK out i++[i]).isEmpty=false:=by simp
     have ul:=aj (cK out i);have l2:(cK out i).length+1<=LIM:=by unfold LIM;omega
     have lla:(cK out i++[i]).length=(cK out i).length+1:=by simp
     unfold cV cH;rw[he,h2,lla,ua];generalize us (cK out i)=ul0 at *
     generalize (cK out i).length=ll at *
     subst ul;simp(disch:=apply zq;omega) only[go_sem,simprocAttr,↓wP,xx,L50,x1,ae,ho,l2,tk]
 . have e:cK out (i+1)=cK out i:=by rw[cK,if_neg hf]
   unfold S51;rw[e];have hf':¬nth out i<4611686018427387904:=hf
   cases he:(cK out i).isEmpty with
   | true=>simp(disch:=apply zq;omega) only[go_sem,simprocAttr,↓wP,xx,L50,cV,cH,x1,ae,ho,he]
   | false =>simp(disch:=apply zq;omega) only[go_sem,simprocAttr,↓wP,xx,L50,cV,cH,x1,ae,ho,he]
def frV (g:Nt)(fl:List Int)(sent:Int)(c:AV):AV:=.aggR [i64 sent,i64 (tot g.a fl g.a.length),.sl 100001 [] 0 g.a.length,.sl 100002 [] 0 g.n,c]
theorem AX (h:2<=n)(hsh:g.a=[]\/sh=yA4)(hg:GOk g)(hb:FB g fl)(hp:pr.length=g.n):call gl tab n 58 [.ptr 100000 [],i64 sent,.lst true .sc []] (nwH g b sh fl pr)=some (frV g fl sent (.lst true .sc []),nwH g b sh fl pr,[]):=by
 obtain⟨d,rfl⟩:=wQ h;have c72:=@zI gl (d+1) g b false false sh fl pr (by omega) hsh hb.l hg.a hg.ok.k (fun i hi=>by have:=hb.b i hi;have:=hg.c i hi;omega);have t1:=eK hb.l;have t2:=eK hp;rw[bf (fd:=Ko) rfl];simp(disch:=apply zq;omega) only[go_sem,simprocAttr,↓wP,xx,Ko,m58,t1,t2,c72,ae,hb.l,hp];rw[aE (fun _=>⟨[.set 24 (i64 0),.set 23 (i64 0),.set 22 (.lst true .sc []),.set 7 (.ptr 7 []),.set 6 (.ptr 6 [])],[(100002,.grow .sc (ns pr)),(100001,.grow .sc (ns fl)),(100000,.fix sNw (nwV g b sh 100001 100002)),(7,.fix sFr (.aggR [i64 sent,i64 (tot g.a fl g.a.length),.sl 100001 [] 0 g.a.length,.sl 100002 [] 0 g.n,.lst true .sc []])),(6,.fix sFr zA5)]⟩) 0 (by unfold LF;omega)]
 . simp(disch:=apply zq;omega) only[go_sem,simprocAttr,↓wP,xx,frV]
 . simp(disch:=apply zq;omega) only[go_sem,simprocAttr,↓wP,xx]
 . intro i hi;omega
 . simp(disch:=apply zq;omega) only[go_sem,simprocAttr,↓wP,xx]
theorem qz (h:2<=n)(hsh:g.a=[]\/sh=yA4)(hg:GOk g)(hb:FB g fl)(hp:pr.length=g.n)(ho:out.length=g.n)(hc:cK out g.n≠[]):call gl tab n 58 [.ptr 100000 [],i64 sent,.sl 100003 [] 0 g.n] (nwH g b sh fl pr++[(100003,.grow .sc (ns out))]) =
  some (frV g fl sent (.sl 20000 [] 0 (cK out g.n).length),nwH g b sh fl pr++[(100003,.grow .sc (ns out))],[.grow .sc (us (cK out g.n))]):=by
 obtain⟨d,rfl⟩:=wQ h;have c72:=@zI gl (d+1) g b false false sh fl pr (by omega) hsh hb.l hg.a hg.ok.k (fun i hi=>by have:=hb.b i hi;have:=hg.c i hi;omega);have t1:=eK hb.l;have t2:=eK hp;have hs:=fun i hi=>@QT gl (d+1) g b sh fl pr out sent (tot g.a fl g.a.length) ho (by have:=hg.n;omega) i hi
 have he:(cK out g.n).isEmpty=false:=by
  cases h:(cK out g.n).isEmpty with
  | false=>rfl
  | true=>exact absurd (wF.1 h) hc
 simp only[L50,wq]at hs;rw[bf (fd:=Ko) rfl];simp(disch:=apply zq;omega) only[go_sem,simprocAttr,↓wP,xx,Ko,m58,t1,t2,c72,ae,hb.l,hp];rw[aE (S51 g b sh fl pr out sent (tot g.a fl g.a.length)) g.n (by have:=hg.n;unfold LF;omega)]
 . unfold S51 cV cH;rw[he];simp(disch:=apply zq;omega) only[go_sem,simprocAttr,↓wP,xx,frV]
 . simp(disch:=apply zq;omega) only[go_sem,simprocAttr,↓wP,xx,S51,cV,cH,cK,wM]
 . exact hs
 . unfold S51 cV cH;rw[he];simp(disch:=apply zq;omega) only[go_sem,simprocAttr,↓wP,xx]
end
abbrev nV (g:Nt)(b:Bool)(sh:Sh):AV:=.agg [i64 (g.n:Int),.lst b sh (rs g.a)]
noncomputable def L46:MC:=wq 0 m54
theorem Ee (h:1<=n){g:Nt}{b:Bool}{sh:Sh}{k:Nat}(hk:k<g.n):call gl tab n 81 [i64 (k:Int),.cp sNt (nV g b sh)] []=some (.bool true,[],[]):=by obtain⟨d,rfl⟩:=wQ h;rw[au (fd:=SZ) rfl];simp(disch:=apply zq;omega) only[go_sem,simprocAttr,↓wP,xx,SZ,m81]
def S46 (g:Nt)(b:Bool)(sh:Sh)(i:Nat):St:=⟨[.set 22 (i64 (i:Int)),.set 21 (i64 (g.a.length:Int)),.set 20 (.lst b sh (rs g.a)),.set 3 (.fn 81 [.ptr 1 []])],[(1,.fix sNt (nV g b sh))]⟩
section
variable {d :Nat} {g:Nt} {b:Bool} {sh:Sh} (hg:GOk g) (hsh:g.a=[]\/sh=yA4)
include hg hsh
theorem QW {i:Nat}(hi:i<g.a.length):aK [.slot 3,.slot 20,.slot 21,.slot 22,.key 1] (evC gl (call gl tab (d+1)) L46 (S46 g b sh i))=some (S46 g b sh (i+1)):=by
 have hsh:sh=yA4:=hsh.resolve_left (fun e=>by rw[e]at hi;simp at hi);subst hsh;have x1:=dY hi;have h1:=hg.ok.f i hi;have h2:=hg.ok.t i hi;have h3:=hg.ok.ne i hi;have h4:=hg.ok.c i hi;have h5:=hg.c i hi;have h6:=hg.ok.k i hi;have h7:=hg.a;have c1:=@Ee gl (d+1) (by omega) g b yA4 _ h1;have c2:=@Ee gl (d+1) (by omega) g b yA4 _ h2;have e:(((art g.a i).f:Int)==((art g.a i).t:Int))=false:=by rw[beq_eq_false_iff_ne];omega
 simp(disch:=apply zq;omega) only[go_sem,simprocAttr,↓wP,xx,L46,S46,x1,ak,c1,c2,e]
theorem Ls (h:2<=n)(hn:1<=g.n)(ha:g.a.length<=2048):call gl tab n 54 [nV g b sh] []=some (i64 0,[],[]):=by
 obtain⟨d,rfl⟩:=wQ h;have hs:=fun i hi=>@QW gl d g b sh hg hsh i hi
 have h1:=hg.n;simp only[L46,wq]at hs;rw[au (fd:=Th) rfl];simp(disch:=apply zq;omega) only[go_sem,simprocAttr,↓wP,xx,Th,m54,ak];rw[aE (S46 g b sh) g.a.length (by unfold LF;omega)]
 . simp(disch:=apply zq;omega) only[go_sem,simprocAttr,↓wP,xx,S46]
 . simp(disch:=apply zq;omega) only[go_sem,simprocAttr,↓wP,xx,S46]
 . exact hs
 . simp(disch:=apply zq;omega) only[go_sem,simprocAttr,↓wP,xx,S46]
end
theorem Me (h:1<=n){g:Nt}{b:Bool}{sh:Sh}{s to:Nat}{A:Int}(hs:s<g.n)(ht:to<g.n)(hne:s≠to)(hA:0<=A/\A<=1099511627776):call gl tab n 55 [nV g b sh,i64 (s:Int),i64 (to:Int),i64 A] []=some (.bool true,[],[]):=by
 obtain⟨d,rfl⟩:=wQ h;have e:((s:Int) != (to:Int))=true:=by simp;omega
 rw[au (fd:=Tg) rfl];simp(disch:=apply zq;omega) only[go_sem,simprocAttr,↓wP,xx,Tg,m55,e]
def nxp (pr out:List Int)(to:Nat):Nat->List Int
 | 0=>pr
 | k+1=>(nxp pr out to k).set k (nth (nxp pr out to k) k+mi (nth out k) (nth out to))
theorem oe (pr out:List Int)(to:Nat):∀k,(nxp pr out to k).length=pr.length
 | 0=>rfl
 | k+1=>by rw[nxp,wN,oe pr out to k]
theorem ya {pr out:List Int}{to j:Nat}:∀{k:Nat},k<=pr.length->nth (nxp pr out to k) j=if j<k then nth pr j+mi (nth out j) (nth out to)else nth pr j
 | 0,_=>by rw[if_neg (by omega)];rfl
 | k+1,hk=>by
   rw[nxp,bZ (by rw[oe];omega)];by_cases e:j=k
   . subst e;rw[if_pos rfl,if_pos (by omega),ya (by omega),if_neg (by omega)]
   . rw[if_neg e,ya (by omega)];by_cases h:j<k
     . rw[if_pos h,if_pos (by omega)]
     . rw[if_neg h,if_neg (by omega)]
noncomputable def L18:MC:=wq 0 m21
noncomputable def Uw:MC:=wq 2 m21
noncomputable def Hf:MC:=wq 4 m21
def h18 (g:Nt)(b:Bool)(sh:Sh)(fl pr:List Int):Hp:=[(1034,.grow .sc (ns pr)),(34,.fix sNw (nwV g b sh 33 1034)),(33,.grow .sc (ns fl)),(8,.fix sFr zA5)]
def f18 (s to:Nat)(A sent:Int):Fr:=[.set 12 (i64 sent),.set 11 (.ptr 34 []),.set 8 (.ptr 8 []),.set 3 (i64 A),.set 2 (i64 (to:Int)),.set 1 (i64 (s:Int))]
def S18 (g:Nt)(b:Bool)(sh:Sh)(s to:Nat)(A:Int)(fl pr:List Int)(sent:Int):St:=⟨f18 s to A sent,h18 g b sh fl pr⟩
def Dz (g:Nt)(b:Bool)(sh:Sh)(s to:Nat)(A:Int)(fl pr out:List Int)(sent:Int)(k:Nat):St:=⟨[.set 55 (i64 (k:Int)),.set 54 (i64 (g.n:Int)),.set 13 (.sl 40 [] 0 g.n)]++f18 s to A sent,(40,.grow .sc (ns out))::h18 g b sh fl (nxp pr out to k)⟩
def zx (g:Nt)(b:Bool)(sh:Sh)(s to:Nat)(A:Int)(fl pr:List Int)(sent more:Int):St:=⟨.set 15 (i64 more)::f18 s to A sent,h18 g b sh fl pr⟩
section
variable {d :Nat} {g:Nt} {b:Bool} {sh:Sh} {s to:Nat} {A:Int} {fl pr out:List Int} {sent more:Int}
theorem Mz (hp:pr.length=g.n)(ho:out.length=g.n)(hN:g.n<=100)(ht:to<g.n){k:Nat}(hk:k<g.n)(h1:0<=nth pr k/\nth pr k<=1099511627776)(h2:0<=nth out k/\0<=nth out to/\nth out to<=1099511627776) :
  aK XB (evC gl (call gl tab d) Uw (Dz g b sh s to A fl pr out sent k))=some (Dz g b sh s to A fl pr out sent (k+1)):=by
 have hl:=oe pr out to k;have x1:=bc (show k<(nxp pr out to k).length by omega);have x2:=bc (show k<out.length by omega);have x3:=bc (show to<out.length by omega);have e:nth (nxp pr out to k) k=nth pr k:=by rw[ya (by omega),if_neg (by omega)]
 have e2:nxp pr out to (k+1)=(nxp pr out to k).set k (nth (nxp pr out to k) k+mi (nth out k) (nth out to)):=rfl;have hm:=sP (nth out k) (nth out to);have emi:(if nth out to<nth out k then nth out to else nth out k)=mi (nth out k) (nth out to):=rfl;unfold Dz;rw[e2,e];rw[e]at x1;generalize nxp pr out to k=pk at *
 generalize mi (nth out k) (nth out to)=z at *
 simp(disch:=apply zq;omega) only[go_sem,simprocAttr,↓wP,xx,Uw,f18,h18,fB,x1,x2,x3,ae,hl,hp,ho,fL,ka,wT,emi]
theorem My {fl':List Int}{r:Int}(hm:0<more)(hs:sent<A)(hA:0<=sent/\A<=1099511627776)(hr:0<=r/\r<=A)(c51:call gl tab d 59 [.ptr 100000 [],i64 (s:Int),i64 (to:Int),i64 (A-sent)] (nwH g b sh fl pr)=some (i64 r,nwH g b sh fl' pr,[])) :
  aK UA (evC gl (call gl tab d) Hf (zx g b sh s to A fl pr sent more))=some (zx g b sh s to A fl' pr (sent+r) r):=by
 have hm':more>0:=hm;simp(disch:=apply zq;omega) only[go_sem,simprocAttr,↓wP,xx,Hf,zx,f18,h18,c51]
end
structure C9 where
 fl:List Int
 sent:Int
 more:Int
section
variable {d :Nat} {g:Nt} {b:Bool} {s to:Nat} {A:Int} {fl pr:List Int} {sent:Int} (hg:GOk g) (hgn:g.a≠[]) (hs:s<g.n) (ht:to<g.n) (hA:A<=1099511627776) (hd:3*g.n+12<=d) (hsi:SI g 1048576 s to A fl pr sent) (hlt:sent<A)
include hg hgn hs ht hA hd hsi hlt
set_option maxHeartbeats 4000000 in
theorem Q5 {out:List Int}(hdi:DI g fl pr s out [])(hnf:nth out to≠far)(c49:call gl tab d 57 [.ptr 100000 [],i64 (s:Int)] (nwH g b yA4 fl pr)=some (.sl 20000 [] 0 g.n,nwH g b yA4 fl pr,[.grow .sc (ns out)])) :
  ∃fl' pr' sent',SI g 1048576 s to A fl' pr' sent'/\sent<sent'/\aK K18 (evC gl (call gl tab d) L18 (S18 g b yA4 s to A fl pr sent))=some (S18 g b yA4 s to A fl' pr' sent'):=by
 have hnK:(g.n:Int)*1048576<=100*1048576:=wU (by have:=hg.n;omega) (by decide);have hout:nth out to+nth pr to<=(g.n:Int)*1048576:=(Lf hg.ok (by decide) (by omega) hs hsi.rn hsi.pb hdi ht).resolve_left hnf;have hpt:=(hsi.pb.b to ht).1;have h0:∀k,k<g.n->0<=nth out k:=fun k hk=>Bi hdi hsi.rn hk
 have hot:=h0 to ht;have hnext:=M8 hg.ok (by decide) (by omega) hs ht hsi.rn hsi.pb hdi (by unfold far;omega) (pr':=nxp pr out to g.n) (by rw[oe];exact hsi.pb.l) (fun k hk=>by rw[ya (by rw[hsi.pb.l];exact wR _),if_pos hk]);obtain⟨hrn,hpb,hz⟩:=hnext;have hsi2:=hsi.price hrn hpb;have hb:=fun k hk=>@Mz gl d g b yA4 s to A fl pr out sent hsi.pb.l hdi.l hg.n ht k hk (by have:=hsi.pb.b k hk;have:=hsi.pb.t;omega) ⟨h0 k hk,hot,by omega⟩
 generalize hpr':nxp pr out to g.n=pr' at *
 obtain⟨a,⟨ha,hap⟩,hfin,hiter⟩:=fF (f:=evC gl (call gl tab d) Hf) (ks:=UA) (fun a:C9=>zx g b yA4 s to A a.fl pr' a.sent a.more) (fun a=>SI g 1048576 s to A a.fl pr' a.sent/\(sent<a.sent\/(a.sent=sent/\a.more=1/\a.fl=fl))) (fun a=>¬(0<a.more/\a.sent<A)) (fun a=>2*(A-a.sent).toNat+(if 0<a.more then 1 else 0)) (a0:=⟨fl,sent,1⟩)
  (by have:=hsi.sa;unfold LF;simp only;split<;>omega) ⟨hsi2,.inr ⟨rfl,rfl,rfl⟩⟩
  (fun a ⟨ha,hap⟩=>by
    by_cases hc:0<a.more/\a.sent<A
    . obtain⟨fl',dead',r,hpp,c51⟩:=N6 (gl:=gl) (n:=d) (b:=b) (pr:=pr') (fl:=a.fl) (s:=s) (to:=to) (M:=A-a.sent) hg hgn hpb hs (by omega) (by have:=ha.sa;omega) ha.fb ha.rn (by omega);have hrs:=hpp.s;have hsa:=ha.sa;have hpos:a.sent=sent/\a.more=1/\a.fl=fl->0<r:=fun⟨_,_,h3⟩=>by refine RC hpp (by omega) (fun v=> ?_) (by rw[h3];exact hz);unfold dd;rw[wG,wD];split<;>rfl
      refine .inr ⟨⟨fl',a.sent+r,r⟩,⟨ha.push hpp,?_⟩,?_,My hc.1 hc.2 ⟨hsa.1,hA⟩ ⟨hrs.1,by omega⟩ c51⟩
      . left;rcases hap with h|h
        . simp only;omega
        . have:=hpos h;simp only;omega
      . simp only[if_pos hc.1];split<;>omega
    . refine .inl ⟨hc,?_⟩;obtain⟨f,se,mo⟩:=a;simp only at hc ⊢;have hsa:=ha.sa;simp only at hsa;by_cases h1:mo>0
      . have h2:¬se<A:=fun h=>hc ⟨h1,h⟩
        simp(disch:=apply zq;omega) only[go_sem,simprocAttr,↓wP,xx,Hf,zx,f18,h18]
      . simp(disch:=apply zq;omega) only[go_sem,simprocAttr,↓wP,xx,Hf,zx,f18,h18])
 have hprog:sent<a.sent:=by
  rcases hap with h|⟨h1,h2,h3⟩
  . exact h
  . exact absurd ⟨by omega,by omega⟩ hfin
 refine⟨a.fl,pr',a.sent,ha,hprog,?_⟩;obtain⟨f,se,mo⟩:=a;simp only at hfin hiter ha ⊢;have x3:=bc (show to<out.length by rw[hdi.l];exact ht);have e1:(nth out to==4611686018427387904)=false:=by rw[beq_eq_false_iff_ne];exact hnf
 simp only[Uw,wq]at hb;simp only[Hf,wq]at hiter;have hpl:=hsi.pb.l;have hpl':pr'.length=g.n:=by rw[<-hpr',oe];exact hsi.pb.l
 simp(disch:=apply zq;omega) only[go_sem,simprocAttr,↓wP,xx,L18,S18,f18,h18,hlt,c49,bH,x3,e1,ae,hdi.l];rw[aE (Dz g b yA4 s to A fl pr out sent) g.n (by have:=hg.n;unfold LF;omega)]
 . simp(disch:=apply zq;omega) only[go_sem,simprocAttr,↓wP,xx,Dz,f18,h18,hpr'];rw[hiter]
   . have hsa:=ha.sa;by_cases h1:mo>0
     . have h2:¬se<A:=fun h=>hfin ⟨h1,h⟩
       simp(disch:=apply zq;omega) only[go_sem,simprocAttr,↓wP,xx,zx,f18,h18]
     . simp(disch:=apply zq;omega) only[go_sem,simprocAttr,↓wP,xx,zx,f18,h18]
   . simp(disch:=apply zq;omega) only[go_sem,simprocAttr,↓wP,xx,zx,f18,h18]
 . simp(disch:=apply zq;omega) only[go_sem,simprocAttr,↓wP,xx,Dz,f18,h18,nxp]
 . exact hb
 . simp(disch:=apply zq;omega) only[go_sem,simprocAttr,↓wP,xx,Dz,f18,h18]
end
end Go.Proofs.S51
