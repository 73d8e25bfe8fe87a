/-
  Flows: the arcs of a node, while a flow is pushed. No condition.
-/
import Derived.Test.YtaloneiaejhopaaDoorW50G9x3
import Derived.Test.YtaloneiaejhopaaDoorW50G8x3
set_option linter.all false
open List renaming getElem?_eq_some_iff->wB
namespace Go.Proofs.S50
open Go Go.Ev Go.Proofs Go.Fl
variable {gl :Gl} {n:Nat}
def f91 (q:List AV)(j:Nat):Fr:=[.set 16 (i64 (j:Int)),.set 15 (i64 (q.length:Int)),.set 14 (.lst false .sc q),.set 2 (.ptr 100013 []),.set 1 (.ptr 100012 []),.set 0 (.yld 100000)]
def h91 (st:RS)(g:Nt)(b:Bool)(sh:Sh)(fl pr:List Int)(dead:List Bool)(to u:Nat)(M sent:Int):Hp :=
 [(100013,.fix .sc (i64 (u:Int))),(100012,.fix .sc (.ptr 100004 [])),(100011,.fix .sc (i64 sent)),(100010,.fix .sc (i64 M)),(100009,.fix .sc (i64 (u:Int))),(100008,.fix .sc (i64 (to:Int))),(100007,.fix .sc (.fn 73 [.ptr 100008 [],.ptr 100001 [],.ptr 100003 [],.ptr 100007 []])),(100006,.grow .sc (ns pr)),(100005,.grow .sc (ns fl)),(100004,.fix sNw (nwV g b sh 100005 100006)),(100003,.fix .sc (.ptr 100004 [])),(100002,.grow .sc (bs dead)),(100001,.fix .sc (.sl 100002 [] 0 g.n)),(100000,.lp 730 [.ptr 100001 [],.ptr 100003 [],.ptr 100007 [],.ptr 100009 [],.ptr 100010 [],.ptr 100011 []] st)]
def Has :Hp->Hp->Prop
 | [],H=>Hp.get H 100014=none
 | (k,o)::r,H=>Hp.get H k=some o/\Has r H
def S91 (g:Nt)(b:Bool)(sh:Sh)(fl pr:List Int)(dead:List Bool)(to u:Nat)(M sent:Int)(q:List AV)(j:Nat):St:=⟨f91 q j,h91 .ready g b sh fl pr dead to u M sent⟩
section
variable {d :Nat} {g:Nt} {b:Bool} {fl pr:List Int} {dead:List Bool} {to u k:Nat} {M sent:Int} {q:List AV} {j:Nat} (hf:fl.length=g.a.length) (hM:g.a.length<=4000) (hq:q[j]? =some (i64 (k:Int))) (hk:inc g u k)
 (hb:FB g fl) (hcb:∀i,i<g.a.length->(art g.a i).c<=1073741824) (hkb:∀i,i<g.a.length->0<=(art g.a i).k/\(art g.a i).k<=1048576) (hql:q.length<=4000)
include hf hM hq hk hb hcb hkb hql
set_option maxHeartbeats 4000000 in
theorem qgw (hr:¬0<room g fl u k):zaz K90 (evC gl (call gl tab (d+1)) L90 (S91 g b yA4 fl pr dead to u M sent q j))=some (S91 g b yA4 fl pr dead to u M sent q (j+1)):=by
 have hj:j<q.length:=by
  have:=wB.1 hq
  exact this.1
 have x1:=zix hk.1
 have x2:=zb2 (show k<fl.length by rw[hf];exact hk.1)
 have h1:=hb.b k hk.1
 have h2:=hcb k hk.1
 have h3:=hkb k hk.1
 have h4:=hk.1
 unfold room at hr
 by_cases e:(art g.a k).f=u
 . rw[if_pos e]at hr
   simp(disch:=apply zq;omega) only[go_sem,simprocAttr,↓Nat.reduceEqDiff,xx,L90,m90,S91,f91,h91,hq,x1,x2,zah,zab,hf,e]
 . rw[if_neg e]at hr
   have e2:(((art g.a k).f:Int) != (u:Int))=true:=by simp;omega
   simp(disch:=apply zq;omega) only[go_sem,simprocAttr,↓Nat.reduceEqDiff,xx,L90,m90,S91,f91,h91,hq,x1,x2,zah,zab,hf,e2]
set_option maxHeartbeats 4000000 in
theorem go91 {fl':List Int}{dead':List Bool}{sent':Int}(hr:0<room g fl u k)(c:call gl tab (d+1) 1000730 [wV k (oth g u k) (room g fl u k) (cst g u k) (bko g u k)] (i730 .ready g b yA4 fl pr dead to u M sent)=some (.bool true,i730 .ready g b yA4 fl' pr dead' to u M sent',[])) :
  zaz K90 (evC gl (call gl tab (d+1)) L90 (S91 g b yA4 fl pr dead to u M sent q j))=some (S91 g b yA4 fl' pr dead' to u M sent' q (j+1)):=by
 have hj:j<q.length:=by
  have:=wB.1 hq
  exact this.1
 have x1:=zix hk.1
 have x2:=zb2 (show k<fl.length by rw[hf];exact hk.1)
 have h1:=hb.b k hk.1
 have h2:=hcb k hk.1
 have h3:=hkb k hk.1
 have h4:=hk.1
 unfold room oth cst bko at c
 unfold room at hr
 by_cases e:(art g.a k).f=u
 . rw[if_pos e]at hr
   rw[if_pos e,if_pos e,if_pos e,decide_eq_true e]at c
   simp only[i730,Bool.not_true]at c
   simp(disch:=apply zq;omega) only[go_sem,simprocAttr,↓Nat.reduceEqDiff,xx,L90,m90,S91,f91,h91,hq,x1,x2,zah,zab,hf,e,c]
 . rw[if_neg e]at hr
   have e2:(((art g.a k).f:Int) != (u:Int))=true:=by simp;omega
   rw[if_neg e,if_neg e,if_neg e,decide_eq_false e,show -(art g.a k).k=0-(art g.a k).k by omega]at c
   simp only[i730,Bool.not_false]at c
   simp(disch:=apply zq;omega) only[go_sem,simprocAttr,↓Nat.reduceEqDiff,xx,L90,m90,S91,f91,h91,hq,x1,x2,zah,zab,hf,e2,c]
set_option maxHeartbeats 4000000 in
theorem qev (hr:0<room g fl u k)(c:call gl tab (d+1) 1000730 [wV k (oth g u k) (room g fl u k) (cst g u k) (bko g u k)] (i730 .ready g b yA4 fl pr dead to u M sent)=some (.bool false,i730 (.done (.exit 0)) g b yA4 fl pr dead to u M sent,[])) :
  ∃fr H,evC gl (call gl tab (d+1)) L90 (S91 g b yA4 fl pr dead to u M sent q j)=some (.ret,⟨fr,H⟩)/\Has (h91 (.done (.exit 0)) g b yA4 fl pr dead to u M sent) H:=by
 have hj:j<q.length:=by
  have:=wB.1 hq
  exact this.1
 have x1:=zix hk.1
 have x2:=zb2 (show k<fl.length by rw[hf];exact hk.1)
 have h1:=hb.b k hk.1
 have h2:=hcb k hk.1
 have h3:=hkb k hk.1
 have h4:=hk.1
 unfold room oth cst bko at c
 unfold room at hr
 by_cases e:(art g.a k).f=u
 . rw[if_pos e]at hr
   rw[if_pos e,if_pos e,if_pos e,decide_eq_true e]at c
   simp only[i730,Bool.not_true]at c
   refine⟨_,_,by simp(disch:=apply zq;omega) only[go_sem,simprocAttr,↓Nat.reduceEqDiff,xx,L90,m90,S91,f91,h91,hq,x1,x2,zah,zab,hf,e,c];rfl,?_⟩
   simp only[h91,Has]
   simp(disch:=apply zq;omega) only[go_sem,simprocAttr,↓Nat.reduceEqDiff,xx,and_true,true_and]
 . rw[if_neg e]at hr
   have e2:(((art g.a k).f:Int) != (u:Int))=true:=by simp;omega
   rw[if_neg e,if_neg e,if_neg e,decide_eq_false e,show -(art g.a k).k=0-(art g.a k).k by omega]at c
   simp only[i730,Bool.not_false]at c
   refine⟨_,_,by simp(disch:=apply zq;omega) only[go_sem,simprocAttr,↓Nat.reduceEqDiff,xx,L90,m90,S91,f91,h91,hq,x1,x2,zah,zab,hf,e2,c];rfl,?_⟩
   simp only[h91,Has]
   simp(disch:=apply zq;omega) only[go_sem,simprocAttr,↓Nat.reduceEqDiff,xx,and_true,true_and]
end
end Go.Proofs.S50
namespace Go.Proofs.S50
open Go Go.Ev Go.Proofs Go.Fl
variable {gl :Gl} {n:Nat}
def live (d:List Bool):Nat->Nat
 | 0=>0
 | n+1=>live d n+if dd d n=true then 0 else 1
theorem zsf {d d':List Bool}(h:∀v,dd d v=true->dd d' v=true):∀n,live d' n<=live d n
 | 0=>Nat.le_refl _
 | n+1=>by
   have ih:=zsf h n
   rw[live,live]
   by_cases e:dd d n=true
   . rw[if_pos e,if_pos (h n e)];omega
   . rw[if_neg e];split<;>omega
theorem zuq {d d':List Bool}(h:∀v,dd d v=true->dd d' v=true){u:Nat}(h1:dd d u=false)(h2:dd d' u=true):∀{n},u<n->live d' n<live d n
 | 0,hn=>by omega
 | n+1,hn=>by
   rw[live,live]
   by_cases e:u=n
   . subst e
     have:=zsf h u
     rw[h1,h2,if_pos rfl,if_neg (by decide)];omega
   . have ih:=zuq h h1 h2 (n:=n) (by omega)
     by_cases e2:dd d n=true
     . rw[if_pos e2,if_pos (h n e2)];omega
     . rw[if_neg e2];split<;>omega
structure P9 where
 fl:List Int
 dead:List Bool
 sent:Int
 j:Nat
section
variable {d :Nat} {g:Nt} {b:Bool} {pr:List Int} {s to u k:Nat} {M:Int} {fl0:List Int} {dead0:List Bool} (hg:GOk g) (hpb:PB g 1048576 pr s to) (hu:u<g.n) (hM:0<M/\M<=1099511627776) (hdl:dead0.length=g.n) (hu0:dd dead0 u=false) (hlv:live dead0 g.n<=k+1)
 (ih:∀u M fl dead,u<g.n->0<=M->M<=1099511627776->FB g fl->RN g fl pr->dead.length=g.n->dd dead u=false->live dead g.n<=k->∃fl' dead' r,PP g pr to u M fl dead fl' dead' r/\call gl tab (d+1) 73 (a73 u M) (i73 g b yA4 fl pr dead to)=some (i64 r,i73 g b yA4 fl' pr dead' to,[]))
include hg hpb hu hM hdl hu0 hlv ih
theorem qf0 {a:P9}(h:PI g pr to (ad g) u M fl0 dead0 a.j a.fl a.dead a.sent)(hj:a.j<(ad g u).length) :
  (a.sent=M/\∃fr H,evC gl (call gl tab (d+2)) L90 (S91 g b yA4 a.fl pr a.dead to u M a.sent (us (ad g u)) a.j)=some (.ret,⟨fr,H⟩)/\Has (h91 (.done (.exit 0)) g b yA4 a.fl pr a.dead to u M a.sent) H) \/
  ∃a':P9,PI g pr to (ad g) u M fl0 dead0 a'.j a'.fl a'.dead a'.sent/\a'.j=a.j+1 /\
  zaz K90 (evC gl (call gl tab (d+2)) L90 (S91 g b yA4 a.fl pr a.dead to u M a.sent (us (ad g u)) a.j))=some (S91 g b yA4 a'.fl pr a'.dead to u M a'.sent (us (ad g u)) a'.j):=by
 obtain⟨fl,dead,sent,j⟩:=a
 simp only at h hj ⊢
 have hje:(ad g u)[j]? =some (ad g u)[j]:=List.getElem?_eq_getElem hj
 have hi:inc g u (ad g u)[j]:=(znc g u hu _).1 (List.getElem_mem hj)
 have hql:(us (ad g u)).length<=4000:=by
  rw[zao];exact Nat.le_trans (zxq _ _) hg.a
 have hq:=zjs hje
 generalize (ad g u)[j]=i at *
 have hkb:=fun k hk=>(hg.ok.k k hk)
 have hfb:=h.fb
 by_cases hp:0<room g fl u i
 case neg=>exact .inr ⟨⟨fl,dead,sent,j+1⟩,z1j h hje (.inl (show room g fl u i<=0 by omega)),rfl,qgw hfb.l hg.a hq hi hfb hg.c hkb hql hp⟩
 have ht:=zi8 hg.ok hi
 have hcst:-1073741824<=cst g u i/\cst g u i<=1073741824:=by
  have:=hkb i hi.1
  unfold cst;split<;>omega
 have hnK:(g.n:Int)*1048576<=100*1048576:=Int.mul_le_mul_of_nonneg_right (by have:=hg.n;omega) (by decide)
 have hprb:∀v,v<g.n->0<=nth pr v/\nth pr v<=1099511627776:=fun v hv=>by
  have h1:=hpb.b v hv
  have h2:=hpb.t
  omega
 have hdl':dead.length=g.n:=by rw[h.dl];exact hdl
 by_cases hsM:sent=M
 . refine .inl ⟨hsM,?_⟩
   exact qev hfb.l hg.a hq hi hfb hg.c hkb hql hp (zng hfb.l hpb.l hdl' hu ht hcst (hprb u hu) (hprb _ ht) (by omega) hsM)
 have e:cst g u i+nth pr u-nth pr (oth g u i)=red g pr u i:=rfl
 by_cases hsk:dd dead (oth g u i)=true\/red g pr u i≠0
 . exact .inr ⟨⟨fl,dead,sent,j+1⟩,z1j h hje (.inr hsk),rfl,go91 hfb.l hg.a hq hi hfb hg.c hkb hql hp (zpn hfb.l hpb.l hdl' hu ht hcst (hprb u hu) (hprb _ ht) (by omega) hsM hsk)⟩
 have hd0:dd dead (oth g u i)=false:=by
  cases hd:dd dead (oth g u i)with
  | false=>rfl
  | true=>exact absurd (.inl hd) hsk
 have hz:red g pr u i=0:=Decidable.byContradiction fun h=>hsk (.inr h)
 have hss:=h.s
 have hm:=zuk (room g fl u i) (M-sent)
 have hrb:room g fl u i<=1073741824:=by
  have h1:=hfb.b i hi.1
  have h2:=hg.c i hi.1
  unfold room;split<;>omega
 have hlive:live dead g.n<=k:=by
  have:=zuq (d:=dead0) (d':=dead) h.dm hu0 h.du hu
  omega
 obtain⟨fl',dead',r,hpp,c73⟩:=ih (oth g u i) (mi (room g fl u i) (M-sent)) fl dead ht (by omega) (by omega) hfb h.rn hdl' hd0 hlive
 have hrs:=hpp.s
 have hfi:0<=nth fl' i/\nth fl' i<=1073741824:=by
  have h1:=hpp.fb.b i hi.1
  have h2:=hg.c i hi.1
  omega
 have hfl:fl'.set i (nth fl' i+if bko g u i then -r else r)=add g fl' u i r:=by
  unfold add bko
  by_cases e:(art g.a i).f=u
  . rw[decide_eq_true e,if_pos e];rfl
  . rw[decide_eq_false e,if_neg e];rfl
 refine .inr ⟨⟨add g fl' u i r,dead',sent+r,j+1⟩,qcq hg.ok hu0 h hje hi hd0 hz ⟨hm.1,hm.2.1⟩ (show 0<mi (room g fl u i) (M-sent) by omega) hpp,rfl,?_⟩
 have c:=zrs (gl:=gl) (n:=d+2) (b:=b) (sh:=yA4) (r:=room g fl u i) (c:=cst g u i) (bk:=bko g u i) hfb.l hpb.l hdl' hu ht hcst (hprb u hu) (hprb _ ht) (by omega) hsM hd0 hz ⟨hss.1,hss.2,hM.2⟩ ⟨by omega,hrb⟩ hi.1 (q:=r) ⟨hrs.1,by omega⟩ hpp.fb.l hfi c73
 rw[hfl]at c
 exact go91 hfb.l hg.a hq hi hfb hg.c hkb hql hp c
def i91 (st:RS)(g:Nt)(b:Bool)(sh:Sh)(fl pr:List Int)(dead:List Bool)(to u:Nat)(M sent:Int):Hp:=i730 st g b sh fl pr dead to u M sent++[(100012,.fix .sc (.ptr 100004 [])),(100013,.fix .sc (i64 (u:Int)))]
theorem qhq (hgn:g.a≠[])(hb0:FB g fl0)(hr0:RN g fl0 pr):∃(st:RS) (fl:List Int) (dead:List Bool) (sent:Int) (j:Nat),PI g pr to (ad g) u M fl0 dead0 j fl dead sent/\(sent<M->(ad g u).length<=j)/\(st= .ready\/st= .done (.exit 0)) /\
  call gl tab (d+3) 90 [.yld 100000,.ptr 100012 [],.ptr 100013 []] (i91 .ready g b yA4 fl0 pr (dead0.set u true) to u M 0)=some (.tup [],i91 st g b yA4 fl pr dead to u M sent,[]):=by
 have hl:=z1m (g:=g) hu
 have hp0:=pi_0 (g:=g) (pr:=pr) (to:=to) (adj:=ad g) (u:=u) (M:=M) (fl0:=fl0) (dead0:=dead0) (by omega) (by omega) hb0 hr0
 rcases Nat.eq_zero_or_pos (ad g u).length with h0|h0
 . have e0:ad g u=[]:=List.length_eq_zero_iff.1 h0
   have e1:lV .sc (us (ad g u))= .lst true .sc []:=by rw[e0];rfl
   rw[e1]at hl
   refine⟨.ready,fl0,dead0.set u true,0,0,hp0,fun _=>by omega,.inl rfl,?_⟩
   rw[zbo (fd:=fd90) rfl]
   simp(disch:=apply zq;omega) only[go_sem,simprocAttr,↓Nat.reduceEqDiff,xx,fd90,m90,i91,i730,hl,zi7]
   rw[zak (fun _=>⟨[.set 16 (i64 0),.set 15 (i64 0),.set 14 (.lst true .sc []),.set 2 (.ptr 100013 []),.set 1 (.ptr 100012 []),.set 0 (.yld 100000)],h91 .ready g b yA4 fl0 pr (dead0.set u true) to u M 0⟩) 0 (by unfold LF;omega)]
   . simp(disch:=apply zq;omega) only[go_sem,simprocAttr,↓Nat.reduceEqDiff,xx,h91]
   . simp(disch:=apply zq;omega) only[go_sem,simprocAttr,↓Nat.reduceEqDiff,xx,h91]
   . intro i hi;omega
   . simp(disch:=apply zq;omega) only[go_sem,simprocAttr,↓Nat.reduceEqDiff,xx,h91]
 . have e1:lV .sc (us (ad g u))= .lst false .sc (us (ad g u)):=by
    unfold lV;rw[zjr,if_neg]
    rw[List.isEmpty_iff];intro e;rw[e]at h0;simp at h0
   rw[e1]at hl
   obtain⟨a,⟨ha,hjl⟩,hfin,hiter⟩:=zmo (f:=evC gl (call gl tab (d+2)) L90) (ks:=K90) (fun a:P9=>S91 g b yA4 a.fl pr a.dead to u M a.sent (us (ad g u)) a.j) (fun a=>PI g pr to (ad g) u M fl0 dead0 a.j a.fl a.dead a.sent/\a.j<=(ad g u).length)
    (fun a=>a.j=(ad g u).length\/(a.sent=M/\∃fr H,evC gl (call gl tab (d+2)) L90 (S91 g b yA4 a.fl pr a.dead to u M a.sent (us (ad g u)) a.j)=some (.ret,⟨fr,H⟩)/\Has (h91 (.done (.exit 0)) g b yA4 a.fl pr a.dead to u M a.sent) H)) (fun a=>(ad g u).length-a.j) (a0:=⟨fl0,dead0.set u true,0,0⟩)
    (by have:=zxq g u;have:=hg.a;unfold LF;simp only;omega) ⟨hp0,Nat.zero_le _⟩
    (fun a ⟨ha,hjl⟩=>by
      by_cases hj:a.j<(ad g u).length
      . rcases @qf0 gl d g b pr s to u k M fl0 dead0 hg hpb hu hM hdl hu0 hlv ih a ha hj with ⟨h1,fr,H,h2,h3⟩|⟨a',h1,h2,h3⟩
        . exact .inl ⟨.inr ⟨h1,fr,H,h2,h3⟩,by rw[h2];rfl⟩
        . exact .inr ⟨a',⟨h1,by omega⟩,by omega,h3⟩
      . refine .inl ⟨.inl (by omega),?_⟩
        have e:a.j=(ad g u).length:=by omega
        obtain⟨fl,dead,sent,j⟩:=a
        simp only at e
        subst e
        simp(disch:=apply zq;omega) only[go_sem,simprocAttr,↓Nat.reduceEqDiff,xx,L90,m90,S91,f91,h91,zao])
   rcases hfin with hfin|⟨hsM,fr,H,h2,h3⟩
   . refine⟨.ready,a.fl,a.dead,a.sent,a.j,ha,fun _=>by omega,.inl rfl,?_⟩
     obtain⟨fl,dead,sent,j'⟩:=a
     simp only at hfin
     subst hfin
     simp only[L90,m90]at hiter
     rw[zbo (fd:=fd90) rfl]
     simp(disch:=apply zq;omega) only[go_sem,simprocAttr,↓Nat.reduceEqDiff,xx,fd90,m90,i91,i730,hl,zi7]
     rw[hiter]
     . simp(disch:=apply zq;omega) only[go_sem,simprocAttr,↓Nat.reduceEqDiff,xx,S91,f91,h91,zao]
     . simp(disch:=apply zq;omega) only[go_sem,simprocAttr,↓Nat.reduceEqDiff,xx,S91,f91,h91]
   . refine⟨.done (.exit 0),a.fl,a.dead,a.sent,a.j,ha,fun h=>by omega,.inr rfl,?_⟩
     obtain⟨fl,dead,sent,j'⟩:=a
     rw[h2]at hiter
     simp only[L90,m90]at hiter
     simp only[h91,Has]at h3
     obtain⟨z13,z12,z11,z10,z9,z8,z7,z6,z5,z4,z3,z2,z1,z0,zz⟩:=h3
     rw[zbo (fd:=fd90) rfl]
     simp(disch:=apply zq;omega) only[go_sem,simprocAttr,↓Nat.reduceEqDiff,xx,fd90,m90,i91,i730,hl,zi7]
     rw[hiter]
     . simp(disch:=apply zq;omega) only[go_sem,simprocAttr,↓Nat.reduceEqDiff,xx,z13,z12,z11,z10,z9,z8,z7,z6,z5,z4,z3,z2,z1,z0,zz]
     . simp(disch:=apply zq;omega) only[go_sem,simprocAttr,↓Nat.reduceEqDiff,xx,S91,f91,h91]
end
end Go.Proofs.S50
namespace Go.Proofs.S50
open Go Go.Ev Go.Proofs Go.Fl
variable {gl :Gl} {n:Nat}
theorem qkl {d:Nat}{g:Nt}{b:Bool}{sh:Sh}{fl pr fl':List Int}{dead dead':List Bool}{u to:Nat}{M sent:Int}{st:RS}(hst:st= .ready\/st= .done (.exit 0))(hu:u≠to)(hM:0<M)(hug:u<g.n)(hdl:dead.length=g.n)(hdl':dead'.length=g.n)(hs:0<=sent/\sent<=M)
  (c90:call gl tab (d+2) 90 [.yld 100000,.ptr 100012 [],.ptr 100013 []] (i91 .ready g b sh fl pr (dead.set u true) to u M 0)=some (.tup [],i91 st g b sh fl' pr dead' to u M sent,[])) :
  call gl tab (d+3) 73 (a73 u M) (i73 g b sh fl pr dead to)=some (i64 sent,i73 g b sh fl' pr (dead'.set u (decide (sent<M))) to,[]):=by
 have e2:((u:Int)==(to:Int))=false:=by rw[beq_eq_false_iff_ne];omega
 have e3:(M==0)=false:=by rw[beq_eq_false_iff_ne];omega
 have x1:=z86 (show u<dead.length by omega)
 have x2:=z86 (show u<dead'.length by omega)
 have c70:=@zz6 gl (d+2) (by omega) g b sh fl pr u
 simp only[i91,i730,List.cons_append,List.nil_append,ztj]at c90
 rw[zbo (fd:=fd73) rfl]
 rcases hst with rfl|rfl
 . simp(disch:=apply zq;omega) only[go_sem,simprocAttr,↓Nat.reduceEqDiff,xx,fd73,m73,i73,e2,e3,zc0,hdl,hdl',x1,x2,c70,c90,ztj]
 . simp(disch:=apply zq;omega) only[go_sem,simprocAttr,↓Nat.reduceEqDiff,xx,fd73,m73,i73,e2,e3,zc0,hdl,hdl',x1,x2,c70,c90,ztj]
theorem z9u {g:Nt}{b:Bool}{pr:List Int}{s to:Nat}(hg:GOk g)(hgn:g.a≠[])(hpb:PB g 1048576 pr s to):∀k n,3*k+3<=n->∀u M fl dead,u<g.n->0<=M->M<=1099511627776->FB g fl->RN g fl pr->dead.length=g.n->dd dead u=false->live dead g.n<=k->∃fl' dead' r,PP g pr to u M fl dead fl' dead' r/\call gl tab n 73 (a73 u M) (i73 g b yA4 fl pr dead to)=some (i64 r,i73 g b yA4 fl' pr dead' to,[])
 | 0,n,hn,u,M,fl,dead,hu,hM,hM2,hb,hr,hdl,hd,hl=>by
   have:=zuq (d:=dead) (d':=dead.set u true) (fun v hv=>by rw[zm4 (by omega)];split<;>simp_all) hd (by rw[zm4 (by omega),if_pos rfl]) hu
   omega
 | k+1,n,hn,u,M,fl,dead,hu,hM,hM2,hb,hr,hdl,hd,hl=>by
   by_cases h0:u=to\/M=0
   . exact⟨fl,dead,M,qhf h0 hM hb hr,z60 (by omega) h0⟩
   . obtain⟨d,rfl⟩:∃d,n=d+4:=⟨n-4,by omega⟩
     have hut:u≠to:=fun h=>h0 (.inl h)
     have hM0:0<M:=by have:M≠0:=fun h=>h0 (.inr h);omega
     have ih:=z9u (b:=b) hg hgn hpb k (d+1) (by omega)
     obtain⟨st,fl',dead',sent,j,h1,h2,h3,c90⟩:=@qhq gl d g b pr s to u k M fl dead hg hpb hu ⟨hM0,hM2⟩ hdl hd hl ih hgn hb hr
     refine⟨fl',dead'.set u (decide (sent<M)),sent,qhh (znc g) hu hut hd (by omega) h1 h2,?_⟩
     exact qkl (d:=d+1) h3 hut hM0 hu hdl (by rw[h1.dl];exact hdl) h1.s c90
theorem qd6 {g:Nt}{b:Bool}{pr fl:List Int}{s to:Nat}{M:Int}(hg:GOk g)(hgn:g.a≠[])(hpb:PB g 1048576 pr s to)(hs:s<g.n)(hM:0<=M)(hM2:M<=1099511627776)(hb:FB g fl)(hr:RN g fl pr)(hn:3*g.n+4<=n) :
  ∃fl' dead' r,PP g pr to s M fl (List.replicate g.n false) fl' dead' r/\call gl tab n 51 [.ptr 100000 [],i64 (s:Int),i64 (to:Int),i64 M] (nwH g b yA4 fl pr)=some (i64 r,nwH g b yA4 fl' pr,[]):=by
 obtain⟨d,rfl⟩:∃d,n=d+1:=⟨n-1,by omega⟩
 have hd:∀v,dd (List.replicate g.n false) v=false:=fun v=>by
  unfold dd;rw[List.getD_eq_getElem?_getD,List.getElem?_replicate];split<;>rfl
 have hlv:∀m,live (List.replicate g.n false) m<=m:=fun m=>by
  induction m with
  | zero=>exact Nat.le_refl _
  | succ m ih=>rw[live,hd,if_neg (by decide)];omega
 obtain⟨fl',dead',r,h1,c73⟩:=z9u (gl:=gl) (b:=b) hg hgn hpb g.n d (by omega) s M fl (List.replicate g.n false) hs hM hM2 hb hr (by simp) (hd s) (hlv _)
 refine⟨fl',dead',r,h1,?_⟩
 have hl:g.n<=LIM:=by have:=hg.n;unfold LIM;omega
 simp only[i73]at c73
 rw[zbo (fd:=fd51) rfl]
 have sc:(AV.fn 73 [.ptr 6 [],.ptr 9 [],.ptr 4 [],.ptr 10 []]).scalar=true:=rfl
 simp(disch:=apply zq;omega) only[go_sem,simprocAttr,↓Nat.reduceEqDiff,xx,fd51,m51,hl,qjr,sc,c73]
end Go.Proofs.S50
