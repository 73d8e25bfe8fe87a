/-
  Flows: prices are accepted. No condition.
-/
import Derived.Test.YtaloneiaejhopaaDoorW50G19x3
set_option linter.all false
open Nat renaming exists_eq_add_of_le'->wB
open Int renaming mul_le_mul_of_nonneg_right->wC,add_zero->wD
open List renaming getElem?_eq_getElem->wE,take_length->wF,ext_getElem->wG,getElem?_eq_some_iff->wH
namespace Go.Proofs.S50
open Go Go.Ev Go.Proofs Go.Fl
variable {gl :Gl} {n:Nat}
def L98 :MC:=match m98 with| .seq _ (.seq (.seq _ (.block _ (.loop _ b))) _)=>b|_=>.skip
def S98 (b:Bool)(l:List Int)(i:Nat):St:=⟨[.set 8 (i64 (i:Int)),.set 7 (i64 (l.length:Int)),.set 1 (.fn 93 []),.set 0 (.lst b .sc (ns l))],[]⟩
theorem qej (h:1<=n){x:Int}(hx:0<=x/\x<=1073741824):call gl tab n 93 [i64 x] []=some (.bool false,[],[]):=by
 obtain⟨d,rfl⟩:=wB h
 rw[zai (fd:=fd93) rfl]
 simp(disch:=apply zq;omega) only[go_sem,simprocAttr,↓Nat.reduceEqDiff,xx,fd93,m93]
theorem qfz {d:Nat}{b:Bool}{l:List Int}(hl:l.length<=100000)(h:∀i,i<l.length->0<=nth l i/\nth l i<=1073741824){i:Nat}(hi:i<l.length):zaz [.slot 0,.slot 1,.slot 7,.slot 8] (evC gl (call gl tab (d+1)) L98 (S98 b l i))=some (S98 b l (i+1)):=by
 have x1:=zb2 hi
 have c1:=@qej gl (d+1) (by omega) (nth l i) (h i hi)
 simp(disch:=apply zq;omega) only[go_sem,simprocAttr,↓Nat.reduceEqDiff,xx,L98,m98,S98,zab,x1,c1]
theorem z1u (h:3<=n){b:Bool}{l:List Int}(hl:l.length<=100000)(hx:∀i,i<l.length->0<=nth l i/\nth l i<=1073741824):call gl tab n 92 [.lst b .sc (ns l),.fn 93 []] []=some (.bool false,[],[]):=by
 obtain⟨d,rfl⟩:=wB h
 have hs:=fun i hi=>@qfz gl d b l hl hx i hi
 simp only[L98,m98]at hs
 have c1:call gl tab (d+2) 98 [.lst b .sc (ns l),.fn 93 []] []=some (i64 (-1),[],[]):=by
  rw[zai (fd:=fd98) rfl]
  simp(disch:=apply zq;omega) only[go_sem,simprocAttr,↓Nat.reduceEqDiff,xx,fd98,m98,zab]
  rw[zak (S98 b l) l.length (by unfold LF;omega)]
  . simp(disch:=apply zq;omega) only[go_sem,simprocAttr,↓Nat.reduceEqDiff,xx,S98]
  . simp(disch:=apply zq;omega) only[go_sem,simprocAttr,↓Nat.reduceEqDiff,xx,S98]
  . exact hs
  . simp(disch:=apply zq;omega) only[go_sem,simprocAttr,↓Nat.reduceEqDiff,xx,S98]
 rw[zai (fd:=fd92) rfl]
 simp(disch:=apply zq;omega) only[go_sem,simprocAttr,↓Nat.reduceEqDiff,xx,fd92,m92,c1]
def L78 :MC:=match m78 with| .seq _ (.seq _ (.seq (.seq _ (.block _ (.loop _ b))) _))=>b|_=>.skip
def S78 (g:Nt)(b:Bool)(sh:Sh)(w:Fq)(fl:List Int)(k:Nat):St :=
 ⟨[.set 32 (i64 (k:Int)),.set 31 (i64 (g.a.length:Int)),.set 30 (.lst b sh (rs g.a)),.set 5 (.ptr 5 [])],[(5,.fix yA5 (fqV w fl))]⟩
section
variable {d :Nat} {g:Nt} {b:Bool} {sh:Sh} {s to:Nat} {w:Fq} {fl:List Int} (hg:GOk g) (hsh:g.a=[]\/sh=yA4) (hf:FB g fl) (hr:RN g fl w.pr) (hp:PB g 1048576 w.pr s to)
include hg hsh hf hr hp
theorem qcp :∀v,v<g.n->0<=nth w.pr v/\nth w.pr v<=1073741824:=fun v hv=>by
 have h1:=hp.b v hv
 have h2:=hp.t
 have hn:=hg.n
 have hnK:(g.n:Int)*1048576<=100*1048576:=wC (by omega) (by decide)
 omega
theorem qf3 {k:Nat}(hk:k<g.a.length):zaz [.slot 5,.slot 30,.slot 31,.slot 32,.key 5] (evC gl (call gl tab d) L78 (S78 g b sh w fl k))=some (S78 g b sh w fl (k+1)):=by
 have hsh:sh=yA4:=hsh.resolve_left (fun e=>by rw[e]at hk;simp at hk)
 subst hsh
 have x1:=zix hk
 have x2:=zb2 (show k<fl.length by rw[hf.l];exact hk)
 have h1:=hg.ok.f k hk
 have h2:=hg.ok.t k hk
 have x3:=zb2 (l:=w.pr) (show(art g.a k).f<_ by rw[hp.l];exact h1)
 have x4:=zb2 (l:=w.pr) (show(art g.a k).t<_ by rw[hp.l];exact h2)
 have p1:=qcp hg (.inr rfl:g.a=[]\/yA4=yA4) hf hr hp _ h1
 have p2:=qcp hg (.inr rfl:g.a=[]\/yA4=yA4) hf hr hp _ h2
 have hkk:=hg.ok.k k hk
 have ha:=hg.a
 obtain⟨r1,r2⟩:=qha hg.ok hr hk
 have hfk:=hf.b k hk
 have hl:=hf.l
 have hpl:=hp.l
 generalize nth w.pr (art g.a k).f=y1 at *
 generalize nth w.pr (art g.a k).t=y2 at *
 generalize nth fl k=xk at *
 by_cases c1:xk<(art g.a k).c
 . have:=r1 c1
   by_cases c2:0<xk
   . have:=r2 c2
     simp(disch:=apply zq;omega) only[go_sem,simprocAttr,↓Nat.reduceEqDiff,xx,L78,m78,S78,zah,zab,x1,x2,x3,x4,hl,hpl]
   . simp(disch:=apply zq;omega) only[go_sem,simprocAttr,↓Nat.reduceEqDiff,xx,L78,m78,S78,zah,zab,x1,x2,x3,x4,hl,hpl]
 . by_cases c2:0<xk
   . have:=r2 c2
     simp(disch:=apply zq;omega) only[go_sem,simprocAttr,↓Nat.reduceEqDiff,xx,L78,m78,S78,zah,zab,x1,x2,x3,x4,hl,hpl]
   . simp(disch:=apply zq;omega) only[go_sem,simprocAttr,↓Nat.reduceEqDiff,xx,L78,m78,S78,zah,zab,x1,x2,x3,x4,hl,hpl]
theorem z1h (hs:s<g.n)(h:4<=n):call gl tab n 78 [nV g b sh,i64 (s:Int),fqV w fl] []=some (.bool true,[],[]):=by
 obtain⟨d,rfl⟩:=wB h
 have hst:=fun i hi=>@qf3 gl (d+3) g b sh s to w fl hg hsh hf hr hp i hi
 simp only[L78,m78]at hst
 have ha:=hg.a
 have hn:=hg.n
 have hpl:=hp.l
 have c92:=@z1u gl (d+3) (by omega) w.b2 w.pr (by omega) (fun i hi=>qcp hg hsh hf hr hp i (by omega))
 have x1:=zb2 (l:=w.pr) (show s<_ by rw[hpl];exact hs)
 rw[hp.s]at x1
 have b0:((g.n:Int) != (g.n:Int))=false:=by simp
 rw[zai (fd:=fd78) rfl]
 simp(disch:=apply zq;omega) only[go_sem,simprocAttr,↓Nat.reduceEqDiff,xx,fd78,m78,zah,zab,hpl,x1,c92,b0]
 rw[zak (S78 g b sh w fl) g.a.length (by unfold LF;omega)]
 . simp(disch:=apply zq;omega) only[go_sem,simprocAttr,↓Nat.reduceEqDiff,xx,S78,zah]
 . simp(disch:=apply zq;omega) only[go_sem,simprocAttr,↓Nat.reduceEqDiff,xx,S78,zah]
 . exact hst
 . simp(disch:=apply zq;omega) only[go_sem,simprocAttr,↓Nat.reduceEqDiff,xx,S78,zah]
end
end Go.Proofs.S50
namespace Go.Proofs.S50
open Go Go.Ev Go.Proofs Go.Fl
variable {gl :Gl} {n:Nat}
structure CK (cut:List Nat)(N:Nat):Prop where
 l:∀i k:Nat,cut[i]? =some k->k<N
 o:∀i k m:Nat,cut[i]? =some k->cut[i+1]? =some m->k<m
 n:cut.length<=N
theorem zu8 (out:List Int)(N:Nat):CK (cutL out N) N:=by
 have key:∀n,(cutL out n).Pairwise (· < ·):=by
  intro n
  induction n with
  | zero=>simp[cutL]
  | succ n ih =>
    rw[cutL];split
    . rw[List.pairwise_append]
      refine⟨ih,by simp,fun x hx y hy=> ?_⟩
      rw[List.mem_singleton]at hy
      have:=(zff.1 hx).1
      omega
    . exact ih
 refine⟨fun i k h=>(zff.1 (List.mem_of_getElem? h)).1,fun i k m h1 h2=> ?_,zqv out N⟩
 have hp:=List.pairwise_iff_getElem.1 (key N)
 obtain⟨a1,rfl⟩:=wH.1 h1
 obtain⟨a2,rfl⟩:=wH.1 h2
 exact hp i (i+1) a1 a2 (by omega)
def inL (cut:List Nat)(N i:Nat):List Bool:=(List.range N).map fun v=>decide (v∈cut.take i)
theorem zmr (cut:List Nat)(N i:Nat):(inL cut N i).length=N:=by simp[inL]
theorem zkw {cut:List Nat}{N i v:Nat}(h:v<N):(bs (inL cut N i))[v]? =some (.bool (decide (v∈cut.take i))):=by
 simp[bs,inL,h]
theorem zwt {cut:List Nat}{N i k:Nat}(hk:cut[i]? =some k):inL cut N (i+1)=(inL cut N i).set k true:=by
 have ht:=tkS hk
 apply wG
 . simp[inL]
 . intro v h1 h2
   simp only[inL,List.getElem_map,List.getElem_range,List.getElem_set]
   rw[ht]
   by_cases e:k=v
   . subst e;rw[if_pos rfl];simp
   . rw[if_neg e]
     simp[Ne.symm e]
def L79 :MC:=match m79 with| .seq _ (.seq _ (.seq (.seq _ (.block _ (.loop _ b))) _))=>b|_=>.skip
def L79b :MC:=match m79 with| .seq _ (.seq _ (.seq _ (.seq _ (.seq (.seq _ (.block _ (.loop _ b))) _))))=>b|_=>.skip
abbrev K79 :List Kp:=[.slot 1,.slot 2,.slot 4,.slot 7,.slot 9,.slot 18,.slot 19,.slot 20,.key 4,.key 7,.key 16]
abbrev K79b :List Kp:=[.slot 7,.slot 9,.slot 63,.slot 64,.slot 65,.key 7,.key 16]
def S79 (g:Nt)(b:Bool)(sh:Sh)(s to:Nat)(w:Fq)(fl:List Int)(i:Nat):St :=
 ⟨[.set 20 (i64 (i:Int)),.set 19 (i64 (w.cut.length:Int)),.set 18 (.lst w.b3 .sc (us w.cut)),.set 9 (.sl 16 [] 0 g.n),.set 7 (.ptr 7 []),.set 4 (.ptr 4 []),.set 2 (i64 (to:Int)),.set 1 (i64 (s:Int))],
   [(16,.grow .sc (bs (inL w.cut g.n i))),(7,.fix yA5 (fqV w fl)),(4,.fix sN2 (nV g b sh))]⟩
def S79b (g:Nt)(b:Bool)(sh:Sh)(w:Fq)(fl:List Int)(k:Nat):St :=
 ⟨[.set 65 (i64 (k:Int)),.set 64 (i64 (g.a.length:Int)),.set 63 (.lst b sh (rs g.a)),.set 9 (.sl 16 [] 0 g.n),.set 7 (.ptr 7 [])],
   [(16,.grow .sc (bs (inL w.cut g.n w.cut.length))),(7,.fix yA5 (fqV w fl))]⟩
section
variable {d :Nat} {g:Nt} {b:Bool} {sh:Sh} {s to:Nat} {w:Fq} {fl:List Int} (hg:GOk g) (hsh:g.a=[]\/sh=yA4) (hc:CK w.cut g.n)
include hg hsh hc
theorem qf2 {i:Nat}(hi:i<w.cut.length):zaz K79 (evC gl (call gl tab d) L79 (S79 g b sh s to w fl i))=some (S79 g b sh s to w fl (i+1)):=by
 have hn:=hg.n
 have hcn:=hc.n
 obtain⟨k,hk⟩:∃k,w.cut[i]? =some k:=⟨_,wE hi⟩
 have hkl:=hc.l i k hk
 have x1:=zjs hk
 have il:=zmr w.cut g.n i
 have es:=zwt (N:=g.n) hk
 have bl:=zc0 (inL w.cut g.n i)
 have x5:=zkw (cut:=w.cut) (i:=i) hkl
 unfold S79
 rw[es,ztj]
 generalize inL w.cut g.n i=I at *
 cases i with
 | zero=>simp(disch:=apply zq;omega) only[go_sem,simprocAttr,↓Nat.reduceEqDiff,xx,L79,m79,zao,x1,x5,bl,il]
 | succ j =>
   obtain⟨m,hm⟩:∃m,w.cut[j]? =some m:=⟨_,wE (by omega)⟩
   have hmk:=hc.o j m k hm hk
   have x2:=zjs hm
   have e1:((j+1:Nat):Int)-1=(j:Int):=by omega
   simp(disch:=apply zq;omega) only[go_sem,simprocAttr,↓Nat.reduceEqDiff,xx,L79,m79,zao,x1,x2,x5,bl,il,e1]
theorem qa9 (hf:FB g fl)(hx:∀k,k<g.a.length->((art g.a k).f∈w.cut->¬(art g.a k).t∈w.cut->nth fl k=(art g.a k).c)/\(¬(art g.a k).f∈w.cut->(art g.a k).t∈w.cut->nth fl k=0)){k:Nat}(hk:k<g.a.length) :
  zaz K79b (evC gl (call gl tab d) L79b (S79b g b sh w fl k))=some (S79b g b sh w fl (k+1)):=by
 have hsh:sh=yA4:=hsh.resolve_left (fun e=>by rw[e]at hk;simp at hk)
 subst hsh
 have hn:=hg.n
 have ha:=hg.a
 have hl:=hf.l
 have x1:=zix hk
 have x2:=zb2 (show k<fl.length by rw[hf.l];exact hk)
 have h1:=hg.ok.f k hk
 have h2:=hg.ok.t k hk
 have x3:=zkw (cut:=w.cut) (i:=w.cut.length) h1
 have x4:=zkw (cut:=w.cut) (i:=w.cut.length) h2
 rw[wF]at x3 x4
 obtain⟨q1,q2⟩:=hx k hk
 have il:=zmr w.cut g.n w.cut.length
 have bl:=zc0 (inL w.cut g.n w.cut.length)
 unfold S79b
 generalize inL w.cut g.n w.cut.length=I at *
 by_cases c1:(art g.a k).f∈w.cut
 . rw[decide_eq_true c1]at x3
   by_cases c2:(art g.a k).t∈w.cut
   . rw[decide_eq_true c2]at x4
     simp(disch:=apply zq;omega) only[go_sem,simprocAttr,↓Nat.reduceEqDiff,xx,L79b,m79,zah,zab,hl,x1,x2,x3,x4,bl,il]
   . rw[decide_eq_false c2]at x4
     have q:=q1 c1 c2
     have b1:(nth fl k != (art g.a k).c)=false:=by rw[q];simp
     simp(disch:=apply zq;omega) only[go_sem,simprocAttr,↓Nat.reduceEqDiff,xx,L79b,m79,zah,zab,hl,x1,x2,x3,x4,bl,il,b1]
 . rw[decide_eq_false c1]at x3
   by_cases c2:(art g.a k).t∈w.cut
   . rw[decide_eq_true c2]at x4
     have q:=q2 c1 c2
     have b1:(nth fl k != 0)=false:=by rw[q];simp
     simp(disch:=apply zq;omega) only[go_sem,simprocAttr,↓Nat.reduceEqDiff,xx,L79b,m79,zah,zab,hl,x1,x2,x3,x4,bl,il,b1]
   . rw[decide_eq_false c2]at x4
     simp(disch:=apply zq;omega) only[go_sem,simprocAttr,↓Nat.reduceEqDiff,xx,L79b,m79,zah,zab,hl,x1,x2,x3,x4,bl,il]
theorem qel (h:1<=n)(hf:FB g fl)(hs:s<g.n)(ht:to<g.n)(hsc:s∈w.cut)(htc:¬to∈w.cut)(hx:∀k,k<g.a.length->((art g.a k).f∈w.cut->¬(art g.a k).t∈w.cut->nth fl k=(art g.a k).c)/\(¬(art g.a k).f∈w.cut->(art g.a k).t∈w.cut->nth fl k=0)) :
  call gl tab n 79 [nV g b sh,i64 (s:Int),i64 (to:Int),fqV w fl] []=some (.bool true,[],[]):=by
 obtain⟨d,rfl⟩:=wB h
 have hs1:=fun i hi=>@qf2 gl d g b sh s to w fl hg hsh hc i hi
 have hs2:=fun i hi=>@qa9 gl d g b sh w fl hg hsh hc hf hx i hi
 simp only[L79,L79b,m79]at hs1 hs2
 have ha:=hg.a
 have hn:=hg.n
 have hcn:=hc.n
 have l1:g.n<=LIM:=by unfold LIM;omega
 have hz:List.replicate g.n (AV.bool false)=bs (inL w.cut g.n 0):=by
  unfold bs inL
  apply wG
  . simp
  . intro v h1 h2;simp
 have x3:=zkw (cut:=w.cut) (i:=w.cut.length) hs
 have x4:=zkw (cut:=w.cut) (i:=w.cut.length) ht
 rw[wF,decide_eq_true hsc]at x3
 rw[wF,decide_eq_false htc]at x4
 have il:=zmr w.cut g.n w.cut.length
 have bl:=zc0 (inL w.cut g.n w.cut.length)
 rw[zai (fd:=fd79) rfl]
 simp(disch:=apply zq;omega) only[go_sem,simprocAttr,↓Nat.reduceEqDiff,xx,fd79,m79,zah,zao,l1,hz]
 rw[zak (S79 g b sh s to w fl) w.cut.length (by unfold LF;omega)]
 . simp(disch:=apply zq;omega) only[go_sem,simprocAttr,↓Nat.reduceEqDiff,xx,S79,zao,bl,il,x3,x4,zah]
   rw[zak (S79b g b sh w fl) g.a.length (by unfold LF;omega)]
   . simp(disch:=apply zq;omega) only[go_sem,simprocAttr,↓Nat.reduceEqDiff,xx,S79b]
   . simp(disch:=apply zq;omega) only[go_sem,simprocAttr,↓Nat.reduceEqDiff,xx,S79b]
   . exact hs2
   . simp(disch:=apply zq;omega) only[go_sem,simprocAttr,↓Nat.reduceEqDiff,xx,S79b]
 . simp(disch:=apply zq;omega) only[go_sem,simprocAttr,↓Nat.reduceEqDiff,xx,S79,zao]
 . exact hs1
 . simp(disch:=apply zq;omega) only[go_sem,simprocAttr,↓Nat.reduceEqDiff,xx,S79,zao]
end
theorem z5p (h:5<=n){g:Nt}{b:Bool}{sh:Sh}{s to:Nat}{A sent:Int}{fl pr:List Int}{cut:List Nat}{w:Fq}(hg:GOk g)(hsh:g.a=[]\/sh=yA4)(hs:s<g.n)(ht:to<g.n)(hne:s≠to)(hr:SR g s to A fl pr sent cut)
  (hA:A<=1099511627776) (w1:w.s=sent) (w2:w.c=tot g.a fl g.a.length) (w3:w.pr=pr) (w4:w.cut=cut) :
  call gl tab n 60 [nV g b sh,i64 (s:Int),i64 (to:Int),i64 A,fqV w fl] []=some (i64 0,[],[]):=by
 obtain⟨d,rfl⟩:=wB h
 have hsi:=hr.si
 subst w1 w3
 have c77:=@z8b gl (d+4) g b sh s to w fl hg hsh hsi.fb (by omega) hsi.gv hne w2
 have c78:=@z1h gl (d+4) g b sh s to w fl hg hsh hsi.fb hsi.rn hsi.pb hs (by omega)
 have hsa:=hsi.sa
 rw[zai (fd:=fd60) rfl]
 rcases hr.c with ⟨h1,h2⟩|⟨h1,out,hd,hfar,h2⟩
 . have e1:(w.s==A)=true:=by rw[h1];simp
   have e2:w.cut.length=0:=by rw[w4,h2];rfl
   simp(disch:=apply zq;omega) only[go_sem,simprocAttr,↓Nat.reduceEqDiff,xx,fd60,m60,c77,c78,e1,zao,e2]
 . have e1:(w.s==A)=false:=by rw[beq_eq_false_iff_ne];omega
   have hm:∀v,v<g.n->(v∈w.cut↔nth out v<far):=fun v hv=>by
    rw[w4,h2,zff]
    exact⟨fun h=>h.2,fun h=>⟨hv,h⟩⟩
   have hB:(g.n:Int)*1048576+1048576<far:=by
    have hn:=hg.n
    have hnK:(g.n:Int)*1048576<=100*1048576:=wC (by omega) (by decide)
    unfold far;omega
   have hck:CK w.cut g.n:=by rw[w4,h2];exact zu8 out g.n
   have c79:=@qel gl (d+4) g b sh s to w fl hg hsh hck (by omega) hsi.fb hs ht ((hm s hs).2 (by rw[hd.sz];unfold far;decide)) (fun h=>by have:=(hm to ht).1 h;omega) (fun k hk=>by
    have:=qaj hg.ok (by decide) hB hs hsi.pb hsi.fb hd hk
    rw[hm _ (hg.ok.f k hk),hm _ (hg.ok.t k hk)]
    exact this)
   simp(disch:=apply zq;omega) only[go_sem,simprocAttr,↓Nat.reduceEqDiff,xx,fd60,m60,c77,c78,c79,e1]
end Go.Proofs.S50
namespace Go.Proofs.S50
open Go Go.Ev Go.Proofs Go.Fl
variable {gl :Gl} {n:Nat}
theorem qcb (h:1<=n){g:Nt}{b c:Bool}{sh:Sh}{cut:List Nat}:call gl tab n 64 [nV g b sh,.lst c .sc (us cut)] []=some (.fn 87 [.ptr 20000 [],.ptr 20001 []],[],[.fix sN2 (nV g b sh),.fix .sc (.lst c .sc (us cut))]):=by
 obtain⟨d,rfl⟩:=wB h
 rw[zbo (fd:=fd64) rfl]
 simp(disch:=apply zq;omega) only[go_sem,simprocAttr,↓Nat.reduceEqDiff,xx,fd64,m64]
theorem z58 (h:1<=n){k:Nat}{a:Int}{x:Ar}(ha:0<=a/\a<=4611686018427387904)(hc:0<=x.c/\x.c<=1073741824):call gl tab n 1000430 [i64 (k:Int),aV x] [(100000,.lp 430 [.ptr 100001 []] .ready),(100001,.fix .sc (i64 a))] =
  some (.bool true,[(100000,.lp 430 [.ptr 100001 []] .ready),(100001,.fix .sc (i64 (a+x.c)))],[]):=by
 obtain⟨d,rfl⟩:=wB h
 rw[zd4 (fd:=zw7) rfl rfl]
 simp(disch:=apply zq;omega) only[go_sem,simprocAttr,↓Nat.reduceEqDiff,xx,zw7,qc6,qc5]
def L87 :MC:=match m87 with| .seq _ (.seq (.seq _ (.block _ (.loop _ b))) _)=>b|_=>.skip
def L87b :MC:=match m87 with| .seq _ (.seq _ (.seq _ (.block _ (.loop _ b))))=>b|_=>.skip
abbrev K87 :List Kp:=[.slot 0,.slot 1,.slot 4,.slot 12,.slot 13,.slot 14,.key 11]
abbrev K87b :List Kp:=[.slot 0,.slot 4,.slot 23,.slot 24,.slot 25,.key 11]
def h87 (g:Nt)(b c:Bool)(sh:Sh)(cut:List Nat)(a:Int)(I:List Bool):Hp :=
 [(100003,.fix .sc (.lst c .sc (us cut))),(100002,.fix sN2 (nV g b sh)),(100001,.fix .sc (i64 a)),(100000,.lp 430 [.ptr 100001 []] .ready),(11,.grow .sc (bs I))]
def S87 (g:Nt)(b c:Bool)(sh:Sh)(cut:List Nat)(i:Nat):St :=
 ⟨[.set 14 (i64 (i:Int)),.set 13 (i64 (cut.length:Int)),.set 12 (.lst c .sc (us cut)),.set 4 (.sl 11 [] 0 g.n),.set 1 (.ptr 100002 []),.set 0 (.yld 100000)],h87 g b c sh cut 0 (inL cut g.n i)⟩
abbrev inP (cut:List Nat):Nat->Bool:=fun v=>decide (v∈cut)
def S87b (g:Nt)(b c:Bool)(sh:Sh)(cut:List Nat)(k:Nat):St :=
 ⟨[.set 25 (i64 (k:Int)),.set 24 (i64 (g.a.length:Int)),.set 23 (.lst b sh (rs g.a)),.set 4 (.sl 11 [] 0 g.n),.set 0 (.yld 100000)],h87 g b c sh cut (bnd (inP cut) g.a k) (inL cut g.n cut.length)⟩
section
variable {d :Nat} {g:Nt} {b c:Bool} {sh:Sh} {cut:List Nat} (hg:GOk g) (hsh:g.a=[]\/sh=yA4) (hc:CK cut g.n)
include hg hsh hc
theorem qjv :∀k,k<=g.a.length->0<=bnd (inP cut) g.a k/\bnd (inP cut) g.a k<=(k:Int)*1073741824
 | 0,_=>by simp[bnd]
 | k+1,hk=>by
   have ih:=qjv k (by omega)
   have h1:=hg.ok.c k (by omega)
   have h2:=hg.c k (by omega)
   rw[bnd];split<;>omega
theorem qf1 {i:Nat}(hi:i<cut.length):zaz K87 (evC gl (call gl tab d) L87 (S87 g b c sh cut i))=some (S87 g b c sh cut (i+1)):=by
 have hn:=hg.n
 have hcn:=hc.n
 obtain⟨k,hk⟩:∃k,cut[i]? =some k:=⟨_,wE hi⟩
 have hkl:=hc.l i k hk
 have x1:=zjs hk
 have il:=zmr cut g.n i
 have es:=zwt (N:=g.n) hk
 have bl:=zc0 (inL cut g.n i)
 have x5:=zkw (cut:=cut) (i:=i) hkl
 unfold S87 h87
 rw[es,ztj]
 generalize inL cut g.n i=I at *
 simp(disch:=apply zq;omega) only[go_sem,simprocAttr,↓Nat.reduceEqDiff,xx,L87,m87,zao,x1,x5,bl,il]
theorem qa8 {k:Nat}(hk:k<g.a.length):zaz K87b (evC gl (call gl tab (d+1)) L87b (S87b g b c sh cut k))=some (S87b g b c sh cut (k+1)):=by
 have hsh:sh=yA4:=hsh.resolve_left (fun e=>by rw[e]at hk;simp at hk)
 subst hsh
 have hn:=hg.n
 have ha:=hg.a
 have x1:=zix hk
 have h1:=hg.ok.f k hk
 have h2:=hg.ok.t k hk
 have x3:=zkw (cut:=cut) (i:=cut.length) h1
 have x4:=zkw (cut:=cut) (i:=cut.length) h2
 rw[wF]at x3 x4
 have il:=zmr cut g.n cut.length
 have bl:=zc0 (inL cut g.n cut.length)
 have hb:=qjv hg (.inr rfl:g.a=[]\/yA4=yA4) hc k (by omega)
 have c1:=@z58 gl (d+1) (by omega) k (bnd (inP cut) g.a k) (art g.a k) (by omega) ⟨hg.ok.c k hk,hg.c k hk⟩
 have e:bnd (inP cut) g.a (k+1)=bnd (inP cut) g.a k+if inP cut (art g.a k).f=true/\inP cut (art g.a k).t=false then(art g.a k).c else 0:=rfl
 unfold S87b h87
 rw[e]
 clear e
 generalize bnd (inP cut) g.a k=D at *
 generalize inL cut g.n cut.length=I at *
 by_cases q1:(art g.a k).f∈cut
 . rw[decide_eq_true q1]at x3
   by_cases q2:(art g.a k).t∈cut
   . rw[decide_eq_true q2]at x4
     rw[if_neg (by simp[inP,q2])]
     simp(disch:=apply zq;omega) only[go_sem,simprocAttr,↓Nat.reduceEqDiff,xx,L87b,m87,zah,x1,x3,x4,bl,il,wD]
   . rw[decide_eq_false q2]at x4
     rw[if_pos (by simp[inP,q1,q2])]
     simp(disch:=apply zq;omega) only[go_sem,simprocAttr,↓Nat.reduceEqDiff,xx,L87b,m87,zah,x1,x3,x4,bl,il,c1]
 . rw[decide_eq_false q1]at x3
   rw[if_neg (by simp[inP,q1])]
   simp(disch:=apply zq;omega) only[go_sem,simprocAttr,↓Nat.reduceEqDiff,xx,L87b,m87,zah,x1,x3,x4,bl,il,wD]
theorem qcs (h:2<=n):call gl tab n 87 [.yld 100000,.ptr 100002 [],.ptr 100003 []] [(100000,.lp 430 [.ptr 100001 []] .ready),(100001,.fix .sc (i64 0)),(100002,.fix sN2 (nV g b sh)),(100003,.fix .sc (.lst c .sc (us cut)))] =
  some (.tup [],[(100000,.lp 430 [.ptr 100001 []] .ready),(100001,.fix .sc (i64 (bnd (inP cut) g.a g.a.length))),(100002,.fix sN2 (nV g b sh)),(100003,.fix .sc (.lst c .sc (us cut)))],[]):=by
 obtain⟨d,rfl⟩:=wB h
 have hs1:=fun i hi=>@qf1 gl (d+1) g b c sh cut hg hsh hc i hi
 have hs2:=fun i hi=>@qa8 gl d g b c sh cut hg hsh hc i hi
 simp only[L87,L87b,m87]at hs1 hs2
 have ha:=hg.a
 have hn:=hg.n
 have hcn:=hc.n
 have l1:g.n<=LIM:=by unfold LIM;omega
 have hz:List.replicate g.n (AV.bool false)=bs (inL cut g.n 0):=by
  unfold bs inL
  apply wG
  . simp
  . intro v h1 h2;simp
 rw[zbo (fd:=fd87) rfl]
 simp(disch:=apply zq;omega) only[go_sem,simprocAttr,↓Nat.reduceEqDiff,xx,fd87,m87,zah,zao,l1,hz]
 rw[zak (S87 g b c sh cut) cut.length (by unfold LF;omega)]
 . simp(disch:=apply zq;omega) only[go_sem,simprocAttr,↓Nat.reduceEqDiff,xx,S87,h87,zao,zah]
   rw[zak (S87b g b c sh cut) g.a.length (by unfold LF;omega)]
   . simp(disch:=apply zq;omega) only[go_sem,simprocAttr,↓Nat.reduceEqDiff,xx,S87b,h87]
   . simp(disch:=apply zq;omega) only[go_sem,simprocAttr,↓Nat.reduceEqDiff,xx,S87b,h87,bnd]
   . exact hs2
   . simp(disch:=apply zq;omega) only[go_sem,simprocAttr,↓Nat.reduceEqDiff,xx,S87b,h87]
 . simp(disch:=apply zq;omega) only[go_sem,simprocAttr,↓Nat.reduceEqDiff,xx,S87,h87,zao]
 . exact hs1
 . simp(disch:=apply zq;omega) only[go_sem,simprocAttr,↓Nat.reduceEqDiff,xx,S87,h87,zao]
theorem z87 (h:3<=n):call gl tab n 43 [nV g b sh,.lst c .sc (us cut)] []=some (i64 (bnd (inP cut) g.a g.a.length),[],[]):=by
 obtain⟨d,rfl⟩:=wB h
 have c1:=@qcb gl (d+2) (by omega) g b c sh cut
 have c2:=@qcs gl (d+2) g b c sh cut hg hsh hc (by omega)
 rw[zai (fd:=fd43) rfl]
 simp(disch:=apply zq;omega) only[go_sem,simprocAttr,↓Nat.reduceEqDiff,xx,fd43,m43,c1,c2]
end
end Go.Proofs.S50
