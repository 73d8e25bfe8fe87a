/-
  Chapter 44: rules. No condition.
-/
import Derived.Test.YtcddalfeicoedaaGreatDoorW44G9x4
set_option linter.all false
open List renaming length_append->wA,take_succ_eq_append_getElem->wB,take_of_length_le->wC,flatten_append->wD,append_assoc->wE,map_append->wF,append_nil->wG
open Nat renaming exists_eq_add_of_le'->wH,le_refl->wI
namespace Go.Proofs.S44.L
open Go Go.Ev Go.Proofs Go.Proofs.S44
open Go.Proofs.S44.H (strsAV zaa zaj Sml GlK GlR zal zbk nsI zak zint zat encB zaw zae)
variable {gl :Gl} {n:Nat}
structure Vy where
 h:List UInt8
 v:List (List UInt8)
 d:List UInt8
abbrev sVy :Sh:=.st [.sc,.sc,.sc]
abbrev vyAV (x:Vy):AV:=.agg [.str x.h,.lst false .sc (strsAV x.v),.str x.d]
def vys (l:List Vy):List AV:=l.map vyAV
theorem zcr (l:List Vy):(vys l).length=l.length:=by simp[vys]
def vat (l:List Vy)(i:Nat):Vy:=l.getD i ⟨[],[],[]⟩
theorem ztp {l:List Vy}{i:Nat}(h:i<l.length):(vys l)[i]? =some (vyAV (vat l i)):=by simp[vys,vat,h]
theorem zkv {l:List Vy}{i:Nat}(h:i<l.length):vat l i∈l:=by
 rw[show vat l i=l[i] by simp[vat,h]];exact List.getElem_mem h
def vyP (x:Vy):List (List UInt8):=[x.h,x.d,zbb x.v]
def vsP (l:List Vy)(i:Nat):List (List UInt8):=((l.take i).map vyP).flatten
theorem z73 (l:List Vy):vsP l 0=[]:=by simp[vsP]
theorem z71 {l:List Vy}{i:Nat}(h:i<l.length):vsP l (i+1)=vsP l i++vyP (vat l i):=by
 rw[vsP,wB h,wF,wD,show vat l i=l[i] by simp[vat,h]];simp[vsP]
theorem zi1 {l:List Vy}:∀{i:Nat},i<=l.length->(vsP l i).length=3*i
 | 0,_=>by rw[z73];rfl
 | i+1,h=>by
   rw[z71 (by omega),wA,zi1 (by omega)]
   show 3*i+3=3*(i+1);omega
structure Rl where
 nm:List UInt8
 pat:List UInt8
 tg:List (List UInt8)
 fr:Int
 sl:Int
 dn:Int
 ng:Int
 vy:List Vy
 al:Cd
 sg:Bool
 co:Int
 pr:List UInt8
abbrev sRl :Sh:=.st [.sc,.sc,.sc,.sc,.sc,.sc,.sc,.sc,sCd,.sc,.sc,.sc]
abbrev rlAV (x:Rl):AV:=.agg [.str x.nm,.str x.pat,.lst false .sc (strsAV x.tg),i64 x.fr,i64 x.sl,i64 x.dn,i64 x.ng,.lst false sVy (vys x.vy),cdAV x.al,.bool x.sg,i64 x.co,.str x.pr]
def fl (b:Bool):Int:=if b then 1 else 0
structure RlOk (x:Rl):Prop where
 i:zbk [x.fr,x.sl,x.dn,x.ng,fl x.sg,x.co]
 t:x.tg.length<=20
 v:x.vy.length<=8
 vv:∀y∈x.vy,Sml y.v
 a:CdOk x.al
def rlP (x:Rl):List (List UInt8):=[x.nm,x.pat,x.pr]++[zal [x.fr,x.sl,x.dn,x.ng,fl x.sg,x.co]]++x.tg++vsP x.vy x.vy.length++cdP x.al
theorem z1b (h:1<=n)(b:Bool):call gl tab n 124 [.bool b] []=some (i64 (fl b),[],[]):=by
 obtain⟨d,rfl⟩:=wH h
 rw[zaf (fd:=z1g) rfl]
 cases b
 . simp(disch:=apply zq;omega) only[go_sem,simprocAttr,↓Nat.reduceEqDiff,xx,z1g,m124];rfl
 . simp(disch:=apply zq;omega) only[go_sem,simprocAttr,↓Nat.reduceEqDiff,xx,z1g,m124];rfl
def L75 :MC:=match m75 with| .seq _ (.seq _ (.seq _ (.seq _ (.seq (.seq _ (.block _ (.loop _ b))) _))))=>b|_=>.skip
def S75 (f:Bool)(x:Rl)(l:List Vy)(q:List (List UInt8))(i:Nat):St:=⟨[.set 38 (i64 i),.set 37 (i64 l.length),.set 36 (.lst f sVy (vys l)),.set 3 (.ptr 3 []),.set 0 (.ptr 100000 [])],[(100001,.dead),(100000,bx 8000 q),(8000,gw q),(3,.fix sRl (rlAV x))]⟩
theorem qc1 {d:Nat}(hd:7<=d)(f:Bool)(x:Rl){l:List Vy}(hl:l.length<=100)(hc:∀y∈l,Sml y.v){q:List (List UInt8)}(hq0:q.length≠0)(hq:q.length<=900)(i:Nat)(hi:i<l.length) :
  zbm [.slot 0,.slot 3,.slot 36,.slot 37,.slot 38,.key 3,.mv 100000 [0] 8000] (evC gl (call gl tab d) L75 (S75 f x l q i))=some (S75 f x l (q++vyP (vat l i)) (i+1)):=by
 have hx:=ztp hi
 have c0:=@zfc gl d (by omega) false _ (hc _ (zkv hi))
 have c:=@zh7 gl d (by omega) q (vyP (vat l i)) hq0 (by omega) (by simp[vyP]) 3 rfl
 have hcl:=zcr l
 have t:List.take (zbb (vat l i).v).length (zac (zbb (vat l i).v))=zac (zbb (vat l i).v):=wC (by rw[zab];exact wI _)
 have e4:strsAV (vyP (vat l i))=[.str (vat l i).h,.str (vat l i).d,.str (zbb (vat l i).v)]:=rfl
 have l1:=zaa q
 have s1:=zan q
 have l2:=zaa (q++vyP (vat l i))
 have s2:=zan (q++vyP (vat l i))
 rw[S75,S75]
 unfold bx gw at *
 rw[e4]at c
 generalize q++vyP (vat l i)=q' at *
 generalize zbb (vat l i).v=z at *
 generalize vat l i=y at *
 clear e4
 simp(disch:=apply zq;omega) only[go_sem,simprocAttr,↓Nat.reduceEqDiff,xx,L75,m75,hx,hcl,c0,c,H.noImms_bytesAV,zab,t,l1,l2,s1,s2]
theorem z8y (h:8<=n){xs:List (List UInt8)}{x:Rl}(hx:RlOk x)(h0:xs.length≠0)(hl:xs.length<=500) :
  call gl tab n 75 [.ptr 100000 [],rlAV x] [(100000,bx 100001 xs),(100001,gw xs)]=some (.tup [],[(100000,bx 20000 (xs++rlP x)),(100001,.dead)],[gw (xs++rlP x)]):=by
 obtain⟨d,rfl⟩:=wH h
 have e:xs++rlP x=xs++[x.nm,x.pat,x.pr]++[zal [x.fr,x.sl,x.dn,x.ng,fl x.sg,x.co]]++x.tg++vsP x.vy x.vy.length++cdP x.al:=by simp[rlP]
 rw[e]
 have tg:=hx.t
 have vy:=hx.v
 have c0:=@z1b gl (d+7) (by omega) x.sg
 have c1:=@zh7 gl (d+7) (by omega) xs [x.nm,x.pat,x.pr] h0 (by omega) (by simp) 3 rfl
 have c2:=@zl4 gl (d+7) (by omega) (xs++[x.nm,x.pat,x.pr]) _ (by simp) (by simp;omega) hx.i 6 rfl
 have c3:=@zx5 gl (d+7) (by omega) false (xs++[x.nm,x.pat,x.pr]++[zal [x.fr,x.sl,x.dn,x.ng,fl x.sg,x.co]]) x.tg (by simp) (by simp;omega) (by omega)
 have hv:=zi1 (l:=x.vy) (wI _)
 have c5:=@ztb gl (d+7) (by omega) false (xs++[x.nm,x.pat,x.pr]++[zal [x.fr,x.sl,x.dn,x.ng,fl x.sg,x.co]]++x.tg++vsP x.vy x.vy.length) x.al hx.a (by simp) (by simp;omega)
 have hle:(xs++[x.nm,x.pat,x.pr]++[zal [x.fr,x.sl,x.dn,x.ng,fl x.sg,x.co]]++x.tg).length<=600:=by simp;omega
 have hl0:(xs++[x.nm,x.pat,x.pr]++[zal [x.fr,x.sl,x.dn,x.ng,fl x.sg,x.co]]++x.tg).length≠0:=by simp
 have lx:=zaa xs
 have sx:=zan xs
 have e4:strsAV [x.nm,x.pat,x.pr]=[.str x.nm,.str x.pat,.str x.pr]:=rfl
 have e5:nsI [x.fr,x.sl,x.dn,x.ng,fl x.sg,x.co]=[i64 x.fr,i64 x.sl,i64 x.dn,i64 x.ng,i64 (fl x.sg),i64 x.co]:=rfl
 rw[za3 (fd:=fd75) rfl]
 unfold bx gw gi at *
 rw[e4]at c1
 rw[e5]at c2
 generalize zal [x.fr,x.sl,x.dn,x.ng,fl x.sg,x.co]=z1 at *
 generalize xs++[x.nm,x.pat,x.pr]=q1 at *
 generalize q1++[z1]=q2 at *
 generalize q2++x.tg=q3 at *
 have l1:=zaa q1
 have s1:=zan q1
 have l2:=zaa q2
 have s2:=zan q2
 have l3:=zaa q3
 have s3:=zan q3
 have hcl:=zcr x.vy
 have htl:=zaa x.tg
 obtain⟨Q,hQ⟩:∃Q:Nat->List (List UInt8),∀i,Q i=q3++vsP x.vy i:=⟨_,fun _=>rfl⟩
 have st:∀i,i<x.vy.length->zbm [.slot 0,.slot 3,.slot 36,.slot 37,.slot 38,.key 3,.mv 100000 [0] 8000] (evC gl (call gl tab (d+7)) L75 (S75 false x x.vy (Q i) i))=some (S75 false x x.vy (Q (i+1)) (i+1)):=fun i hi=>by
  have hc:=zi1 (l:=x.vy) (i:=i) (by omega)
  rw[hQ (i+1),z71 hi,<-wE,<-hQ i]
  exact qc1 (by omega) false _ (by omega) hx.vv (by rw[hQ,wA];omega) (by rw[hQ,wA];omega) i hi
 simp only[L75,m75]at st
 have Q0:Q 0=q3:=by rw[hQ,z73,wG]
 rw[<-hQ]at c5 ⊢
 have l4:=zaa (Q x.vy.length)
 have s4:=zan (Q x.vy.length)
 generalize hq4:Q x.vy.length++cdP x.al=q4 at *
 have l5:=zaa q4
 have s5:=zan q4
 clear hQ hq4
 simp(maxSteps:=1000000) (disch:=apply zq;omega) only[go_sem,simprocAttr,↓Nat.reduceEqDiff,xx,fd75,m75,c0,c1,c2,c3,hcl,htl,lx,l1,l2,l3,sx,s1,s2,s3]
 rw[zam (fun i=>S75 false x x.vy (Q i) i) x.vy.length (by unfold LF;omega)]
 . rw[S75];simp(disch:=apply zq;omega) only[go_sem,simprocAttr,↓Nat.reduceEqDiff,xx,hcl,l4,s4,c5,l5,s5]
 . rw[S75,Q0];simp(disch:=apply zq;omega) only[go_sem,simprocAttr,↓Nat.reduceEqDiff,xx,lx,l1,l2,l3,hcl]
 . exact st
 . rw[S75];simp(disch:=apply zq;omega) only[go_sem,simprocAttr,↓Nat.reduceEqDiff,xx,hcl,l4,s4]
abbrev z88 (x:Rl):AV:=.agg [.str x.nm,.str x.pat,.lst true .sc [],i64 x.fr,i64 x.sl,i64 x.dn,i64 x.ng,.lst true .sc [],qbr true x.al,.bool x.sg,i64 x.co,.str x.pr]
theorem z3c (h:8<=n){xs:List (List UInt8)}{x:Rl}(hx:RlOk x)(hg:x.tg=[])(hv0:x.vy=[])(h0:xs.length≠0)(hl:xs.length<=500) :
  call gl tab n 75 [.ptr 100000 [],z88 x] [(100000,bx 100001 xs),(100001,gw xs)]=some (.tup [],[(100000,bx 20000 (xs++rlP x)),(100001,.dead)],[gw (xs++rlP x)]):=by
 obtain⟨d,rfl⟩:=wH h
 have e:xs++rlP x=xs++[x.nm,x.pat,x.pr]++[zal [x.fr,x.sl,x.dn,x.ng,fl x.sg,x.co]]++[]++cdP x.al:=by simp[rlP,hg,hv0,vsP]
 rw[e]
 have c0:=@z1b gl (d+7) (by omega) x.sg
 have c1:=@zh7 gl (d+7) (by omega) xs [x.nm,x.pat,x.pr] h0 (by omega) (by simp) 3 rfl
 have c2:=@zl4 gl (d+7) (by omega) (xs++[x.nm,x.pat,x.pr]) _ (by simp) (by simp;omega) hx.i 6 rfl
 have c3:=@zx5 gl (d+7) (by omega) true (xs++[x.nm,x.pat,x.pr]++[zal [x.fr,x.sl,x.dn,x.ng,fl x.sg,x.co]]) [] (by simp) (by simp;omega) (by simp)
 have c5:=@ztb gl (d+7) (by omega) true (xs++[x.nm,x.pat,x.pr]++[zal [x.fr,x.sl,x.dn,x.ng,fl x.sg,x.co]]++[]) x.al hx.a (by simp) (by simp;omega)
 have lx:=zaa xs
 have sx:=zan xs
 have e4:strsAV [x.nm,x.pat,x.pr]=[.str x.nm,.str x.pat,.str x.pr]:=rfl
 have e5:nsI [x.fr,x.sl,x.dn,x.ng,fl x.sg,x.co]=[i64 x.fr,i64 x.sl,i64 x.dn,i64 x.ng,i64 (fl x.sg),i64 x.co]:=rfl
 have e6:strsAV []=[]:=rfl
 rw[za3 (fd:=fd75) rfl]
 unfold bx gw gi at *
 rw[e4]at c1
 rw[e5]at c2
 rw[e6]at c3
 generalize zal [x.fr,x.sl,x.dn,x.ng,fl x.sg,x.co]=z1 at *
 generalize xs++[x.nm,x.pat,x.pr]=q1 at *
 generalize q1++[z1]=q2 at *
 generalize q2++[]=q3 at *
 generalize q3++cdP x.al=q4 at *
 have l1:=zaa q1
 have s1:=zan q1
 have l2:=zaa q2
 have s2:=zan q2
 have l3:=zaa q3
 have s3:=zan q3
 have l5:=zaa q4
 have s5:=zan q4
 simp(maxSteps:=1000000) (disch:=apply zq;omega) only[go_sem,simprocAttr,↓Nat.reduceEqDiff,xx,fd75,m75,c0,c1,c2,c3,lx,l1,l2,l3,sx,s1,s2,s3]
 rw[zam (fun i=>(⟨[.set 38 (i64 i),.set 37 (i64 0),.set 36 (.lst true .sc []),.set 3 (.ptr 3 []),.set 0 (.ptr 100000 [])],[(100001,.dead),(100000,bx 8000 q3),(8000,gw q3),(3,.fix sRl (z88 x))]⟩:St)) 0 (by unfold LF;omega)]
 . simp(disch:=apply zq;omega) only[go_sem,simprocAttr,↓Nat.reduceEqDiff,xx,l3,s3,c5,l5,s5]
 . simp(disch:=apply zq;omega) only[go_sem,simprocAttr,↓Nat.reduceEqDiff,xx,lx,l1,l2,l3]
 . intro i hi;omega
 . simp(disch:=apply zq;omega) only[go_sem,simprocAttr,↓Nat.reduceEqDiff,xx,l3,s3]
end Go.Proofs.S44.L
namespace Go.Proofs.S44.L
open Go Go.Ev Go.Proofs Go.Proofs.S44
open Go.Proofs.S44.H (strsAV zaa zaj Sml GlK GlR zal zbk nsI zak zint zat encB zaw zae)
variable {gl :Gl} {n:Nat}
structure Hr where
 n:List UInt8
 v:List UInt8
abbrev sHr :Sh:=.st [.sc,.sc]
abbrev hrAV (x:Hr):AV:=.agg [.str x.n,.str x.v]
def hrs (l:List Hr):List AV:=l.map hrAV
theorem zc8 (l:List Hr):(hrs l).length=l.length:=by simp[hrs]
def hat (l:List Hr)(i:Nat):Hr:=l.getD i ⟨[],[]⟩
theorem zut {l:List Hr}{i:Nat}(h:i<l.length):(hrs l)[i]? =some (hrAV (hat l i)):=by simp[hrs,hat,h]
def hrP (x:Hr):List (List UInt8):=[x.n,x.v]
def hsP (l:List Hr)(i:Nat):List (List UInt8):=((l.take i).map hrP).flatten
theorem qao (l:List Hr):hsP l 0=[]:=by simp[hsP]
theorem qam {l:List Hr}{i:Nat}(h:i<l.length):hsP l (i+1)=hsP l i++hrP (hat l i):=by
 rw[hsP,wB h,wF,wD,show hat l i=l[i] by simp[hat,h]];simp[hsP]
theorem zh1 {l:List Hr}:∀{i:Nat},i<=l.length->(hsP l i).length=2*i
 | 0,_=>by rw[qao];rfl
 | i+1,h=>by
   rw[qam (by omega),wA,zh1 (by omega)]
   show 2*i+2=2*(i+1);omega
structure Re where
 site:Int
 seq:Int
 ad:List UInt8
 cl:List UInt8
 co:List UInt8
 sx:Int
 lo:Int
 hi:Int
 hs:List Hr
 tk:Tk
 pol:List UInt8
 rl:Rl
 us:Int
 sp:Sp
 mo:Int
 fr:Int
 to:Int
 dat:List UInt8
 le:Le
 he:Int
 ca:Int
abbrev sTk :Sh:=.st [.sc,.sc,.sc,.sc,.ar 16 .sc]
abbrev sSp :Sh:=.st [.sc,.sc,.sc,.sc,.ar 16 .sc,.sc,.st [.sc,.sc],.sc,.sc,.ar 16 .sc]
abbrev sRe :Sh:=.st [.sc,.sc,.st [.sc,.sc,.sc,.sc,.st [.sc,.sc]],.sc,sTk,.ar 16 .sc,sRl,.sc,sSp,.sc,.st [.sc,.sc],.ar 16 .sc,sTk,.sc,.sc]
abbrev reAV (x:Re):AV:=.agg [i64 x.site,i64 x.seq,.agg [.str x.ad,.str x.cl,.str x.co,i64 x.sx,.agg [i64 x.lo,i64 x.hi]],.lst false sHr (hrs x.hs),tkAV x.tk,bAV x.pol,rlAV x.rl,i64 x.us,spAV x.sp,i64 x.mo,.agg [i64 x.fr,i64 x.to],bAV x.dat,leAV x.le,i64 x.he,i64 x.ca]
abbrev nmS (x:Re):List Int:=[x.site,x.seq,x.mo,x.fr,x.to,x.he,x.ca,x.us,x.hs.length,x.tk.cs.length,x.rl.tg.length,x.rl.vy.length]
structure ReOk (x:Re):Prop where
 i:zbk (nmS x)
 a:zbk [x.sx,x.lo,x.hi]
 h:x.hs.length<=10
 t:TkOk x.tk
 p:x.pol.length=16
 r:RlOk x.rl
 s:SpOk x.sp
 d:x.dat.length=16
 l:LeOk x.le
def p1 (x:Re):List (List UInt8):=[zal (nmS x)]++[x.dat,x.pol,x.ad,x.cl,x.co]++[zal [x.sx,x.lo,x.hi]]
def reP (x:Re):List (List UInt8):=p1 x++hsP x.hs x.hs.length++tkP x.tk++rlP x.rl++spP x.sp++[x.sp.sgn]++leP x.le++[x.le.sgn]
def L24 :MC:=match m24 with| .seq _ (.seq _ (.seq _ (.seq _ (.seq _ (.seq _ (.seq (.seq _ (.block _ (.loop _ b))) _))))))=>b|_=>.skip
def S24 (f:Bool)(x:Re)(l:List Hr)(q:List (List UInt8))(i:Nat):St:=⟨[.set 85 (i64 i),.set 84 (i64 l.length),.set 83 (.lst f sHr (hrs l)),.set 4 (.fn 2000072 [.ptr 9 []]),.set 3 (.ptr 9 []),.set 1 (.ptr 1 [])],[(6090,gw q),(9,bx 6090 q),(1,.fix sRe (reAV x))]⟩
theorem qda {d:Nat}(hd:7<=d)(f:Bool)(x:Re){l:List Hr}(hl:l.length<=100){q:List (List UInt8)}(hq0:q.length≠0)(hq:q.length<=900)(i:Nat)(hi:i<l.length) :
  zbm [.slot 1,.slot 3,.slot 4,.slot 83,.slot 84,.slot 85,.key 1,.key 9,.mv 9 [0] 6090] (evC gl (call gl tab d) L24 (S24 f x l q i))=some (S24 f x l (q++hrP (hat l i)) (i+1)):=by
 have hx:=zut hi
 have c:=@zh7 gl d (by omega) q (hrP (hat l i)) hq0 (by omega) (by simp[hrP]) 2 rfl
 have hcl:=zc8 l
 have e4:strsAV (hrP (hat l i))=[.str (hat l i).n,.str (hat l i).v]:=rfl
 have l1:=zaa q
 have s1:=zan q
 have l2:=zaa (q++hrP (hat l i))
 have s2:=zan (q++hrP (hat l i))
 rw[S24,S24]
 unfold bx gw at *
 rw[e4]at c
 generalize q++hrP (hat l i)=q' at *
 generalize hat l i=y at *
 clear e4
 simp(disch:=apply zq;omega) only[go_sem,simprocAttr,↓Nat.reduceEqDiff,xx,L24,m24,hx,hcl,c,l1,l2,s1,s2]
end Go.Proofs.S44.L
namespace Go.Proofs.S44.L
open Go Go.Ev Go.Proofs Go.Proofs.S44
open Go.Proofs.S44.H (strsAV zaa zaj Sml GlK GlR zal zbk nsI zak zint zat encB zaw zae)
variable {gl :Gl} {n:Nat}
theorem zk1 (x:Sp):(spP x).length=5:=rfl
theorem zlx (x:Le):(leP x).length=1:=rfl
theorem zrz (x:Tk):(tkP x).length=3+5*x.cs.length:=by
 rw[tkP,wA,zmh (wI _)];rfl
theorem zsc (x:Rl):(rlP x).length=9+x.tg.length+3*x.vy.length:=by
 unfold rlP
 rw[wA,wA,wA,wA,zi1 (wI _)]
 show 3+1+x.tg.length+3*x.vy.length+5=_
 omega
theorem zzk (x:Re):(p1 x).length=7:=rfl
theorem zoz (h:9<=n){x:Re}(hx:ReOk x):call gl tab n 24 [reAV x] []=some (.lst false .sc (strsAV (reP x)),[],[]):=by
 obtain⟨d,rfl⟩:=wH h
 have hh:=hx.h
 have tl:=zrz x.tk
 have rl:=zsc x.rl
 have tc:=hx.t.cl
 have rt:=hx.r.t
 have rv:=hx.r.v
 have hl:=zh1 (l:=x.hs) (wI _)
 have c1:=@z7f gl (d+8) (by omega) _ hx.i 12 rfl
 have c2:=@zh7 gl (d+8) (by omega) [zal (nmS x)] [x.dat,x.pol,x.ad,x.cl,x.co] (by simp) (by simp) (by simp) 5 rfl
 have c3:=@zl4 gl (d+8) (by omega) ([zal (nmS x)]++[x.dat,x.pol,x.ad,x.cl,x.co]) _ (by simp) (by simp) hx.a 3 rfl
 have e1:[zal (nmS x)]++[x.dat,x.pol,x.ad,x.cl,x.co]++[zal [x.sx,x.lo,x.hi]]=p1 x:=rfl
 rw[e1]at c3
 have pl:=zzk x
 have a1:(p1 x++hsP x.hs x.hs.length).length=7+2*x.hs.length:=by rw[wA];omega
 have a2:(p1 x++hsP x.hs x.hs.length++tkP x.tk).length<=100:=by rw[wA];omega
 have a3:(p1 x++hsP x.hs x.hs.length++tkP x.tk++rlP x.rl).length<=200:=by rw[wA];omega
 have a4:(p1 x++hsP x.hs x.hs.length++tkP x.tk++rlP x.rl++spP x.sp).length<=210:=by rw[wA,zk1];omega
 have a5:(p1 x++hsP x.hs x.hs.length++tkP x.tk++rlP x.rl++spP x.sp++[x.sp.sgn]).length<=220:=by rw[wA,List.length_singleton];omega
 have a6:(p1 x++hsP x.hs x.hs.length++tkP x.tk++rlP x.rl++spP x.sp++[x.sp.sgn]++leP x.le).length<=230:=by rw[wA,zlx];omega
 have z0:(p1 x++hsP x.hs x.hs.length).length≠0:=by rw[a1];omega
 have z2:(p1 x++hsP x.hs x.hs.length++tkP x.tk).length≠0:=by rw[wA,a1];omega
 have z3:(p1 x++hsP x.hs x.hs.length++tkP x.tk++rlP x.rl).length≠0:=by rw[wA];omega
 have z4:(p1 x++hsP x.hs x.hs.length++tkP x.tk++rlP x.rl++spP x.sp).length≠0:=by rw[wA];omega
 have z5:(p1 x++hsP x.hs x.hs.length++tkP x.tk++rlP x.rl++spP x.sp++[x.sp.sgn]).length≠0:=by rw[wA];omega
 have z6:(p1 x++hsP x.hs x.hs.length++tkP x.tk++rlP x.rl++spP x.sp++[x.sp.sgn]++leP x.le).length≠0:=by rw[wA];omega
 have c4:=@z2z gl (d+8) (by omega) _ _ hx.t z0 (by omega)
 have c5:=@z8y gl (d+8) (by omega) _ _ hx.r z2 (by omega)
 have k1:=@z62 gl (d+8) (by omega) x.sp hx.s
 have c6:=@zx5 gl (d+8) (by omega) false _ (spP x.sp) z3 (by omega) (by rw[zk1];omega)
 have c7:=@zh7 gl (d+8) (by omega) _ [x.sp.sgn] z4 (by omega) (by simp) 1 rfl
 have k2:=@z7a gl (d+8) (by omega) x.le hx.l
 have c8:=@zx5 gl (d+8) (by omega) false _ (leP x.le) z5 (by omega) (by rw[zlx];omega)
 have c9:=@zh7 gl (d+8) (by omega) _ [x.le.sgn] z6 (by omega) (by simp) 1 rfl
 have er:reP x=p1 x++hsP x.hs x.hs.length++tkP x.tk++rlP x.rl++spP x.sp++[x.sp.sgn]++leP x.le++[x.le.sgn]:=rfl
 rw[er]
 rw[zaf (fd:=fd24) rfl]
 have u1:=b16 hx.d
 have u2:=b16 hx.p
 have u3:=b16 hx.t.s
 have u4:=b16 hx.s.r
 have u5:=b16 hx.s.s
 have u6:=b16 hx.l.s
 have t1:=b16t hx.d
 have t2:=b16t hx.p
 have t5:=b16t hx.s.s
 have t6:=b16t hx.l.s
 have w1:=H.bytes_all x.dat
 have w2:=H.bytes_all x.pol
 have w3:=H.bytes_all x.tk.sgn
 have w4:=H.bytes_all x.sp.body
 have w5:=H.bytes_all x.sp.sgn
 have w6:=H.bytes_all x.le.sgn
 have e4:strsAV [x.dat,x.pol,x.ad,x.cl,x.co]=[.str x.dat,.str x.pol,.str x.ad,.str x.cl,.str x.co]:=rfl
 have e5:nsI (nmS x)=[i64 x.site,i64 x.seq,i64 x.mo,i64 x.fr,i64 x.to,i64 x.he,i64 x.ca,i64 x.us,i64 x.hs.length,i64 x.tk.cs.length,i64 x.rl.tg.length,i64 x.rl.vy.length]:=rfl
 have e6:nsI [x.sx,x.lo,x.hi]=[i64 x.sx,i64 x.lo,i64 x.hi]:=rfl
 have e7:strsAV [x.sp.sgn]=[.str x.sp.sgn]:=rfl
 have e8:strsAV [x.le.sgn]=[.str x.le.sgn]:=rfl
 have g1:=zc8 x.hs
 have g2:=zct x.tk.cs
 have g3:=zaa x.rl.tg
 have g4:=zcr x.rl.vy
 obtain⟨Q,hQ⟩:∃Q:Nat->List (List UInt8),∀i,Q i=p1 x++hsP x.hs i:=⟨_,fun _=>rfl⟩
 have st:∀i,i<x.hs.length->zbm [.slot 1,.slot 3,.slot 4,.slot 83,.slot 84,.slot 85,.key 1,.key 9,.mv 9 [0] 6090] (evC gl (call gl tab (d+8)) L24 (S24 false x x.hs (Q i) i))=some (S24 false x x.hs (Q (i+1)) (i+1)):=fun i hi=>by
  have hc:=zh1 (l:=x.hs) (i:=i) (by omega)
  rw[hQ (i+1),qam hi,<-wE,<-hQ i]
  exact qda (by omega) false _ (by omega) (by rw[hQ,wA];omega) (by rw[hQ,wA];omega) i hi
 simp only[L24,m24]at st
 have Q0:Q 0=p1 x:=by rw[hQ,qao,wG]
 rw[<-hQ]at c4 c5 c6 c7 c8 c9 ⊢
 unfold bx gw gi at *
 rw[e4]at c2
 rw[e5]at c1
 rw[e6]at c3
 rw[e7]at c7
 rw[e8]at c9
 clear hQ e4 e5 e6 e7 e8 er e1 a1 a2 a3 a4 a5 a6 z0 z2 z3 z4 z5 z6 tl rl hl pl hx
 generalize [zal (nmS x)]=q1 at *
 generalize q1++[x.dat,x.pol,x.ad,x.cl,x.co]=q2 at *
 generalize p1 x=q3 at *
 generalize hq4:Q x.hs.length=q4 at *
 generalize q4++tkP x.tk=q5 at *
 generalize q5++rlP x.rl=q6 at *
 generalize q6++spP x.sp=q7 at *
 generalize q7++[x.sp.sgn]=q8 at *
 generalize q8++leP x.le=q9 at *
 generalize q9++[x.le.sgn]=qa at *
 have l1:=zaa q1
 have l2:=zaa q2
 have l3:=zaa q3
 have l4:=zaa q4
 have l5:=zaa q5
 have l6:=zaa q6
 have l7:=zaa q7
 have l8:=zaa q8
 have l9:=zaa q9
 have la:=zaa qa
 have s1:=zan q1
 have s2:=zan q2
 have s3:=zan q3
 have s4:=zan q4
 have s5:=zan q5
 have s6:=zan q6
 have s7:=zan q7
 have s8:=zan q8
 have s9:=zan q9
 have sa:=zan qa
 have ta:List.take qa.length (strsAV qa)=strsAV qa:=wC (by omega)
 simp(maxSteps:=1000000) (disch:=apply zq;omega) only[go_sem,simprocAttr,↓Nat.reduceEqDiff,xx,fd24,m24,u1,u2,u3,u4,u5,u6,t1,t2,t5,t6,w1,w2,w3,w4,w5,w6,g1,g2,g3,g4,c1,c2,c3,l1,l2,l3,s1,s2,s3]
 rw[zam (fun i=>S24 false x x.hs (Q i) i) x.hs.length (by unfold LF;omega)]
 . rw[S24,hq4]
   simp(maxSteps:=1000000) (disch:=apply zq;omega) only[go_sem,simprocAttr,↓Nat.reduceEqDiff,xx,u1,u2,u3,u4,u5,u6,t1,t2,t5,t6,w1,w2,w3,w4,w5,w6,g1,g2,g3,g4,c4,c5,k1,c6,c7,k2,c8,c9,l4,l5,l6,l7,l8,l9,la,s4,s5,s6,s7,s8,s9,sa,ta]
 . rw[S24,Q0];simp(disch:=apply zq;omega) only[go_sem,simprocAttr,↓Nat.reduceEqDiff,xx,l1,l2,l3,g1]
 . exact st
 . rw[S24,hq4];simp(disch:=apply zq;omega) only[go_sem,simprocAttr,↓Nat.reduceEqDiff,xx,g1,l4,s4]
end Go.Proofs.S44.L
