/-
  Chapter 44: the parts of a reply. No condition.
-/
import Derived.Test.YtcddalfeicoedaaGreatDoorW44G8x3
set_option linter.all false
open List renaming length_append->wA,append_assoc->wB,append_nil->wC,take_of_length_le->wD,length_singleton->wE
open Nat renaming le_refl->wF,exists_eq_add_of_le'->wG
namespace Go.Proofs.S44.L
open Go Go.Ev Go.Proofs Go.Proofs.S44
open Go.Proofs.S44.H (strsAV zaa zai Sml GlK GlR zam zbn nsI zal zint zau encB zaw zaf)
variable {gl :Gl} {n:Nat}
structure Hr where
 n:List UInt8
 v:List UInt8
abbrev sHr :Sh:=.st [.sc,.sc]
abbrev hrAV (x:Hr):AV:=.agg [.str x.n,.str x.v]
def hrs (l:List Hr):List AV:=l.map hrAV
theorem zdf (l:List Hr):(hrs l).length=l.length:=by simp[hrs]
def hat (l:List Hr)(i:Nat):Hr:=l.getD i ⟨[],[]⟩
theorem zvc {l:List Hr}{i:Nat}(h:i<l.length):(hrs l)[i]? =some (hrAV (hat l i)):=by simp[hrs,hat,h]
def hrP (x:Hr):List (List UInt8):=[x.n,x.v]
def hsP (l:List Hr)(i:Nat):List (List UInt8):=((l.take i).map hrP).flatten
theorem qbm (l:List Hr):hsP l 0=[]:=by simp[hsP]
theorem qbk {l:List Hr}{i:Nat}(h:i<l.length):hsP l (i+1)=hsP l i++hrP (hat l i):=by
 rw[hsP,List.take_succ_eq_append_getElem h,List.map_append,List.flatten_append,show hat l i=l[i] by simp[hat,h]];simp[hsP]
theorem zhz {l:List Hr}:∀{i:Nat},i<=l.length->(hsP l i).length=2*i
 | 0,_=>by rw[qbm];rfl
 | i+1,h=>by
   rw[qbk (by omega),wA,zhz (by omega)]
   show 2*i+2=2*(i+1);omega
structure Re where
 site:Int
 seq:Int
 ad:List UInt8
 cl:List UInt8
 co:List UInt8
 sx:Int
 lo:Int
 hi:Int
 hs:List Hr
 tk:Tk
 pol:List UInt8
 rl:Rl
 us:Int
 sp:Sp
 mo:Int
 fr:Int
 to:Int
 dat:List UInt8
 le:Le
 he:Int
 ca:Int
abbrev sTk :Sh:=.st [.sc,.sc,.sc,.sc,.ar 16 .sc]
abbrev sSp :Sh:=.st [.sc,.sc,.sc,.sc,.ar 16 .sc,.sc,.st [.sc,.sc],.sc,.sc,.ar 16 .sc]
abbrev sRe :Sh:=.st [.sc,.sc,.st [.sc,.sc,.sc,.sc,.st [.sc,.sc]],.sc,sTk,.ar 16 .sc,sRl,.sc,sSp,.sc,.st [.sc,.sc],.ar 16 .sc,sTk,.sc,.sc]
abbrev reAV (x:Re):AV:=.agg [i64 x.site,i64 x.seq,.agg [.str x.ad,.str x.cl,.str x.co,i64 x.sx,.agg [i64 x.lo,i64 x.hi]],.lst false sHr (hrs x.hs),tkAV x.tk,bAV x.pol,rlAV x.rl,i64 x.us,spAV x.sp,i64 x.mo,.agg [i64 x.fr,i64 x.to],bAV x.dat,leAV x.le,i64 x.he,i64 x.ca]
abbrev nmS (x:Re):List Int:=[x.site,x.seq,x.mo,x.fr,x.to,x.he,x.ca,x.us,x.hs.length,x.tk.cs.length,x.rl.tg.length,x.rl.vy.length]
structure ReOk (x:Re):Prop where
 i:zbn (nmS x)
 a:zbn [x.sx,x.lo,x.hi]
 h:x.hs.length<=10
 t:TkOk x.tk
 p:x.pol.length=16
 r:RlOk x.rl
 s:SpOk x.sp
 d:x.dat.length=16
 l:LeOk x.le
def p1 (x:Re):List (List UInt8):=[zam (nmS x)]++[x.dat,x.pol,x.ad,x.cl,x.co]++[zam [x.sx,x.lo,x.hi]]
def reP (x:Re):List (List UInt8):=p1 x++hsP x.hs x.hs.length++tkP x.tk++rlP x.rl++spP x.sp++[x.sp.sgn]++leP x.le++[x.le.sgn]
def L24 :MC:=match m24 with| .seq _ (.seq _ (.seq _ (.seq _ (.seq _ (.seq _ (.seq (.seq _ (.block _ (.loop _ b))) _))))))=>b|_=>.skip
def S24 (f:Bool)(x:Re)(l:List Hr)(q:List (List UInt8))(i:Nat):St:=⟨[.set 85 (i64 i),.set 84 (i64 l.length),.set 83 (.lst f sHr (hrs l)),.set 4 (.fn 2000072 [.ptr 9 []]),.set 3 (.ptr 9 []),.set 1 (.ptr 1 [])],[(6090,gw q),(9,bx 6090 q),(1,.fix sRe (reAV x))]⟩
theorem qd6 {d:Nat}(hd:7<=d)(f:Bool)(x:Re){l:List Hr}(hl:l.length<=100){q:List (List UInt8)}(hq0:q.length≠0)(hq:q.length<=900)(i:Nat)(hi:i<l.length) :
  zbd [.slot 1,.slot 3,.slot 4,.slot 83,.slot 84,.slot 85,.key 1,.key 9,.mv 9 [0] 6090] (evC gl (call gl tab d) L24 (S24 f x l q i))=some (S24 f x l (q++hrP (hat l i)) (i+1)):=by
 have hx:=zvc hi
 have c:=@zh8 gl d (by omega) q (hrP (hat l i)) hq0 (by omega) (by simp[hrP]) 2 rfl
 have hcl:=zdf l
 have e4:strsAV (hrP (hat l i))=[.str (hat l i).n,.str (hat l i).v]:=rfl
 have l1:=zaa q
 have s1:=zao q
 have l2:=zaa (q++hrP (hat l i))
 have s2:=zao (q++hrP (hat l i))
 rw[S24,S24]
 unfold bx gw at *
 rw[e4]at c
 generalize q++hrP (hat l i)=q' at *
 generalize hat l i=y at *
 clear e4
 simp(disch:=apply zq;omega) only[go_sem,simprocAttr,↓Nat.reduceEqDiff,xx,L24,m24,hx,hcl,c,l1,l2,s1,s2]
end Go.Proofs.S44.L
namespace Go.Proofs.S44.L
open Go Go.Ev Go.Proofs Go.Proofs.S44
open Go.Proofs.S44.H (strsAV zaa zai Sml GlK GlR zam zbn nsI zal zint zau encB zaw zaf)
variable {gl :Gl} {n:Nat}
theorem zlb (x:Sp):(spP x).length=5:=rfl
theorem zl9 (x:Le):(leP x).length=1:=rfl
theorem zsf (x:Tk):(tkP x).length=3+5*x.cs.length:=by
 rw[tkP,wA,zmr (wF _)];rfl
theorem zss (x:Rl):(rlP x).length=9+x.tg.length+3*x.vy.length:=by
 unfold rlP
 rw[wA,wA,wA,wA,zi3 (wF _)]
 show 3+1+x.tg.length+3*x.vy.length+5=_
 omega
theorem zz9 (x:Re):(p1 x).length=7:=rfl
theorem z4t (h:9<=n){x:Re}(hx:ReOk x):call gl tab n 24 [reAV x] []=some (.lst false .sc (strsAV (reP x)),[],[]):=by
 obtain⟨d,rfl⟩:=wG h
 have hh:=hx.h
 have tl:=zsf x.tk
 have rl:=zss x.rl
 have tc:=hx.t.cl
 have rt:=hx.r.t
 have rv:=hx.r.v
 have hl:=zhz (l:=x.hs) (wF _)
 have c1:=@z8d gl (d+8) (by omega) _ hx.i 12 rfl
 have c2:=@zh8 gl (d+8) (by omega) [zam (nmS x)] [x.dat,x.pol,x.ad,x.cl,x.co] (by simp) (by simp) (by simp) 5 rfl
 have c3:=@zmg gl (d+8) (by omega) ([zam (nmS x)]++[x.dat,x.pol,x.ad,x.cl,x.co]) _ (by simp) (by simp) hx.a 3 rfl
 have e1:[zam (nmS x)]++[x.dat,x.pol,x.ad,x.cl,x.co]++[zam [x.sx,x.lo,x.hi]]=p1 x:=rfl
 rw[e1]at c3
 have pl:=zz9 x
 have a1:(p1 x++hsP x.hs x.hs.length).length=7+2*x.hs.length:=by rw[wA];omega
 have a2:(p1 x++hsP x.hs x.hs.length++tkP x.tk).length<=100:=by rw[wA];omega
 have a3:(p1 x++hsP x.hs x.hs.length++tkP x.tk++rlP x.rl).length<=200:=by rw[wA];omega
 have a4:(p1 x++hsP x.hs x.hs.length++tkP x.tk++rlP x.rl++spP x.sp).length<=210:=by rw[wA,zlb];omega
 have a5:(p1 x++hsP x.hs x.hs.length++tkP x.tk++rlP x.rl++spP x.sp++[x.sp.sgn]).length<=220:=by rw[wA,wE];omega
 have a6:(p1 x++hsP x.hs x.hs.length++tkP x.tk++rlP x.rl++spP x.sp++[x.sp.sgn]++leP x.le).length<=230:=by rw[wA,zl9];omega
 have z0:(p1 x++hsP x.hs x.hs.length).length≠0:=by rw[a1];omega
 have z2:(p1 x++hsP x.hs x.hs.length++tkP x.tk).length≠0:=by rw[wA,a1];omega
 have z3:(p1 x++hsP x.hs x.hs.length++tkP x.tk++rlP x.rl).length≠0:=by rw[wA];omega
 have z4:(p1 x++hsP x.hs x.hs.length++tkP x.tk++rlP x.rl++spP x.sp).length≠0:=by rw[wA];omega
 have z5:(p1 x++hsP x.hs x.hs.length++tkP x.tk++rlP x.rl++spP x.sp++[x.sp.sgn]).length≠0:=by rw[wA];omega
 have z6:(p1 x++hsP x.hs x.hs.length++tkP x.tk++rlP x.rl++spP x.sp++[x.sp.sgn]++leP x.le).length≠0:=by rw[wA];omega
 have c4:=@z3i gl (d+8) (by omega) _ _ hx.t z0 (by omega)
 have c5:=@z9w gl (d+8) (by omega) _ _ hx.r z2 (by omega)
 have k1:=@z7z gl (d+8) (by omega) x.sp hx.s
 have c6:=@zyr gl (d+8) (by omega) false _ (spP x.sp) z3 (by omega) (by rw[zlb];omega)
 have c7:=@zh8 gl (d+8) (by omega) _ [x.sp.sgn] z4 (by omega) (by simp) 1 rfl
 have k2:=@z78 gl (d+8) (by omega) x.le hx.l
 have c8:=@zyr gl (d+8) (by omega) false _ (leP x.le) z5 (by omega) (by rw[zl9];omega)
 have c9:=@zh8 gl (d+8) (by omega) _ [x.le.sgn] z6 (by omega) (by simp) 1 rfl
 have er:reP x=p1 x++hsP x.hs x.hs.length++tkP x.tk++rlP x.rl++spP x.sp++[x.sp.sgn]++leP x.le++[x.le.sgn]:=rfl
 rw[er]
 rw[zad (fd:=fd24) rfl]
 have u1:=b16 hx.d
 have u2:=b16 hx.p
 have u3:=b16 hx.t.s
 have u4:=b16 hx.s.r
 have u5:=b16 hx.s.s
 have u6:=b16 hx.l.s
 have t1:=b16t hx.d
 have t2:=b16t hx.p
 have t5:=b16t hx.s.s
 have t6:=b16t hx.l.s
 have w1:=H.bytes_all x.dat
 have w2:=H.bytes_all x.pol
 have w3:=H.bytes_all x.tk.sgn
 have w4:=H.bytes_all x.sp.body
 have w5:=H.bytes_all x.sp.sgn
 have w6:=H.bytes_all x.le.sgn
 have e4:strsAV [x.dat,x.pol,x.ad,x.cl,x.co]=[.str x.dat,.str x.pol,.str x.ad,.str x.cl,.str x.co]:=rfl
 have e5:nsI (nmS x)=[i64 x.site,i64 x.seq,i64 x.mo,i64 x.fr,i64 x.to,i64 x.he,i64 x.ca,i64 x.us,i64 x.hs.length,i64 x.tk.cs.length,i64 x.rl.tg.length,i64 x.rl.vy.length]:=rfl
 have e6:nsI [x.sx,x.lo,x.hi]=[i64 x.sx,i64 x.lo,i64 x.hi]:=rfl
 have e7:strsAV [x.sp.sgn]=[.str x.sp.sgn]:=rfl
 have e8:strsAV [x.le.sgn]=[.str x.le.sgn]:=rfl
 have g1:=zdf x.hs
 have g2:=zc0 x.tk.cs
 have g3:=zaa x.rl.tg
 have g4:=zcy x.rl.vy
 obtain⟨Q,hQ⟩:∃Q:Nat->List (List UInt8),∀i,Q i=p1 x++hsP x.hs i:=⟨_,fun _=>rfl⟩
 have st:∀i,i<x.hs.length->zbd [.slot 1,.slot 3,.slot 4,.slot 83,.slot 84,.slot 85,.key 1,.key 9,.mv 9 [0] 6090] (evC gl (call gl tab (d+8)) L24 (S24 false x x.hs (Q i) i))=some (S24 false x x.hs (Q (i+1)) (i+1)):=fun i hi=>by
  have hc:=zhz (l:=x.hs) (i:=i) (by omega)
  rw[hQ (i+1),qbk hi,<-wB,<-hQ i]
  exact qd6 (by omega) false _ (by omega) (by rw[hQ,wA];omega) (by rw[hQ,wA];omega) i hi
 simp only[L24,m24]at st
 have Q0:Q 0=p1 x:=by rw[hQ,qbm,wC]
 rw[<-hQ]at c4 c5 c6 c7 c8 c9 ⊢
 unfold bx gw gi at *
 rw[e4]at c2
 rw[e5]at c1
 rw[e6]at c3
 rw[e7]at c7
 rw[e8]at c9
 clear hQ e4 e5 e6 e7 e8 er e1 a1 a2 a3 a4 a5 a6 z0 z2 z3 z4 z5 z6 tl rl hl pl hx
 generalize [zam (nmS x)]=q1 at *
 generalize q1++[x.dat,x.pol,x.ad,x.cl,x.co]=q2 at *
 generalize p1 x=q3 at *
 generalize hq4:Q x.hs.length=q4 at *
 generalize q4++tkP x.tk=q5 at *
 generalize q5++rlP x.rl=q6 at *
 generalize q6++spP x.sp=q7 at *
 generalize q7++[x.sp.sgn]=q8 at *
 generalize q8++leP x.le=q9 at *
 generalize q9++[x.le.sgn]=qa at *
 have l1:=zaa q1
 have l2:=zaa q2
 have l3:=zaa q3
 have l4:=zaa q4
 have l5:=zaa q5
 have l6:=zaa q6
 have l7:=zaa q7
 have l8:=zaa q8
 have l9:=zaa q9
 have la:=zaa qa
 have s1:=zao q1
 have s2:=zao q2
 have s3:=zao q3
 have s4:=zao q4
 have s5:=zao q5
 have s6:=zao q6
 have s7:=zao q7
 have s8:=zao q8
 have s9:=zao q9
 have sa:=zao qa
 have ta:List.take qa.length (strsAV qa)=strsAV qa:=wD (by omega)
 simp(maxSteps:=1000000) (disch:=apply zq;omega) only[go_sem,simprocAttr,↓Nat.reduceEqDiff,xx,fd24,m24,u1,u2,u3,u4,u5,u6,t1,t2,t5,t6,w1,w2,w3,w4,w5,w6,g1,g2,g3,g4,c1,c2,c3,l1,l2,l3,s1,s2,s3]
 rw[zag (fun i=>S24 false x x.hs (Q i) i) x.hs.length (by unfold LF;omega)]
 . rw[S24,hq4]
   simp(maxSteps:=1000000) (disch:=apply zq;omega) only[go_sem,simprocAttr,↓Nat.reduceEqDiff,xx,u1,u2,u3,u4,u5,u6,t1,t2,t5,t6,w1,w2,w3,w4,w5,w6,g1,g2,g3,g4,c4,c5,k1,c6,c7,k2,c8,c9,l4,l5,l6,l7,l8,l9,la,s4,s5,s6,s7,s8,s9,sa,ta]
 . rw[S24,Q0];simp(disch:=apply zq;omega) only[go_sem,simprocAttr,↓Nat.reduceEqDiff,xx,l1,l2,l3,g1]
 . exact st
 . rw[S24,hq4];simp(disch:=apply zq;omega) only[go_sem,simprocAttr,↓Nat.reduceEqDiff,xx,g1,l4,s4]
end Go.Proofs.S44.L
namespace Go.Proofs.S44.L
open Go Go.Ev Go.Proofs Go.Proofs.S44
open Go.Proofs.S44.H (strsAV zaa zai Sml GlK GlR zam zbn nsI zal zint zau encB zaw zaf)
variable {gl :Gl} {n:Nat}
theorem sn1 (a:List (List UInt8))(x:List UInt8):strsAV a++[.str x]=strsAV (a++[x]):=by rw[zex];rfl
theorem sn2 (a:List (List UInt8))(x y:List UInt8):strsAV a++[.str x,.str y]=strsAV (a++[x,y]):=by rw[zex];rfl
theorem sn3 (a:List (List UInt8))(x y z:List UInt8):strsAV a++[.str x,.str y,.str z]=strsAV (a++[x,y,z]):=by rw[zex];rfl
theorem sn4 (a:List (List UInt8))(x y z u:List UInt8):strsAV a++[.str x,.str y,.str z,.str u]=strsAV (a++[x,y,z,u]):=by rw[zex];rfl
theorem sna (a b:List (List UInt8)):strsAV a++strsAV b=strsAV (a++b):=(zex a b).symm
theorem zus (h:6<=n){x:Cd}(hx:CdOk x):call gl tab n 82 [cdAV x] []=some (.lst false .sc (strsAV (cdP x)),[],[]):=by
 obtain⟨d,rfl⟩:=wG h
 have c1:=@zns gl (d+5) (by omega) false _ hx.i
 have c2:=@zpf gl (d+5) (by omega) false x.cl hx.cl
 have c3:=@zpf gl (d+5) (by omega) false x.co hx.co
 have c4:=@zns gl (d+5) (by omega) false _ hx.si
 have e5:nsI [x.fr,x.to,x.us]=[i64 x.fr,i64 x.to,i64 x.us]:=rfl
 have e:strsAV (cdP x)=[.str (zam [x.fr,x.to,x.us]),.str x.pat,.str (zbg x.cl),.str (zbg x.co),.str (zam x.si)]:=rfl
 rw[e]
 rw[e5]at c1
 generalize zam [x.fr,x.to,x.us]=z1 at *
 generalize zbg x.cl=z2 at *
 generalize zbg x.co=z3 at *
 generalize zam x.si=z4 at *
 rw[zad (fd:=fd82) rfl]
 simp(disch:=apply zq;omega) only[go_sem,simprocAttr,↓Nat.reduceEqDiff,xx,fd82,m82,c1,c2,c3,c4]
def L27 :MC:=match m27 with| .seq _ (.seq _ (.seq _ (.seq _ (.seq _ (.seq (.seq _ (.block _ (.loop _ b))) _)))))=>b|_=>.skip
def L27b :MC:=match m27 with| .seq _ (.seq _ (.seq _ (.seq _ (.seq _ (.seq _ (.seq _ (.seq (.seq _ (.block _ (.loop _ b))) _)))))))=>b|_=>.skip
def L27c :MC:=match m27 with| .seq _ (.seq _ (.seq _ (.seq _ (.seq _ (.seq _ (.seq _ (.seq _ (.seq _ (.seq _ (.seq _ (.seq (.seq _ (.block _ (.loop _ b))) _)))))))))))=>b|_=>.skip
def S27 (x:Re)(s:Int)(q:List (List UInt8))(i:Nat):St:=⟨[.set 5 (i64 i),.set 4 (.sl 5004 [] 0 q.length),.set 3 (i64 s),.set 1 (.ptr 1 [])],[(1,.fix sRe (reAV x)),(5004,gw q)]⟩
def S27b (x:Re)(s:Int)(q:List (List UInt8))(i:Nat):St:=⟨[.set 6 (i64 i),.set 4 (.sl 5004 [] 0 q.length),.set 3 (i64 s),.set 1 (.ptr 1 [])],[(1,.fix sRe (reAV x)),(5004,gw q)]⟩
def S27c (x:Re)(q:List (List UInt8))(i:Nat):St:=⟨[.set 8 (i64 i),.set 7 (.ptr 7 []),.set 4 (.sl 5004 [] 0 q.length),.set 1 (.ptr 1 [])],[(7,.fix sRl (rlAV x.rl)),(1,.fix sRe (reAV x)),(5004,gw q)]⟩
theorem qd5 {d:Nat}(x:Re)(s:Int){q:List (List UInt8)}(hq:q.length<=900)(i:Nat)(hh:x.hs.length<=10)(hi:i<x.hs.length) :
  zbd [.slot 1,.slot 3,.own 4 5004 .sc,.slot 5,.key 1] (evC gl (call gl tab d) L27 (S27 x s q i))=some (S27 x s (q++hrP (hat x.hs i)) (i+1)):=by
 have hx:=zvc hi
 have hcl:=zdf x.hs
 have lq:=zaa q
 have hL:q.length+2<=LIM:=by unfold LIM;omega
 have e:hrP (hat x.hs i)=[(hat x.hs i).n,(hat x.hs i).v]:=rfl
 rw[S27,S27,e]
 unfold gw
 generalize hat x.hs i=y at *
 simp(disch:=apply zq;omega) only[go_sem,simprocAttr,↓Nat.reduceEqDiff,xx,L27,m27,hx,hcl,lq,hL,sn2,zaa]
theorem z9g {d:Nat}(hd:6<=d)(x:Re)(s:Int){q:List (List UInt8)}(hq:q.length<=900)(i:Nat)(hh:x.tk.cs.length<=10)(hc:∀y∈x.tk.cs,CdOk y)(hi:i<x.tk.cs.length) :
  zbd [.slot 1,.slot 3,.own 4 5004 .sc,.slot 6,.key 1] (evC gl (call gl tab d) L27b (S27b x s q i))=some (S27b x s (q++cdP (cat x.tk.cs i)) (i+1)):=by
 have hx:=zv4 hi
 have hcl:=zc0 x.tk.cs
 have lq:=zaa q
 have hL:q.length+5<=LIM:=by unfold LIM;omega
 have c:=@zus gl d hd _ (hc _ (zt0 hi))
 have lc:(cdP (cat x.tk.cs i)).length=5:=rfl
 have ls:=zaa (cdP (cat x.tk.cs i))
 rw[lc]at ls
 rw[S27b,S27b]
 unfold gw
 generalize cdP (cat x.tk.cs i)=z at *
 generalize cat x.tk.cs i=y at *
 simp(disch:=apply zq;omega) only[go_sem,simprocAttr,↓Nat.reduceEqDiff,xx,L27b,m27,hx,hcl,lq,hL,c,sna,zaa,ls,lc]
theorem z9f {d:Nat}(hd:6<=d)(x:Re){q:List (List UInt8)}(hq:q.length<=900)(i:Nat)(hh:x.rl.vy.length<=10)(hc:∀y∈x.rl.vy,Sml y.v)(hi:i<x.rl.vy.length) :
  zbd [.slot 1,.own 4 5004 .sc,.slot 7,.slot 8,.key 1,.key 7] (evC gl (call gl tab d) L27c (S27c x q i))=some (S27c x (q++vyP (vat x.rl.vy i)) (i+1)):=by
 have hx:=zub hi
 have hcl:=zcy x.rl.vy
 have lq:=zaa q
 have hL:q.length+3<=LIM:=by unfold LIM;omega
 have c:=@zpf gl d (by omega) false _ (hc _ (zk5 hi))
 have e:vyP (vat x.rl.vy i)=[(vat x.rl.vy i).h,(vat x.rl.vy i).d,zbg (vat x.rl.vy i).v]:=rfl
 rw[S27c,S27c,e]
 unfold gw
 generalize zbg (vat x.rl.vy i).v=z at *
 generalize vat x.rl.vy i=y at *
 simp(disch:=apply zq;omega) only[go_sem,simprocAttr,↓Nat.reduceEqDiff,xx,L27c,m27,hx,hcl,lq,hL,c,sn3,zaa]
end Go.Proofs.S44.L
namespace Go.Proofs.S44.L
open Go Go.Ev Go.Proofs Go.Proofs.S44
open Go.Proofs.S44.H (strsAV zaa zai Sml GlK GlR zam zbn nsI zal zint zau encB zaw zaf)
variable {gl :Gl} {n:Nat}
theorem zpg {a b:Nat}(h:a<=400)(h2:b<=400):a+b<=LIM:=by unfold LIM;omega
theorem zqs (h:9<=n){x:Re}(hx:ReOk x):call gl tab n 27 [reAV x] []=some (.lst false .sc (strsAV (reP x)),[],[]):=by
 obtain⟨d,rfl⟩:=wG h
 have hh:=hx.h
 have tc:=hx.t.cl
 have rt:=hx.r.t
 have rv:=hx.r.v
 have c1:=@zns gl (d+8) (by omega) false _ hx.i
 have c2:=@zns gl (d+8) (by omega) false _ hx.a
 have c3:=@zns gl (d+8) (by omega) false _ hx.t.i
 have c4:=@zns gl (d+8) (by omega) false _ hx.r.i
 have c5:=@zus gl (d+8) (by omega) _ hx.r.a
 have c6:=@z9y gl (d+8) (by omega) _ hx.s
 have c7:=@z95 gl (d+8) (by omega) _ hx.l
 have e4:strsAV (p1 x)=[.str (zam (nmS x)),.str x.dat,.str x.pol,.str x.ad,.str x.cl,.str x.co,.str (zam [x.sx,x.lo,x.hi])]:=rfl
 have p4:(p1 x).length=7:=rfl
 have e5:nsI (nmS x)=[i64 x.site,i64 x.seq,i64 x.mo,i64 x.fr,i64 x.to,i64 x.he,i64 x.ca,i64 x.us,i64 x.hs.length,i64 x.tk.cs.length,i64 x.rl.tg.length,i64 x.rl.vy.length]:=rfl
 have e6:nsI [x.sx,x.lo,x.hi]=[i64 x.sx,i64 x.lo,i64 x.hi]:=rfl
 have e7:nsI [x.tk.cu,x.tk.se]=[i64 x.tk.cu,i64 x.tk.se]:=rfl
 have e8:nsI [x.rl.fr,x.rl.sl,x.rl.dn,x.rl.ng,fl x.rl.sg,x.rl.co]=[i64 x.rl.fr,i64 x.rl.sl,i64 x.rl.dn,i64 x.rl.ng,i64 (fl x.rl.sg),i64 x.rl.co]:=rfl
 rw[e5]at c1
 rw[e6]at c2
 rw[e7]at c3
 rw[e8]at c4
 have u1:=b16 hx.d
 have u2:=b16 hx.p
 have u3:=b16 hx.t.s
 have u4:=b16 hx.s.r
 have u5:=b16 hx.s.s
 have u6:=b16 hx.l.s
 have t1:=b16t hx.d
 have t2:=b16t hx.p
 have t3:=b16t hx.t.s
 have t5:=b16t hx.s.s
 have t6:=b16t hx.l.s
 have w1:=H.bytes_all x.dat
 have w2:=H.bytes_all x.pol
 have w3:=H.bytes_all x.tk.sgn
 have w4:=H.bytes_all x.sp.body
 have w5:=H.bytes_all x.sp.sgn
 have w6:=H.bytes_all x.le.sgn
 have g1:=zdf x.hs
 have g2:=zc0 x.tk.cs
 have g3:=zaa x.rl.tg
 have g4:=zcy x.rl.vy
 have er:reP x=p1 x++hsP x.hs x.hs.length++[zam [x.tk.cu,x.tk.se],x.tk.id,x.tk.sgn]++csP x.tk.cs x.tk.cs.length++[x.rl.nm,x.rl.pat,x.rl.pr,zam [x.rl.fr,x.rl.sl,x.rl.dn,x.rl.ng,fl x.rl.sg,x.rl.co]]++x.rl.tg++vsP x.rl.vy x.rl.vy.length++cdP x.rl.al++spP x.sp++[x.sp.sgn]++leP x.le++[x.le.sgn]:=by
  simp[reP,tkP,rlP]
 rw[er]
 have hl1:=zhz (l:=x.hs) (wF _)
 have hl2:=zmr (l:=x.tk.cs) (wF _)
 have hl3:=zi3 (l:=x.rl.vy) (wF _)
 obtain⟨Qa,hQa⟩:∃Q:Nat->List (List UInt8),∀i,Q i=p1 x++hsP x.hs i:=⟨_,fun _=>rfl⟩
 obtain⟨Qb,hQb⟩:∃Q:Nat->List (List UInt8),∀i,Q i=Qa x.hs.length++[zam [x.tk.cu,x.tk.se],x.tk.id,x.tk.sgn]++csP x.tk.cs i:=⟨_,fun _=>rfl⟩
 obtain⟨Qc,hQc⟩:∃Q:Nat->List (List UInt8),∀i,Q i=Qb x.tk.cs.length++[x.rl.nm,x.rl.pat,x.rl.pr,zam [x.rl.fr,x.rl.sl,x.rl.dn,x.rl.ng,fl x.rl.sg,x.rl.co]]++x.rl.tg++vsP x.rl.vy i:=⟨_,fun _=>rfl⟩
 have la:∀i,i<=x.hs.length->(Qa i).length=7+2*i:=fun i hi=>by rw[hQa,wA,p4,zhz hi]
 have lb:∀i,i<=x.tk.cs.length->(Qb i).length=7+2*x.hs.length+3+5*i:=fun i hi=>by
  rw[hQb,wA,wA,la _ (wF _),zmr hi];rfl
 have lc:∀i,i<=x.rl.vy.length->(Qc i).length=7+2*x.hs.length+3+5*x.tk.cs.length+4+x.rl.tg.length+3*i:=fun i hi=>by
  rw[hQc,wA,wA,wA,lb _ (wF _),zi3 hi];rfl
 have sa:∀i,i<x.hs.length->zbd [.slot 1,.slot 3,.own 4 5004 .sc,.slot 5,.key 1] (evC gl (call gl tab (d+8)) L27 (S27 x (fl x.rl.sg) (Qa i) i))=some (S27 x (fl x.rl.sg) (Qa (i+1)) (i+1)):=fun i hi=>by
  rw[hQa (i+1),qbk hi,<-wB,<-hQa i]
  exact qd5 _ _ (by rw[la _ (by omega)];omega) i hh hi
 have sb:∀i,i<x.tk.cs.length->zbd [.slot 1,.slot 3,.own 4 5004 .sc,.slot 6,.key 1] (evC gl (call gl tab (d+8)) L27b (S27b x (fl x.rl.sg) (Qb i) i))=some (S27b x (fl x.rl.sg) (Qb (i+1)) (i+1)):=fun i hi=>by
  rw[hQb (i+1),qcg hi,<-wB,<-hQb i]
  exact z9g (by omega) _ _ (by rw[lb _ (by omega)];omega) i (by omega) hx.t.c hi
 have sc:∀i,i<x.rl.vy.length->zbd [.slot 1,.own 4 5004 .sc,.slot 7,.slot 8,.key 1,.key 7] (evC gl (call gl tab (d+8)) L27c (S27c x (Qc i) i))=some (S27c x (Qc (i+1)) (i+1)):=fun i hi=>by
  rw[hQc (i+1),z8x hi,<-wB,<-hQc i]
  exact z9f (by omega) _ (by rw[lc _ (by omega)];omega) i (by omega) hx.r.vv hi
 simp only[L27,L27b,L27c,m27]at sa sb sc
 have a0:Qa 0=p1 x:=by rw[hQa,qbm,wC]
 have b0:Qb 0=Qa x.hs.length++[zam [x.tk.cu,x.tk.se],x.tk.id,x.tk.sgn]:=by rw[hQb,qci,wC]
 have c0:Qc 0=Qb x.tk.cs.length++[x.rl.nm,x.rl.pat,x.rl.pr,zam [x.rl.fr,x.rl.sl,x.rl.dn,x.rl.ng,fl x.rl.sg,x.rl.co]]++x.rl.tg:=by rw[hQc,z8z,wC]
 have ra:=la _ (wF _)
 have rb:=lb _ (wF _)
 have rc:=lc _ (wF _)
 rw[<-hQa,<-hQb,<-hQc]
 clear hQa hQb hQc la lb lc er
 have lc5:(cdP x.rl.al).length=5:=rfl
 have lc6:(spP x.sp).length=5:=rfl
 have lc7:(leP x.le).length=1:=rfl
 rw[zad (fd:=fd27) rfl]
 generalize hqa:Qa x.hs.length=qa at *
 generalize hqb:Qb x.tk.cs.length=qb at *
 generalize hqc:Qc x.rl.vy.length=qc at *
 generalize zam [x.tk.cu,x.tk.se]=z3 at *
 generalize zam [x.rl.fr,x.rl.sl,x.rl.dn,x.rl.ng,fl x.rl.sg,x.rl.co]=z4 at *
 generalize zam (nmS x)=z1 at *
 generalize zam [x.sx,x.lo,x.hi]=z2 at *
 generalize cdP x.rl.al=z5 at *
 generalize spP x.sp=z6 at *
 generalize leP x.le=z7 at *
 have k1:=zpg (a:=qa.length) (b:=3) (by omega) (by omega)
 have k2:=zpg (a:=qb.length) (b:=4) (by omega) (by omega)
 have k3:=zpg (a:=qb.length+4) (b:=x.rl.tg.length) (by omega) (by omega)
 have k4:=zpg (a:=qc.length) (b:=5) (by omega) (by omega)
 have k5:=zpg (a:=qc.length+5) (b:=5) (by omega) (by omega)
 have k6:=zpg (a:=qc.length+5+5) (b:=1) (by omega) (by omega)
 have k7:=zpg (a:=qc.length+5+5+1) (b:=1) (by omega) (by omega)
 have k8:=zpg (a:=qc.length+5+5+1+1) (b:=1) (by omega) (by omega)
 have k0:=zpg (a:=3) (b:=4) (by omega) (by omega)
 have ta:=wD (l:=strsAV (qc++z5++z6++[x.sp.sgn]++z7++[x.le.sgn])) (i:=qc.length+5+5+1+1+1) (by simp only[zaa,wA,lc5,lc6,lc7,wE];omega)
 have key:∀s:Int,fl x.rl.sg=s->x.rl.sg=decide (s=1)->(s=0\/s=1)->finK fd27.res fd27.pk (evC gl (call gl tab (d+8)) fd27.body {fr:=frOf 0 [reAV x],hp:=[]})=some (AV.lst false .sc (strsAV (qc++z5++z6++[x.sp.sgn]++z7++[x.le.sgn])),[],[]):=fun s es eb hs=>by
  rw[es]at c4 sa sb
  rcases hs with rfl|rfl
  . have hb:x.rl.sg=false:=eb.trans (by decide)
    simp(maxSteps:=1000000) (disch:=apply zq;omega) only[go_sem,simprocAttr,↓Nat.reduceEqDiff,xx,fd27,m27,hb,e4,u1,u2,u3,u4,u5,u6,t1,t2,w1,w2,w3,w4,w5,w6,g1,g2,g3,g4,c1,c2,k0]
    rw[zag (fun i=>S27 x 0 (Qa i) i) x.hs.length (by unfold LF;omega)]
    rotate_left
    . simp only[S27,a0,gw,e4,p4];simp(disch:=apply zq;omega) only[go_sem,simprocAttr,↓Nat.reduceEqDiff,xx,g1]
    . exact sa
    . rw[S27,hqa];simp(disch:=apply zq;omega) only[go_sem,simprocAttr,↓Nat.reduceEqDiff,xx,g1]
    rw[S27,hqa]
    simp(maxSteps:=1000000) (disch:=apply zq;omega) only[go_sem,simprocAttr,↓Nat.reduceEqDiff,xx,u1,u2,u3,u4,u5,u6,t3,w1,w2,w3,w4,w5,w6,g1,g2,g3,g4,c3,k1,sn3,zaa]
    rw[zag (fun i=>S27b x 0 (Qb i) i) x.tk.cs.length (by unfold LF;omega)]
    rotate_left
    . simp only[S27b,b0];simp(disch:=apply zq;omega) only[go_sem,simprocAttr,↓Nat.reduceEqDiff,xx,g2,zaa]
    . exact sb
    . rw[S27b,hqb];simp(disch:=apply zq;omega) only[go_sem,simprocAttr,↓Nat.reduceEqDiff,xx,g2]
    rw[S27b,hqb]
    simp(maxSteps:=1000000) (disch:=apply zq;omega) only[go_sem,simprocAttr,↓Nat.reduceEqDiff,xx,hb,u1,u2,u3,u4,u5,u6,t3,w1,w2,w3,w4,w5,w6,g1,g2,g3,g4,c4,k2,k3,sn4,sna,zaa]
    rw[zag (fun i=>S27c x (Qc i) i) x.rl.vy.length (by unfold LF;omega)]
    rotate_left
    . simp only[S27c,c0];simp(disch:=apply zq;omega) only[go_sem,simprocAttr,↓Nat.reduceEqDiff,xx,hb,g4,zaa]
    . exact sc
    . rw[S27c,hqc];simp(disch:=apply zq;omega) only[go_sem,simprocAttr,↓Nat.reduceEqDiff,xx,hb,g4]
    rw[S27c,hqc]
    simp(maxSteps:=1000000) (disch:=apply zq;omega) only[go_sem,simprocAttr,↓Nat.reduceEqDiff,xx,hb,u1,u2,u3,u4,u5,u6,t5,t6,w1,w2,w3,w4,w5,w6,g1,g2,g3,g4,c5,c6,c7,k4,k5,k6,k7,k8,sn1,sna,zaa,lc5,lc6,lc7]
    rw[ta]
  . have hb:x.rl.sg=true:=eb.trans (by decide)
    simp(maxSteps:=1000000) (disch:=apply zq;omega) only[go_sem,simprocAttr,↓Nat.reduceEqDiff,xx,fd27,m27,hb,e4,u1,u2,u3,u4,u5,u6,t1,t2,w1,w2,w3,w4,w5,w6,g1,g2,g3,g4,c1,c2,k0]
    rw[zag (fun i=>S27 x 1 (Qa i) i) x.hs.length (by unfold LF;omega)]
    rotate_left
    . simp only[S27,a0,gw,e4,p4];simp(disch:=apply zq;omega) only[go_sem,simprocAttr,↓Nat.reduceEqDiff,xx,g1]
    . exact sa
    . rw[S27,hqa];simp(disch:=apply zq;omega) only[go_sem,simprocAttr,↓Nat.reduceEqDiff,xx,g1]
    rw[S27,hqa]
    simp(maxSteps:=1000000) (disch:=apply zq;omega) only[go_sem,simprocAttr,↓Nat.reduceEqDiff,xx,u1,u2,u3,u4,u5,u6,t3,w1,w2,w3,w4,w5,w6,g1,g2,g3,g4,c3,k1,sn3,zaa]
    rw[zag (fun i=>S27b x 1 (Qb i) i) x.tk.cs.length (by unfold LF;omega)]
    rotate_left
    . simp only[S27b,b0];simp(disch:=apply zq;omega) only[go_sem,simprocAttr,↓Nat.reduceEqDiff,xx,g2,zaa]
    . exact sb
    . rw[S27b,hqb];simp(disch:=apply zq;omega) only[go_sem,simprocAttr,↓Nat.reduceEqDiff,xx,g2]
    rw[S27b,hqb]
    simp(maxSteps:=1000000) (disch:=apply zq;omega) only[go_sem,simprocAttr,↓Nat.reduceEqDiff,xx,hb,u1,u2,u3,u4,u5,u6,t3,w1,w2,w3,w4,w5,w6,g1,g2,g3,g4,c4,k2,k3,sn4,sna,zaa]
    rw[zag (fun i=>S27c x (Qc i) i) x.rl.vy.length (by unfold LF;omega)]
    rotate_left
    . simp only[S27c,c0];simp(disch:=apply zq;omega) only[go_sem,simprocAttr,↓Nat.reduceEqDiff,xx,hb,g4,zaa]
    . exact sc
    . rw[S27c,hqc];simp(disch:=apply zq;omega) only[go_sem,simprocAttr,↓Nat.reduceEqDiff,xx,hb,g4]
    rw[S27c,hqc]
    simp(maxSteps:=1000000) (disch:=apply zq;omega) only[go_sem,simprocAttr,↓Nat.reduceEqDiff,xx,hb,u1,u2,u3,u4,u5,u6,t5,t6,w1,w2,w3,w4,w5,w6,g1,g2,g3,g4,c5,c6,c7,k4,k5,k6,k7,k8,sn1,sna,zaa,lc5,lc6,lc7]
    rw[ta]
 cases hb:x.rl.sg
 . exact key 0 (by rw[hb];rfl) (by rw[hb];rfl) (.inl rfl)
 . exact key 1 (by rw[hb];rfl) (by rw[hb];rfl) (.inr rfl)
end Go.Proofs.S44.L
