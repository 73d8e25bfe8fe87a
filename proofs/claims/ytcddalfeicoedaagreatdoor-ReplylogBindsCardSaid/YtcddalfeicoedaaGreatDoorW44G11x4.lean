/-
  Chapter 44: the parts of a reply, by the specification. No condition.
-/
import Derived.Test.YtcddalfeicoedaaGreatDoorW44G10x4
set_option linter.all false
open Nat renaming exists_eq_add_of_le'->wA,le_refl->wB
open List renaming length_append->wC,append_assoc->wD,append_nil->wE
namespace Go.Proofs.S44.L
open Go Go.Ev Go.Proofs Go.Proofs.S44
open Go.Proofs.S44.H (strsAV zaa zaj Sml GlK GlR zal zbk nsI zak zint zat encB zaw zae)
variable {gl :Gl} {n:Nat}
theorem sn1 (a:List (List UInt8))(x:List UInt8):strsAV a++[.str x]=strsAV (a++[x]):=by rw[zer];rfl
theorem sn2 (a:List (List UInt8))(x y:List UInt8):strsAV a++[.str x,.str y]=strsAV (a++[x,y]):=by rw[zer];rfl
theorem sn3 (a:List (List UInt8))(x y z:List UInt8):strsAV a++[.str x,.str y,.str z]=strsAV (a++[x,y,z]):=by rw[zer];rfl
theorem sn4 (a:List (List UInt8))(x y z u:List UInt8):strsAV a++[.str x,.str y,.str z,.str u]=strsAV (a++[x,y,z,u]):=by rw[zer];rfl
theorem sna (a b:List (List UInt8)):strsAV a++strsAV b=strsAV (a++b):=(zer a b).symm
theorem zt7 (h:6<=n){x:Cd}(hx:CdOk x):call gl tab n 82 [cdAV x] []=some (.lst false .sc (strsAV (cdP x)),[],[]):=by
 obtain⟨d,rfl⟩:=wA h
 have c1:=@znh gl (d+5) (by omega) false _ hx.i
 have c2:=@zo7 gl (d+5) (by omega) false x.cl hx.cl
 have c3:=@zo7 gl (d+5) (by omega) false x.co hx.co
 have c4:=@znh gl (d+5) (by omega) false _ hx.si
 have e5:nsI [x.fr,x.to,x.us]=[i64 x.fr,i64 x.to,i64 x.us]:=rfl
 have e:strsAV (cdP x)=[.str (zal [x.fr,x.to,x.us]),.str x.pat,.str (zbb x.cl),.str (zbb x.co),.str (zal x.si)]:=rfl
 rw[e]
 rw[e5]at c1
 generalize zal [x.fr,x.to,x.us]=z1 at *
 generalize zbb x.cl=z2 at *
 generalize zbb x.co=z3 at *
 generalize zal x.si=z4 at *
 rw[zaf (fd:=fd82) rfl]
 simp(disch:=apply zq;omega) only[go_sem,simprocAttr,↓Nat.reduceEqDiff,xx,fd82,m82,c1,c2,c3,c4]
def L27 :MC:=match m27 with| .seq _ (.seq _ (.seq _ (.seq _ (.seq _ (.seq (.seq _ (.block _ (.loop _ b))) _)))))=>b|_=>.skip
def L27b :MC:=match m27 with| .seq _ (.seq _ (.seq _ (.seq _ (.seq _ (.seq _ (.seq _ (.seq (.seq _ (.block _ (.loop _ b))) _)))))))=>b|_=>.skip
def L27c :MC:=match m27 with| .seq _ (.seq _ (.seq _ (.seq _ (.seq _ (.seq _ (.seq _ (.seq _ (.seq _ (.seq _ (.seq _ (.seq (.seq _ (.block _ (.loop _ b))) _)))))))))))=>b|_=>.skip
def S27 (x:Re)(s:Int)(q:List (List UInt8))(i:Nat):St:=⟨[.set 5 (i64 i),.set 4 (.sl 5004 [] 0 q.length),.set 3 (i64 s),.set 1 (.ptr 1 [])],[(1,.fix sRe (reAV x)),(5004,gw q)]⟩
def S27b (x:Re)(s:Int)(q:List (List UInt8))(i:Nat):St:=⟨[.set 6 (i64 i),.set 4 (.sl 5004 [] 0 q.length),.set 3 (i64 s),.set 1 (.ptr 1 [])],[(1,.fix sRe (reAV x)),(5004,gw q)]⟩
def S27c (x:Re)(q:List (List UInt8))(i:Nat):St:=⟨[.set 8 (i64 i),.set 7 (.ptr 7 []),.set 4 (.sl 5004 [] 0 q.length),.set 1 (.ptr 1 [])],[(7,.fix sRl (rlAV x.rl)),(1,.fix sRe (reAV x)),(5004,gw q)]⟩
theorem qc9 {d:Nat}(x:Re)(s:Int){q:List (List UInt8)}(hq:q.length<=900)(i:Nat)(hh:x.hs.length<=10)(hi:i<x.hs.length) :
  zbm [.slot 1,.slot 3,.own 4 5004 .sc,.slot 5,.key 1] (evC gl (call gl tab d) L27 (S27 x s q i))=some (S27 x s (q++hrP (hat x.hs i)) (i+1)):=by
 have hx:=zut hi
 have hcl:=zc8 x.hs
 have lq:=zaa q
 have hL:q.length+2<=LIM:=by unfold LIM;omega
 have e:hrP (hat x.hs i)=[(hat x.hs i).n,(hat x.hs i).v]:=rfl
 rw[S27,S27,e]
 unfold gw
 generalize hat x.hs i=y at *
 simp(disch:=apply zq;omega) only[go_sem,simprocAttr,↓Nat.reduceEqDiff,xx,L27,m27,hx,hcl,lq,hL,sn2,zaa]
theorem z8k {d:Nat}(hd:6<=d)(x:Re)(s:Int){q:List (List UInt8)}(hq:q.length<=900)(i:Nat)(hh:x.tk.cs.length<=10)(hc:∀y∈x.tk.cs,CdOk y)(hi:i<x.tk.cs.length) :
  zbm [.slot 1,.slot 3,.own 4 5004 .sc,.slot 6,.key 1] (evC gl (call gl tab d) L27b (S27b x s q i))=some (S27b x s (q++cdP (cat x.tk.cs i)) (i+1)):=by
 have hx:=zvm hi
 have hcl:=zct x.tk.cs
 have lq:=zaa q
 have hL:q.length+5<=LIM:=by unfold LIM;omega
 have c:=@zt7 gl d hd _ (hc _ (ztg hi))
 have lc:(cdP (cat x.tk.cs i)).length=5:=rfl
 have ls:=zaa (cdP (cat x.tk.cs i))
 rw[lc]at ls
 rw[S27b,S27b]
 unfold gw
 generalize cdP (cat x.tk.cs i)=z at *
 generalize cat x.tk.cs i=y at *
 simp(disch:=apply zq;omega) only[go_sem,simprocAttr,↓Nat.reduceEqDiff,xx,L27b,m27,hx,hcl,lq,hL,c,sna,zaa,ls,lc]
theorem z8j {d:Nat}(hd:6<=d)(x:Re){q:List (List UInt8)}(hq:q.length<=900)(i:Nat)(hh:x.rl.vy.length<=10)(hc:∀y∈x.rl.vy,Sml y.v)(hi:i<x.rl.vy.length) :
  zbm [.slot 1,.own 4 5004 .sc,.slot 7,.slot 8,.key 1,.key 7] (evC gl (call gl tab d) L27c (S27c x q i))=some (S27c x (q++vyP (vat x.rl.vy i)) (i+1)):=by
 have hx:=ztp hi
 have hcl:=zcr x.rl.vy
 have lq:=zaa q
 have hL:q.length+3<=LIM:=by unfold LIM;omega
 have c:=@zo7 gl d (by omega) false _ (hc _ (zkv hi))
 have e:vyP (vat x.rl.vy i)=[(vat x.rl.vy i).h,(vat x.rl.vy i).d,zbb (vat x.rl.vy i).v]:=rfl
 rw[S27c,S27c,e]
 unfold gw
 generalize zbb (vat x.rl.vy i).v=z at *
 generalize vat x.rl.vy i=y at *
 simp(disch:=apply zq;omega) only[go_sem,simprocAttr,↓Nat.reduceEqDiff,xx,L27c,m27,hx,hcl,lq,hL,c,sn3,zaa]
end Go.Proofs.S44.L
namespace Go.Proofs.S44.L
open Go Go.Ev Go.Proofs Go.Proofs.S44
open Go.Proofs.S44.H (strsAV zaa zaj Sml GlK GlR zal zbk nsI zak zint zat encB zaw zae)
variable {gl :Gl} {n:Nat}
theorem zo8 {a b:Nat}(h:a<=400)(h2:b<=400):a+b<=LIM:=by unfold LIM;omega
theorem zyz (h:9<=n){x:Re}(hx:ReOk x):call gl tab n 27 [reAV x] []=some (.lst false .sc (strsAV (reP x)),[],[]):=by
 obtain⟨d,rfl⟩:=wA h
 have hh:=hx.h
 have tc:=hx.t.cl
 have rt:=hx.r.t
 have rv:=hx.r.v
 have c1:=@znh gl (d+8) (by omega) false _ hx.i
 have c2:=@znh gl (d+8) (by omega) false _ hx.a
 have c3:=@znh gl (d+8) (by omega) false _ hx.t.i
 have c4:=@znh gl (d+8) (by omega) false _ hx.r.i
 have c5:=@zt7 gl (d+8) (by omega) _ hx.r.a
 have c6:=@z81 gl (d+8) (by omega) _ hx.s
 have c7:=@z87 gl (d+8) (by omega) _ hx.l
 have e4:strsAV (p1 x)=[.str (zal (nmS x)),.str x.dat,.str x.pol,.str x.ad,.str x.cl,.str x.co,.str (zal [x.sx,x.lo,x.hi])]:=rfl
 have p4:(p1 x).length=7:=rfl
 have e5:nsI (nmS x)=[i64 x.site,i64 x.seq,i64 x.mo,i64 x.fr,i64 x.to,i64 x.he,i64 x.ca,i64 x.us,i64 x.hs.length,i64 x.tk.cs.length,i64 x.rl.tg.length,i64 x.rl.vy.length]:=rfl
 have e6:nsI [x.sx,x.lo,x.hi]=[i64 x.sx,i64 x.lo,i64 x.hi]:=rfl
 have e7:nsI [x.tk.cu,x.tk.se]=[i64 x.tk.cu,i64 x.tk.se]:=rfl
 have e8:nsI [x.rl.fr,x.rl.sl,x.rl.dn,x.rl.ng,fl x.rl.sg,x.rl.co]=[i64 x.rl.fr,i64 x.rl.sl,i64 x.rl.dn,i64 x.rl.ng,i64 (fl x.rl.sg),i64 x.rl.co]:=rfl
 rw[e5]at c1
 rw[e6]at c2
 rw[e7]at c3
 rw[e8]at c4
 have u1:=b16 hx.d
 have u2:=b16 hx.p
 have u3:=b16 hx.t.s
 have u4:=b16 hx.s.r
 have u5:=b16 hx.s.s
 have u6:=b16 hx.l.s
 have t1:=b16t hx.d
 have t2:=b16t hx.p
 have t3:=b16t hx.t.s
 have t5:=b16t hx.s.s
 have t6:=b16t hx.l.s
 have w1:=H.bytes_all x.dat
 have w2:=H.bytes_all x.pol
 have w3:=H.bytes_all x.tk.sgn
 have w4:=H.bytes_all x.sp.body
 have w5:=H.bytes_all x.sp.sgn
 have w6:=H.bytes_all x.le.sgn
 have g1:=zc8 x.hs
 have g2:=zct x.tk.cs
 have g3:=zaa x.rl.tg
 have g4:=zcr x.rl.vy
 have er:reP x=p1 x++hsP x.hs x.hs.length++[zal [x.tk.cu,x.tk.se],x.tk.id,x.tk.sgn]++csP x.tk.cs x.tk.cs.length++[x.rl.nm,x.rl.pat,x.rl.pr,zal [x.rl.fr,x.rl.sl,x.rl.dn,x.rl.ng,fl x.rl.sg,x.rl.co]]++x.rl.tg++vsP x.rl.vy x.rl.vy.length++cdP x.rl.al++spP x.sp++[x.sp.sgn]++leP x.le++[x.le.sgn]:=by
  simp[reP,tkP,rlP]
 rw[er]
 have hl1:=zh1 (l:=x.hs) (wB _)
 have hl2:=zmh (l:=x.tk.cs) (wB _)
 have hl3:=zi1 (l:=x.rl.vy) (wB _)
 obtain⟨Qa,hQa⟩:∃Q:Nat->List (List UInt8),∀i,Q i=p1 x++hsP x.hs i:=⟨_,fun _=>rfl⟩
 obtain⟨Qb,hQb⟩:∃Q:Nat->List (List UInt8),∀i,Q i=Qa x.hs.length++[zal [x.tk.cu,x.tk.se],x.tk.id,x.tk.sgn]++csP x.tk.cs i:=⟨_,fun _=>rfl⟩
 obtain⟨Qc,hQc⟩:∃Q:Nat->List (List UInt8),∀i,Q i=Qb x.tk.cs.length++[x.rl.nm,x.rl.pat,x.rl.pr,zal [x.rl.fr,x.rl.sl,x.rl.dn,x.rl.ng,fl x.rl.sg,x.rl.co]]++x.rl.tg++vsP x.rl.vy i:=⟨_,fun _=>rfl⟩
 have la:∀i,i<=x.hs.length->(Qa i).length=7+2*i:=fun i hi=>by rw[hQa,wC,p4,zh1 hi]
 have lb:∀i,i<=x.tk.cs.length->(Qb i).length=7+2*x.hs.length+3+5*i:=fun i hi=>by
  rw[hQb,wC,wC,la _ (wB _),zmh hi];rfl
 have lc:∀i,i<=x.rl.vy.length->(Qc i).length=7+2*x.hs.length+3+5*x.tk.cs.length+4+x.rl.tg.length+3*i:=fun i hi=>by
  rw[hQc,wC,wC,wC,lb _ (wB _),zi1 hi];rfl
 have sa:∀i,i<x.hs.length->zbm [.slot 1,.slot 3,.own 4 5004 .sc,.slot 5,.key 1] (evC gl (call gl tab (d+8)) L27 (S27 x (fl x.rl.sg) (Qa i) i))=some (S27 x (fl x.rl.sg) (Qa (i+1)) (i+1)):=fun i hi=>by
  rw[hQa (i+1),qam hi,<-wD,<-hQa i]
  exact qc9 _ _ (by rw[la _ (by omega)];omega) i hh hi
 have sb:∀i,i<x.tk.cs.length->zbm [.slot 1,.slot 3,.own 4 5004 .sc,.slot 6,.key 1] (evC gl (call gl tab (d+8)) L27b (S27b x (fl x.rl.sg) (Qb i) i))=some (S27b x (fl x.rl.sg) (Qb (i+1)) (i+1)):=fun i hi=>by
  rw[hQb (i+1),qbf hi,<-wD,<-hQb i]
  exact z8k (by omega) _ _ (by rw[lb _ (by omega)];omega) i (by omega) hx.t.c hi
 have sc:∀i,i<x.rl.vy.length->zbm [.slot 1,.own 4 5004 .sc,.slot 7,.slot 8,.key 1,.key 7] (evC gl (call gl tab (d+8)) L27c (S27c x (Qc i) i))=some (S27c x (Qc (i+1)) (i+1)):=fun i hi=>by
  rw[hQc (i+1),z71 hi,<-wD,<-hQc i]
  exact z8j (by omega) _ (by rw[lc _ (by omega)];omega) i (by omega) hx.r.vv hi
 simp only[L27,L27b,L27c,m27]at sa sb sc
 have a0:Qa 0=p1 x:=by rw[hQa,qao,wE]
 have b0:Qb 0=Qa x.hs.length++[zal [x.tk.cu,x.tk.se],x.tk.id,x.tk.sgn]:=by rw[hQb,qbh,wE]
 have c0:Qc 0=Qb x.tk.cs.length++[x.rl.nm,x.rl.pat,x.rl.pr,zal [x.rl.fr,x.rl.sl,x.rl.dn,x.rl.ng,fl x.rl.sg,x.rl.co]]++x.rl.tg:=by rw[hQc,z73,wE]
 have ra:=la _ (wB _)
 have rb:=lb _ (wB _)
 have rc:=lc _ (wB _)
 rw[<-hQa,<-hQb,<-hQc]
 clear hQa hQb hQc la lb lc er
 have lc5:(cdP x.rl.al).length=5:=rfl
 have lc6:(spP x.sp).length=5:=rfl
 have lc7:(leP x.le).length=1:=rfl
 rw[zaf (fd:=fd27) rfl]
 generalize hqa:Qa x.hs.length=qa at *
 generalize hqb:Qb x.tk.cs.length=qb at *
 generalize hqc:Qc x.rl.vy.length=qc at *
 generalize zal [x.tk.cu,x.tk.se]=z3 at *
 generalize zal [x.rl.fr,x.rl.sl,x.rl.dn,x.rl.ng,fl x.rl.sg,x.rl.co]=z4 at *
 generalize zal (nmS x)=z1 at *
 generalize zal [x.sx,x.lo,x.hi]=z2 at *
 generalize cdP x.rl.al=z5 at *
 generalize spP x.sp=z6 at *
 generalize leP x.le=z7 at *
 have k1:=zo8 (a:=qa.length) (b:=3) (by omega) (by omega)
 have k2:=zo8 (a:=qb.length) (b:=4) (by omega) (by omega)
 have k3:=zo8 (a:=qb.length+4) (b:=x.rl.tg.length) (by omega) (by omega)
 have k4:=zo8 (a:=qc.length) (b:=5) (by omega) (by omega)
 have k5:=zo8 (a:=qc.length+5) (b:=5) (by omega) (by omega)
 have k6:=zo8 (a:=qc.length+5+5) (b:=1) (by omega) (by omega)
 have k7:=zo8 (a:=qc.length+5+5+1) (b:=1) (by omega) (by omega)
 have k8:=zo8 (a:=qc.length+5+5+1+1) (b:=1) (by omega) (by omega)
 have k0:=zo8 (a:=3) (b:=4) (by omega) (by omega)
 have ta:=List.take_of_length_le (l:=strsAV (qc++z5++z6++[x.sp.sgn]++z7++[x.le.sgn])) (i:=qc.length+5+5+1+1+1) (by simp only[zaa,wC,lc5,lc6,lc7,List.length_singleton];omega)
 have key:∀s:Int,fl x.rl.sg=s->x.rl.sg=decide (s=1)->(s=0\/s=1)->finK fd27.res fd27.pk (evC gl (call gl tab (d+8)) fd27.body {fr:=frOf 0 [reAV x],hp:=[]})=some (AV.lst false .sc (strsAV (qc++z5++z6++[x.sp.sgn]++z7++[x.le.sgn])),[],[]):=fun s es eb hs=>by
  rw[es]at c4 sa sb
  rcases hs with rfl|rfl
  . have hb:x.rl.sg=false:=eb.trans (by decide)
    simp(maxSteps:=1000000) (disch:=apply zq;omega) only[go_sem,simprocAttr,↓Nat.reduceEqDiff,xx,fd27,m27,hb,e4,u1,u2,u3,u4,u5,u6,t1,t2,w1,w2,w3,w4,w5,w6,g1,g2,g3,g4,c1,c2,k0]
    rw[zam (fun i=>S27 x 0 (Qa i) i) x.hs.length (by unfold LF;omega)]
    rotate_left
    . simp only[S27,a0,gw,e4,p4];simp(disch:=apply zq;omega) only[go_sem,simprocAttr,↓Nat.reduceEqDiff,xx,g1]
    . exact sa
    . rw[S27,hqa];simp(disch:=apply zq;omega) only[go_sem,simprocAttr,↓Nat.reduceEqDiff,xx,g1]
    rw[S27,hqa]
    simp(maxSteps:=1000000) (disch:=apply zq;omega) only[go_sem,simprocAttr,↓Nat.reduceEqDiff,xx,u1,u2,u3,u4,u5,u6,t3,w1,w2,w3,w4,w5,w6,g1,g2,g3,g4,c3,k1,sn3,zaa]
    rw[zam (fun i=>S27b x 0 (Qb i) i) x.tk.cs.length (by unfold LF;omega)]
    rotate_left
    . simp only[S27b,b0];simp(disch:=apply zq;omega) only[go_sem,simprocAttr,↓Nat.reduceEqDiff,xx,g2,zaa]
    . exact sb
    . rw[S27b,hqb];simp(disch:=apply zq;omega) only[go_sem,simprocAttr,↓Nat.reduceEqDiff,xx,g2]
    rw[S27b,hqb]
    simp(maxSteps:=1000000) (disch:=apply zq;omega) only[go_sem,simprocAttr,↓Nat.reduceEqDiff,xx,hb,u1,u2,u3,u4,u5,u6,t3,w1,w2,w3,w4,w5,w6,g1,g2,g3,g4,c4,k2,k3,sn4,sna,zaa]
    rw[zam (fun i=>S27c x (Qc i) i) x.rl.vy.length (by unfold LF;omega)]
    rotate_left
    . simp only[S27c,c0];simp(disch:=apply zq;omega) only[go_sem,simprocAttr,↓Nat.reduceEqDiff,xx,hb,g4,zaa]
    . exact sc
    . rw[S27c,hqc];simp(disch:=apply zq;omega) only[go_sem,simprocAttr,↓Nat.reduceEqDiff,xx,hb,g4]
    rw[S27c,hqc]
    simp(maxSteps:=1000000) (disch:=apply zq;omega) only[go_sem,simprocAttr,↓Nat.reduceEqDiff,xx,hb,u1,u2,u3,u4,u5,u6,t5,t6,w1,w2,w3,w4,w5,w6,g1,g2,g3,g4,c5,c6,c7,k4,k5,k6,k7,k8,sn1,sna,zaa,lc5,lc6,lc7]
    rw[ta]
  . have hb:x.rl.sg=true:=eb.trans (by decide)
    simp(maxSteps:=1000000) (disch:=apply zq;omega) only[go_sem,simprocAttr,↓Nat.reduceEqDiff,xx,fd27,m27,hb,e4,u1,u2,u3,u4,u5,u6,t1,t2,w1,w2,w3,w4,w5,w6,g1,g2,g3,g4,c1,c2,k0]
    rw[zam (fun i=>S27 x 1 (Qa i) i) x.hs.length (by unfold LF;omega)]
    rotate_left
    . simp only[S27,a0,gw,e4,p4];simp(disch:=apply zq;omega) only[go_sem,simprocAttr,↓Nat.reduceEqDiff,xx,g1]
    . exact sa
    . rw[S27,hqa];simp(disch:=apply zq;omega) only[go_sem,simprocAttr,↓Nat.reduceEqDiff,xx,g1]
    rw[S27,hqa]
    simp(maxSteps:=1000000) (disch:=apply zq;omega) only[go_sem,simprocAttr,↓Nat.reduceEqDiff,xx,u1,u2,u3,u4,u5,u6,t3,w1,w2,w3,w4,w5,w6,g1,g2,g3,g4,c3,k1,sn3,zaa]
    rw[zam (fun i=>S27b x 1 (Qb i) i) x.tk.cs.length (by unfold LF;omega)]
    rotate_left
    . simp only[S27b,b0];simp(disch:=apply zq;omega) only[go_sem,simprocAttr,↓Nat.reduceEqDiff,xx,g2,zaa]
    . exact sb
    . rw[S27b,hqb];simp(disch:=apply zq;omega) only[go_sem,simprocAttr,↓Nat.reduceEqDiff,xx,g2]
    rw[S27b,hqb]
    simp(maxSteps:=1000000) (disch:=apply zq;omega) only[go_sem,simprocAttr,↓Nat.reduceEqDiff,xx,hb,u1,u2,u3,u4,u5,u6,t3,w1,w2,w3,w4,w5,w6,g1,g2,g3,g4,c4,k2,k3,sn4,sna,zaa]
    rw[zam (fun i=>S27c x (Qc i) i) x.rl.vy.length (by unfold LF;omega)]
    rotate_left
    . simp only[S27c,c0];simp(disch:=apply zq;omega) only[go_sem,simprocAttr,↓Nat.reduceEqDiff,xx,hb,g4,zaa]
    . exact sc
    . rw[S27c,hqc];simp(disch:=apply zq;omega) only[go_sem,simprocAttr,↓Nat.reduceEqDiff,xx,hb,g4]
    rw[S27c,hqc]
    simp(maxSteps:=1000000) (disch:=apply zq;omega) only[go_sem,simprocAttr,↓Nat.reduceEqDiff,xx,hb,u1,u2,u3,u4,u5,u6,t5,t6,w1,w2,w3,w4,w5,w6,g1,g2,g3,g4,c5,c6,c7,k4,k5,k6,k7,k8,sn1,sna,zaa,lc5,lc6,lc7]
    rw[ta]
 cases hb:x.rl.sg
 . exact key 0 (by rw[hb];rfl) (by rw[hb];rfl) (.inl rfl)
 . exact key 1 (by rw[hb];rfl) (by rw[hb];rfl) (.inr rfl)
end Go.Proofs.S44.L
namespace Go.Proofs.S44.L
open Go Go.Ev Go.Proofs Go.Proofs.S44
open Go.Proofs.S44.H (strsAV zaa zaj Sml GlK GlR zal zbk nsI zak zint zat encB zaw zae)
variable {gl :Gl} {n:Nat}
abbrev ML :Nat:=9223372036854775807
def sat (l:List (List UInt8))(i:Nat):List UInt8:=l.getD i []
theorem zi3 {l:List (List UInt8)}{i:Nat}(h:i<l.length):(strsAV l)[i]? =some (.str (sat l i)):=by simp[H.strsAV,sat,h]
theorem zyv {l:List (List UInt8)}{i:Nat}(h:i<l.length):sat l i∈l:=by
 rw[show sat l i=l[i] by simp[sat,h]];exact List.getElem_mem h
theorem z9z {l:List (List UInt8)}{x:List UInt8}(h:x∈l):∃i,i<l.length/\sat l i=x:=by
 obtain⟨i,hi,rfl⟩:=List.getElem_of_mem h
 exact⟨i,hi,by simp[sat,hi]⟩
def L98 :MC:=match m98 with| .seq _ (.seq (.seq _ (.block _ (.loop _ b))) _)=>b|_=>.skip
def S98 (f:Bool)(l:List (List UInt8))(k:Int)(i:Nat):St:=⟨[.set 5 (i64 i),.set 1 (i64 k),.set 0 (.lst f .sc (strsAV l))],[]⟩
def Fw (l:List (List UInt8))(k:Nat):Prop:=(∀x∈l,x.length<=200)/\l.length<=k
theorem zt0 (h:1<=n)(f:Bool){l:List (List UInt8)}{k:Nat}(hk:k<=1000)(hl:l.length<=ML)(hb:∀x∈l,x.length<=ML) :
  ∃b:Bool,(b=true↔Fw l k)/\call gl tab n 98 [.lst f .sc (strsAV l),i64 k] []=some (.bool b,[],[]):=by
 obtain⟨d,rfl⟩:=wA h
 unfold ML at *
 have hs:∀i,i<l.length->(sat l i).length<=200->zbm [.slot 0,.slot 1,.slot 5] (evC gl (call gl tab d) L98 (S98 f l k i))=some (S98 f l k (i+1)):=fun i hi hp=>by
  have hx:=zi3 hi
  simp(disch:=apply zq;omega) only[go_sem,simprocAttr,↓Nat.reduceEqDiff,xx,L98,m98,S98,zaa,hx]
 have hf:∀i,i<l.length->¬(sat l i).length<=200->out1 4 (evC gl (call gl tab d) L98 (S98 f l k i))=some (.ret,.bool false):=fun i hi hp=>by
  have hx:=zi3 hi
  have:=hb _ (zyv hi)
  simp(disch:=apply zq;omega) only[go_sem,simprocAttr,↓Nat.reduceEqDiff,xx,L98,m98,S98,zaa,hx]
 rw[zaf (fd:=fd98) rfl]
 rcases zc9 (fun i=>(sat l i).length<=200) l.length with ha|⟨q,hq,hb',he⟩
 . refine⟨decide ((l.length:Int)<=k),?_,?_⟩
   . rw[decide_eq_true_eq]
     refine⟨fun h=>⟨fun x hx=> ?_,by omega⟩,fun h=>by have:=h.2;omega⟩
     obtain⟨i,hi,rfl⟩:=z9z hx
     exact ha i hi
   have hs2:=fun i hi=>hs i hi (ha i hi)
   simp only[L98,m98]at hs2
   simp(disch:=apply zq;omega) only[go_sem,simprocAttr,↓Nat.reduceEqDiff,xx,fd98,m98]
   rw[zam (S98 f l k) l.length (by unfold LF;omega)]
   . simp(disch:=apply zq;omega) only[go_sem,simprocAttr,↓Nat.reduceEqDiff,xx,S98,zaa]
   . simp(disch:=apply zq;omega) only[go_sem,simprocAttr,↓Nat.reduceEqDiff,xx,S98,zaa]
   . exact hs2
   . simp(disch:=apply zq;omega) only[go_sem,simprocAttr,↓Nat.reduceEqDiff,xx,S98,zaa]
 . obtain⟨st,hst,hg⟩:=zeu (hf q hq he)
   have hs2:=fun i (hi:i<q)=>hs i (by omega) (hb' i hi)
   simp only[L98,m98]at hs2 hst
   refine⟨false,⟨(fun h=>by cases h),fun h=>absurd (h.1 _ (zyv hq)) he⟩,?_⟩
   simp(disch:=apply zq;omega) only[go_sem,simprocAttr,↓Nat.reduceEqDiff,xx,fd98,m98]
   rw[zam (S98 f l k) q (by unfold LF;omega),hst]
   . simp(disch:=apply zq;omega) only[go_sem,simprocAttr,↓Nat.reduceEqDiff,xx,hg]
   . simp(disch:=apply zq;omega) only[go_sem,simprocAttr,↓Nat.reduceEqDiff,xx,S98]
   . exact hs2
   . rw[hst];rfl
theorem zk5 (h:2<=n)(f:Bool){l:List (List UInt8)}(hl:l.length<=ML)(hb:∀x∈l,x.length<=ML) :
  ∃b:Bool,(b=true↔Fw l 20)/\call gl tab n 44 [.lst f .sc (strsAV l)] []=some (.bool b,[],[]):=by
 obtain⟨d,rfl⟩:=wA h
 obtain⟨b,h1,c⟩:=@zt0 gl (d+1) (by omega) f l 20 (by omega) hl hb
 refine⟨b,h1,?_⟩
 have e:((20:Nat):Int)=20:=rfl
 rw[e]at c
 rw[zaf (fd:=fd44) rfl]
 simp(disch:=apply zq;omega) only[go_sem,simprocAttr,↓Nat.reduceEqDiff,xx,fd44,m44,c]
structure CdR (x:Cd):Prop where
 fr:R64 x.fr
 to:R64 x.to
 us:R64 x.us
 p:x.pat.length<=ML
 cl:x.cl.length<=ML
 cx:∀y∈x.cl,y.length<=ML
 co:x.co.length<=ML
 cy:∀y∈x.co,y.length<=ML
 si:x.si.length<=ML
 sx:∀y∈x.si,R64 y
structure CdS (x:Cd):Prop where
 p:x.pat.length<=200
 cl:Fw x.cl 20
 co:Fw x.co 20
 si:x.si.length<=64
theorem Fw.sml {l:List (List UInt8)}{k:Nat}(h:Fw l k)(hk:k<=1000):Sml l:=⟨by have:=h.2;omega,fun x hx=>by have:=h.1 x hx;omega⟩
theorem CdS.ok {x:Cd}(r:CdR x)(h:CdS x):CdOk x :=
 ⟨zbo r.fr (zbo r.to (zbo r.us zgu (by simp)) (by simp)) (by simp),h.cl.sml (by omega),h.co.sml (by omega),⟨by have:=h.si;omega,r.sx⟩⟩
theorem zu3 (h:3<=n){x:Cd}(hx:CdR x):∃b:Bool,(b=true->CdS x)/\call gl tab n 45 [cdAV x] []=some (.bool b,[],[]):=by
 obtain⟨d,rfl⟩:=wA h
 obtain⟨b1,h1,c1⟩:=@zk5 gl (d+2) (by omega) false x.cl hx.cl hx.cx
 obtain⟨b2,h2,c2⟩:=@zk5 gl (d+2) (by omega) false x.co hx.co hx.cy
 have hp:=hx.p
 have hs:=hx.si
 have hl:=zak x.si
 unfold ML at *
 refine⟨decide (x.pat.length<=200)&&(b1&&(b2&&decide (x.si.length<=64))),fun hb=> ?_,?_⟩
 . simp only[Bool.and_eq_true,decide_eq_true_eq]at hb
   exact⟨hb.1,h1.1 hb.2.1,h2.1 hb.2.2.1,hb.2.2.2⟩
 . clear h1 h2
   rw[zaf (fd:=fd45) rfl]
   by_cases k1:x.pat.length<=200
   . rw[decide_eq_true k1]
     cases b1
     . simp(disch:=apply zq;omega) only[go_sem,simprocAttr,↓Nat.reduceEqDiff,xx,fd45,m45,c1,hl]
     . cases b2
       . simp(disch:=apply zq;omega) only[go_sem,simprocAttr,↓Nat.reduceEqDiff,xx,fd45,m45,c1,c2,hl]
       . by_cases k2:x.si.length<=64
         . rw[decide_eq_true k2];simp(disch:=apply zq;omega) only[go_sem,simprocAttr,↓Nat.reduceEqDiff,xx,fd45,m45,c1,c2,hl]
         . rw[decide_eq_false k2];simp(disch:=apply zq;omega) only[go_sem,simprocAttr,↓Nat.reduceEqDiff,xx,fd45,m45,c1,c2,hl]
   . rw[decide_eq_false k1];simp(disch:=apply zq;omega) only[go_sem,simprocAttr,↓Nat.reduceEqDiff,xx,fd45,m45,hl]
structure SpB (x:Sp):Prop where
 a:x.addr.length<=ML
 v:x.var.length<=ML
 t:x.tags.length<=ML
structure SpS (x:Sp):Prop where
 a:x.addr.length<=200
 v:x.var.length<=200
 t:x.tags.length<=200
theorem z8v (h:2<=n){x:Sp}(hx:SpOk x)(hb:SpB x):∃b:Bool,(b=true->SpS x)/\call gl tab n 46 [spAV x] []=some (.bool b,[],[]):=by
 obtain⟨d,rfl⟩:=wA h
 obtain⟨b,hbb,c⟩:=@zt0 gl (d+1) (by omega) false [x.addr,x.var,x.tags] 3 (by omega) (show 3<=ML by decide) (fun y hy=>by
  simp at hy
  rcases hy with rfl|rfl|rfl
  . exact hb.a
  . exact hb.v
  . exact hb.t)
 have q0:=H.bytes_all x.sgn
 have q1:=H.bytes_all x.body
 have e:((3:Nat):Int)=3:=rfl
 rw[e]at c
 refine⟨b,fun hh=> ?_,?_⟩
 . have h1:=(hbb.1 hh).1
   exact⟨h1 _ (by simp),h1 _ (by simp),h1 _ (by simp)⟩
 . simp only[H.strsAV,List.map_cons,List.map_nil]at c
   rw[zaf (fd:=fd46) rfl]
   simp(disch:=apply zq;omega) only[go_sem,simprocAttr,↓Nat.reduceEqDiff,xx,fd46,m46,c,hx.s,hx.r,q0,q1]
end Go.Proofs.S44.L
