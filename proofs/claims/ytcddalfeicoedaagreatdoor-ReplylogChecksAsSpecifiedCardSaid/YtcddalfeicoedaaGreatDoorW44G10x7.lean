/-
  Chapter 44: the parts of a reply, and its leaf. No condition.
-/
import Derived.Test.YtcddalfeicoedaaGreatDoorW44G9x7
set_option linter.unusedVariables false
set_option linter.unusedSimpArgs false
set_option linter.unusedSectionVars false
namespace Go.Proofs.S44.L
open Go Go.Ev Go.Proofs Go.Proofs.S44
open Go.Proofs.S44.H (strsAV zab zan Sml GlK GlR zaj zbr nsI zak zint zav encB za1 zaf)
variable {gl :Gl} {n:Nat}
theorem zk8 (x:Sp):(spP x).length=5:=rfl
theorem leP_len (x:Le):(leP x).length=1:=rfl
theorem tkP_len (x:Tk):(tkP x).length=3+5*x.cs.length:=by
 rw[tkP,List.length_append,csP_len (Nat.le_refl _)];rfl
theorem rlP_len (x:Rl):(rlP x).length=9+x.tg.length+3*x.vy.length:=by
 unfold rlP
 rw[List.length_append,List.length_append,List.length_append,List.length_append,zi7 (Nat.le_refl _)]
 show 3+1+x.tg.length+3*x.vy.length+5=_
 omega
theorem p1_len (x:Re):(p1 x).length=7:=rfl
theorem parts_at (h:9<=n){x:Re}(hx:ReOk x):call gl tab n 24 [reAV x] []=some (.lst false .sc (strsAV (reP x)),[],[]):=by
 obtain⟨d,rfl⟩:=Nat.exists_eq_add_of_le' h
 have hh:=hx.h
 have tl:=tkP_len x.tk
 have rl:=rlP_len x.rl
 have tc:=hx.t.cl
 have rt:=hx.r.t
 have rv:=hx.r.v
 have hl:=zh7 (l:=x.hs) (Nat.le_refl _)
 have c1:=@ints_0 gl (d+8) (by omega) _ hx.i 12 rfl
 have c2:=@zid gl (d+8) (by omega) [zaj (nmS x)] [x.dat,x.pol,x.ad,x.cl,x.co] (by simp) (by simp) (by simp) 5 rfl
 have c3:=@ints_o gl (d+8) (by omega) ([zaj (nmS x)]++[x.dat,x.pol,x.ad,x.cl,x.co]) _ (by simp) (by simp) hx.a 3 rfl
 have e1:[zaj (nmS x)]++[x.dat,x.pol,x.ad,x.cl,x.co]++[zaj [x.sx,x.lo,x.hi]]=p1 x:=rfl
 rw[e1]at c3
 have pl:=p1_len x
 have a1:(p1 x++hsP x.hs x.hs.length).length=7+2*x.hs.length:=by rw[List.length_append];omega
 have a2:(p1 x++hsP x.hs x.hs.length++tkP x.tk).length<=100:=by rw[List.length_append];omega
 have a3:(p1 x++hsP x.hs x.hs.length++tkP x.tk++rlP x.rl).length<=200:=by rw[List.length_append];omega
 have a4:(p1 x++hsP x.hs x.hs.length++tkP x.tk++rlP x.rl++spP x.sp).length<=210:=by rw[List.length_append,zk8];omega
 have a5:(p1 x++hsP x.hs x.hs.length++tkP x.tk++rlP x.rl++spP x.sp++[x.sp.sgn]).length<=220:=by rw[List.length_append,List.length_singleton];omega
 have a6:(p1 x++hsP x.hs x.hs.length++tkP x.tk++rlP x.rl++spP x.sp++[x.sp.sgn]++leP x.le).length<=230:=by rw[List.length_append,leP_len];omega
 have z0:(p1 x++hsP x.hs x.hs.length).length≠0:=by rw[a1];omega
 have z2:(p1 x++hsP x.hs x.hs.length++tkP x.tk).length≠0:=by rw[List.length_append,a1];omega
 have z3:(p1 x++hsP x.hs x.hs.length++tkP x.tk++rlP x.rl).length≠0:=by rw[List.length_append];omega
 have z4:(p1 x++hsP x.hs x.hs.length++tkP x.tk++rlP x.rl++spP x.sp).length≠0:=by rw[List.length_append];omega
 have z5:(p1 x++hsP x.hs x.hs.length++tkP x.tk++rlP x.rl++spP x.sp++[x.sp.sgn]).length≠0:=by rw[List.length_append];omega
 have z6:(p1 x++hsP x.hs x.hs.length++tkP x.tk++rlP x.rl++spP x.sp++[x.sp.sgn]++leP x.le).length≠0:=by rw[List.length_append];omega
 have c4:=@token_at gl (d+8) (by omega) _ _ hx.t z0 (by omega)
 have c5:=@rule_at gl (d+8) (by omega) _ _ hx.r z2 (by omega)
 have k1:=@spP_at gl (d+8) (by omega) x.sp hx.s
 have c6:=@add_l gl (d+8) (by omega) false _ (spP x.sp) z3 (by omega) (by rw[zk8];omega)
 have c7:=@zid gl (d+8) (by omega) _ [x.sp.sgn] z4 (by omega) (by simp) 1 rfl
 have k2:=@leP_at gl (d+8) (by omega) x.le hx.l
 have c8:=@add_l gl (d+8) (by omega) false _ (leP x.le) z5 (by omega) (by rw[leP_len];omega)
 have c9:=@zid gl (d+8) (by omega) _ [x.le.sgn] z6 (by omega) (by simp) 1 rfl
 have er:reP x=p1 x++hsP x.hs x.hs.length++tkP x.tk++rlP x.rl++spP x.sp++[x.sp.sgn]++leP x.le++[x.le.sgn]:=rfl
 rw[er]
 rw[zad (fd:=fd24) rfl]
 have u1:=b16 hx.d
 have u2:=b16 hx.p
 have u3:=b16 hx.t.s
 have u4:=b16 hx.s.r
 have u5:=b16 hx.s.s
 have u6:=b16 hx.l.s
 have t1:=b16t hx.d
 have t2:=b16t hx.p
 have t5:=b16t hx.s.s
 have t6:=b16t hx.l.s
 have w1:=H.bytes_all x.dat
 have w2:=H.bytes_all x.pol
 have w3:=H.bytes_all x.tk.sgn
 have w4:=H.bytes_all x.sp.body
 have w5:=H.bytes_all x.sp.sgn
 have w6:=H.bytes_all x.le.sgn
 have e4:strsAV [x.dat,x.pol,x.ad,x.cl,x.co]=[.str x.dat,.str x.pol,.str x.ad,.str x.cl,.str x.co]:=rfl
 have e5:nsI (nmS x)=[i64 x.site,i64 x.seq,i64 x.mo,i64 x.fr,i64 x.to,i64 x.he,i64 x.ca,i64 x.us,i64 x.hs.length,i64 x.tk.cs.length,i64 x.rl.tg.length,i64 x.rl.vy.length]:=rfl
 have e6:nsI [x.sx,x.lo,x.hi]=[i64 x.sx,i64 x.lo,i64 x.hi]:=rfl
 have e7:strsAV [x.sp.sgn]=[.str x.sp.sgn]:=rfl
 have e8:strsAV [x.le.sgn]=[.str x.le.sgn]:=rfl
 have g1:=zdb x.hs
 have g2:=zct x.tk.cs
 have g3:=zab x.rl.tg
 have g4:=zcr x.rl.vy
 obtain⟨Q,hQ⟩:∃Q:Nat->List (List UInt8),∀i,Q i=p1 x++hsP x.hs i:=⟨_,fun _=>rfl⟩
 have st:∀i,i<x.hs.length->zbm [.slot 1,.slot 3,.slot 4,.slot 83,.slot 84,.slot 85,.key 1,.key 9,.mv 9 [0] 6090] (evC gl (call gl tab (d+8)) L24 (S24 false x x.hs (Q i) i))=some (S24 false x x.hs (Q (i+1)) (i+1)):=fun i hi=>by
  have hc:=zh7 (l:=x.hs) (i:=i) (by omega)
  rw[hQ (i+1),hsP_s hi,<-List.append_assoc,<-hQ i]
  exact step24 (by omega) false _ (by omega) (by rw[hQ,List.length_append];omega) (by rw[hQ,List.length_append];omega) i hi
 simp only[L24,m24]at st
 have Q0:Q 0=p1 x:=by rw[hQ,hsP_0,List.append_nil]
 rw[<-hQ]at c4 c5 c6 c7 c8 c9 ⊢
 unfold bx gw gi at *
 rw[e4]at c2
 rw[e5]at c1
 rw[e6]at c3
 rw[e7]at c7
 rw[e8]at c9
 clear hQ e4 e5 e6 e7 e8 er e1 a1 a2 a3 a4 a5 a6 z0 z2 z3 z4 z5 z6 tl rl hl pl hx
 generalize [zaj (nmS x)]=q1 at *
 generalize q1++[x.dat,x.pol,x.ad,x.cl,x.co]=q2 at *
 generalize p1 x=q3 at *
 generalize hq4:Q x.hs.length=q4 at *
 generalize q4++tkP x.tk=q5 at *
 generalize q5++rlP x.rl=q6 at *
 generalize q6++spP x.sp=q7 at *
 generalize q7++[x.sp.sgn]=q8 at *
 generalize q8++leP x.le=q9 at *
 generalize q9++[x.le.sgn]=qa at *
 have l1:=zab q1
 have l2:=zab q2
 have l3:=zab q3
 have l4:=zab q4
 have l5:=zab q5
 have l6:=zab q6
 have l7:=zab q7
 have l8:=zab q8
 have l9:=zab q9
 have la:=zab qa
 have s1:=zam q1
 have s2:=zam q2
 have s3:=zam q3
 have s4:=zam q4
 have s5:=zam q5
 have s6:=zam q6
 have s7:=zam q7
 have s8:=zam q8
 have s9:=zam q9
 have sa:=zam qa
 have ta:List.take qa.length (strsAV qa)=strsAV qa:=List.take_of_length_le (by omega)
 simp(maxSteps:=1000000) (disch:=(fail_if_success intro _);omega) only[go_sem,simprocAttr,↓Nat.reduceEqDiff,xx,fd24,m24,u1,u2,u3,u4,u5,u6,t1,t2,t5,t6,w1,w2,w3,w4,w5,w6,g1,g2,g3,g4,c1,c2,c3,l1,l2,l3,s1,s2,s3]
 rw[zal (fun i=>S24 false x x.hs (Q i) i) x.hs.length (by unfold LF;omega)]
 . rw[S24,hq4]
   simp(maxSteps:=1000000) (disch:=(fail_if_success intro _);omega) only[go_sem,simprocAttr,↓Nat.reduceEqDiff,xx,u1,u2,u3,u4,u5,u6,t1,t2,t5,t6,w1,w2,w3,w4,w5,w6,g1,g2,g3,g4,c4,c5,k1,c6,c7,k2,c8,c9,l4,l5,l6,l7,l8,l9,la,s4,s5,s6,s7,s8,s9,sa,ta]
 . rw[S24,Q0];simp(disch:=(fail_if_success intro _);omega) only[go_sem,simprocAttr,↓Nat.reduceEqDiff,xx,l1,l2,l3,g1]
 . exact st
 . rw[S24,hq4];simp(disch:=(fail_if_success intro _);omega) only[go_sem,simprocAttr,↓Nat.reduceEqDiff,xx,g1,l4,s4]
end Go.Proofs.S44.L
namespace Go.Proofs.S44.L
open Go Go.Ev Go.Proofs Go.Proofs.S44
open Go.Proofs.S44.H (strsAV zab zan Sml GlK GlR zaj zbr nsI zak zint zav encB za1 zaf)
variable {gl :Gl} {n:Nat}
theorem sn1 (a:List (List UInt8))(x:List UInt8):strsAV a++[.str x]=strsAV (a++[x]):=by rw[zes];rfl
theorem sn2 (a:List (List UInt8))(x y:List UInt8):strsAV a++[.str x,.str y]=strsAV (a++[x,y]):=by rw[zes];rfl
theorem sn3 (a:List (List UInt8))(x y z:List UInt8):strsAV a++[.str x,.str y,.str z]=strsAV (a++[x,y,z]):=by rw[zes];rfl
theorem sn4 (a:List (List UInt8))(x y z u:List UInt8):strsAV a++[.str x,.str y,.str z,.str u]=strsAV (a++[x,y,z,u]):=by rw[zes];rfl
theorem sna (a b:List (List UInt8)):strsAV a++strsAV b=strsAV (a++b):=(zes a b).symm
theorem rcond_at (h:6<=n){x:Cd}(hx:CdOk x):call gl tab n 82 [cdAV x] []=some (.lst false .sc (strsAV (cdP x)),[],[]):=by
 obtain⟨d,rfl⟩:=Nat.exists_eq_add_of_le' h
 have c1:=@int_at gl (d+5) (by omega) false _ hx.i
 have c2:=@list_at gl (d+5) (by omega) false x.cl hx.cl
 have c3:=@list_at gl (d+5) (by omega) false x.co hx.co
 have c4:=@int_at gl (d+5) (by omega) false _ hx.si
 have e5:nsI [x.fr,x.to,x.us]=[i64 x.fr,i64 x.to,i64 x.us]:=rfl
 have e:strsAV (cdP x)=[.str (zaj [x.fr,x.to,x.us]),.str x.pat,.str (zbc x.cl),.str (zbc x.co),.str (zaj x.si)]:=rfl
 rw[e]
 rw[e5]at c1
 generalize zaj [x.fr,x.to,x.us]=z1 at *
 generalize zbc x.cl=z2 at *
 generalize zbc x.co=z3 at *
 generalize zaj x.si=z4 at *
 rw[zad (fd:=fd82) rfl]
 simp(disch:=(fail_if_success intro _);omega) only[go_sem,simprocAttr,↓Nat.reduceEqDiff,xx,fd82,m82,c1,c2,c3,c4]
def L27 :MC:=match m27 with| .seq _ (.seq _ (.seq _ (.seq _ (.seq _ (.seq (.seq _ (.block _ (.loop _ b))) _)))))=>b|_=>.skip
def L27b :MC:=match m27 with| .seq _ (.seq _ (.seq _ (.seq _ (.seq _ (.seq _ (.seq _ (.seq (.seq _ (.block _ (.loop _ b))) _)))))))=>b|_=>.skip
def L27c :MC:=match m27 with| .seq _ (.seq _ (.seq _ (.seq _ (.seq _ (.seq _ (.seq _ (.seq _ (.seq _ (.seq _ (.seq _ (.seq (.seq _ (.block _ (.loop _ b))) _)))))))))))=>b|_=>.skip
def S27 (x:Re)(s:Int)(q:List (List UInt8))(i:Nat):St:=⟨[.set 5 (i64 i),.set 4 (.sl 5004 [] 0 q.length),.set 3 (i64 s),.set 1 (.ptr 1 [])],[(1,.fix sRe (reAV x)),(5004,gw q)]⟩
def S27b (x:Re)(s:Int)(q:List (List UInt8))(i:Nat):St:=⟨[.set 6 (i64 i),.set 4 (.sl 5004 [] 0 q.length),.set 3 (i64 s),.set 1 (.ptr 1 [])],[(1,.fix sRe (reAV x)),(5004,gw q)]⟩
def S27c (x:Re)(q:List (List UInt8))(i:Nat):St:=⟨[.set 8 (i64 i),.set 7 (.ptr 7 []),.set 4 (.sl 5004 [] 0 q.length),.set 1 (.ptr 1 [])],[(7,.fix sRl (rlAV x.rl)),(1,.fix sRe (reAV x)),(5004,gw q)]⟩
theorem step27 {d:Nat}(x:Re)(s:Int){q:List (List UInt8)}(hq:q.length<=900)(i:Nat)(hh:x.hs.length<=10)(hi:i<x.hs.length) :
  zbm [.slot 1,.slot 3,.own 4 5004 .sc,.slot 5,.key 1] (evC gl (call gl tab d) L27 (S27 x s q i))=some (S27 x s (q++hrP (hat x.hs i)) (i+1)):=by
 have hx:=hrs_at hi
 have hcl:=zdb x.hs
 have lq:=zab q
 have hL:q.length+2<=LIM:=by unfold LIM;omega
 have e:hrP (hat x.hs i)=[(hat x.hs i).n,(hat x.hs i).v]:=rfl
 rw[S27,S27,e]
 unfold gw
 generalize hat x.hs i=y at *
 simp(disch:=(fail_if_success intro _);omega) only[go_sem,simprocAttr,↓Nat.reduceEqDiff,xx,L27,m27,hx,hcl,lq,hL,sn2,zab]
theorem step27b {d:Nat}(hd:6<=d)(x:Re)(s:Int){q:List (List UInt8)}(hq:q.length<=900)(i:Nat)(hh:x.tk.cs.length<=10)(hc:∀y∈x.tk.cs,CdOk y)(hi:i<x.tk.cs.length) :
  zbm [.slot 1,.slot 3,.own 4 5004 .sc,.slot 6,.key 1] (evC gl (call gl tab d) L27b (S27b x s q i))=some (S27b x s (q++cdP (cat x.tk.cs i)) (i+1)):=by
 have hx:=cds_at hi
 have hcl:=zct x.tk.cs
 have lq:=zab q
 have hL:q.length+5<=LIM:=by unfold LIM;omega
 have c:=@rcond_at gl d hd _ (hc _ (cat_mem hi))
 have lc:(cdP (cat x.tk.cs i)).length=5:=rfl
 have ls:=zab (cdP (cat x.tk.cs i))
 rw[lc]at ls
 rw[S27b,S27b]
 unfold gw
 generalize cdP (cat x.tk.cs i)=z at *
 generalize cat x.tk.cs i=y at *
 simp(disch:=(fail_if_success intro _);omega) only[go_sem,simprocAttr,↓Nat.reduceEqDiff,xx,L27b,m27,hx,hcl,lq,hL,c,sna,zab,ls,lc]
theorem step27c {d:Nat}(hd:6<=d)(x:Re){q:List (List UInt8)}(hq:q.length<=900)(i:Nat)(hh:x.rl.vy.length<=10)(hc:∀y∈x.rl.vy,Sml y.v)(hi:i<x.rl.vy.length) :
  zbm [.slot 1,.own 4 5004 .sc,.slot 7,.slot 8,.key 1,.key 7] (evC gl (call gl tab d) L27c (S27c x q i))=some (S27c x (q++vyP (vat x.rl.vy i)) (i+1)):=by
 have hx:=vys_at hi
 have hcl:=zcr x.rl.vy
 have lq:=zab q
 have hL:q.length+3<=LIM:=by unfold LIM;omega
 have c:=@list_at gl d (by omega) false _ (hc _ (zk4 hi))
 have e:vyP (vat x.rl.vy i)=[(vat x.rl.vy i).h,(vat x.rl.vy i).d,zbc (vat x.rl.vy i).v]:=rfl
 rw[S27c,S27c,e]
 unfold gw
 generalize zbc (vat x.rl.vy i).v=z at *
 generalize vat x.rl.vy i=y at *
 simp(disch:=(fail_if_success intro _);omega) only[go_sem,simprocAttr,↓Nat.reduceEqDiff,xx,L27c,m27,hx,hcl,lq,hL,c,sn3,zab]
end Go.Proofs.S44.L
namespace Go.Proofs.S44.L
open Go Go.Ev Go.Proofs Go.Proofs.S44
open Go.Proofs.S44.H (strsAV zab zan Sml GlK GlR zaj zbr nsI zak zint zav encB za1 zaf)
variable {gl :Gl} {n:Nat}
theorem lim_s {a b:Nat}(h:a<=400)(h2:b<=400):a+b<=LIM:=by unfold LIM;omega
theorem rparts_at (h:9<=n){x:Re}(hx:ReOk x):call gl tab n 27 [reAV x] []=some (.lst false .sc (strsAV (reP x)),[],[]):=by
 obtain⟨d,rfl⟩:=Nat.exists_eq_add_of_le' h
 have hh:=hx.h
 have tc:=hx.t.cl
 have rt:=hx.r.t
 have rv:=hx.r.v
 have c1:=@int_at gl (d+8) (by omega) false _ hx.i
 have c2:=@int_at gl (d+8) (by omega) false _ hx.a
 have c3:=@int_at gl (d+8) (by omega) false _ hx.t.i
 have c4:=@int_at gl (d+8) (by omega) false _ hx.r.i
 have c5:=@rcond_at gl (d+8) (by omega) _ hx.r.a
 have c6:=@rspP_at gl (d+8) (by omega) _ hx.s
 have c7:=@rleP_at gl (d+8) (by omega) _ hx.l
 have e4:strsAV (p1 x)=[.str (zaj (nmS x)),.str x.dat,.str x.pol,.str x.ad,.str x.cl,.str x.co,.str (zaj [x.sx,x.lo,x.hi])]:=rfl
 have p4:(p1 x).length=7:=rfl
 have e5:nsI (nmS x)=[i64 x.site,i64 x.seq,i64 x.mo,i64 x.fr,i64 x.to,i64 x.he,i64 x.ca,i64 x.us,i64 x.hs.length,i64 x.tk.cs.length,i64 x.rl.tg.length,i64 x.rl.vy.length]:=rfl
 have e6:nsI [x.sx,x.lo,x.hi]=[i64 x.sx,i64 x.lo,i64 x.hi]:=rfl
 have e7:nsI [x.tk.cu,x.tk.se]=[i64 x.tk.cu,i64 x.tk.se]:=rfl
 have e8:nsI [x.rl.fr,x.rl.sl,x.rl.dn,x.rl.ng,fl x.rl.sg,x.rl.co]=[i64 x.rl.fr,i64 x.rl.sl,i64 x.rl.dn,i64 x.rl.ng,i64 (fl x.rl.sg),i64 x.rl.co]:=rfl
 rw[e5]at c1
 rw[e6]at c2
 rw[e7]at c3
 rw[e8]at c4
 have u1:=b16 hx.d
 have u2:=b16 hx.p
 have u3:=b16 hx.t.s
 have u4:=b16 hx.s.r
 have u5:=b16 hx.s.s
 have u6:=b16 hx.l.s
 have t1:=b16t hx.d
 have t2:=b16t hx.p
 have t3:=b16t hx.t.s
 have t5:=b16t hx.s.s
 have t6:=b16t hx.l.s
 have w1:=H.bytes_all x.dat
 have w2:=H.bytes_all x.pol
 have w3:=H.bytes_all x.tk.sgn
 have w4:=H.bytes_all x.sp.body
 have w5:=H.bytes_all x.sp.sgn
 have w6:=H.bytes_all x.le.sgn
 have g1:=zdb x.hs
 have g2:=zct x.tk.cs
 have g3:=zab x.rl.tg
 have g4:=zcr x.rl.vy
 have er:reP x=p1 x++hsP x.hs x.hs.length++[zaj [x.tk.cu,x.tk.se],x.tk.id,x.tk.sgn]++csP x.tk.cs x.tk.cs.length++[x.rl.nm,x.rl.pat,x.rl.pr,zaj [x.rl.fr,x.rl.sl,x.rl.dn,x.rl.ng,fl x.rl.sg,x.rl.co]]++x.rl.tg++vsP x.rl.vy x.rl.vy.length++cdP x.rl.al++spP x.sp++[x.sp.sgn]++leP x.le++[x.le.sgn]:=by
  simp[reP,tkP,rlP]
 rw[er]
 have hl1:=zh7 (l:=x.hs) (Nat.le_refl _)
 have hl2:=csP_len (l:=x.tk.cs) (Nat.le_refl _)
 have hl3:=zi7 (l:=x.rl.vy) (Nat.le_refl _)
 obtain⟨Qa,hQa⟩:∃Q:Nat->List (List UInt8),∀i,Q i=p1 x++hsP x.hs i:=⟨_,fun _=>rfl⟩
 obtain⟨Qb,hQb⟩:∃Q:Nat->List (List UInt8),∀i,Q i=Qa x.hs.length++[zaj [x.tk.cu,x.tk.se],x.tk.id,x.tk.sgn]++csP x.tk.cs i:=⟨_,fun _=>rfl⟩
 obtain⟨Qc,hQc⟩:∃Q:Nat->List (List UInt8),∀i,Q i=Qb x.tk.cs.length++[x.rl.nm,x.rl.pat,x.rl.pr,zaj [x.rl.fr,x.rl.sl,x.rl.dn,x.rl.ng,fl x.rl.sg,x.rl.co]]++x.rl.tg++vsP x.rl.vy i:=⟨_,fun _=>rfl⟩
 have la:∀i,i<=x.hs.length->(Qa i).length=7+2*i:=fun i hi=>by rw[hQa,List.length_append,p4,zh7 hi]
 have lb:∀i,i<=x.tk.cs.length->(Qb i).length=7+2*x.hs.length+3+5*i:=fun i hi=>by
  rw[hQb,List.length_append,List.length_append,la _ (Nat.le_refl _),csP_len hi];rfl
 have lc:∀i,i<=x.rl.vy.length->(Qc i).length=7+2*x.hs.length+3+5*x.tk.cs.length+4+x.rl.tg.length+3*i:=fun i hi=>by
  rw[hQc,List.length_append,List.length_append,List.length_append,lb _ (Nat.le_refl _),zi7 hi];rfl
 have sa:∀i,i<x.hs.length->zbm [.slot 1,.slot 3,.own 4 5004 .sc,.slot 5,.key 1] (evC gl (call gl tab (d+8)) L27 (S27 x (fl x.rl.sg) (Qa i) i))=some (S27 x (fl x.rl.sg) (Qa (i+1)) (i+1)):=fun i hi=>by
  rw[hQa (i+1),hsP_s hi,<-List.append_assoc,<-hQa i]
  exact step27 _ _ (by rw[la _ (by omega)];omega) i hh hi
 have sb:∀i,i<x.tk.cs.length->zbm [.slot 1,.slot 3,.own 4 5004 .sc,.slot 6,.key 1] (evC gl (call gl tab (d+8)) L27b (S27b x (fl x.rl.sg) (Qb i) i))=some (S27b x (fl x.rl.sg) (Qb (i+1)) (i+1)):=fun i hi=>by
  rw[hQb (i+1),csP_s hi,<-List.append_assoc,<-hQb i]
  exact step27b (by omega) _ _ (by rw[lb _ (by omega)];omega) i (by omega) hx.t.c hi
 have sc:∀i,i<x.rl.vy.length->zbm [.slot 1,.own 4 5004 .sc,.slot 7,.slot 8,.key 1,.key 7] (evC gl (call gl tab (d+8)) L27c (S27c x (Qc i) i))=some (S27c x (Qc (i+1)) (i+1)):=fun i hi=>by
  rw[hQc (i+1),vsP_s hi,<-List.append_assoc,<-hQc i]
  exact step27c (by omega) _ (by rw[lc _ (by omega)];omega) i (by omega) hx.r.vv hi
 simp only[L27,L27b,L27c,m27]at sa sb sc
 have a0:Qa 0=p1 x:=by rw[hQa,hsP_0,List.append_nil]
 have b0:Qb 0=Qa x.hs.length++[zaj [x.tk.cu,x.tk.se],x.tk.id,x.tk.sgn]:=by rw[hQb,csP_0,List.append_nil]
 have c0:Qc 0=Qb x.tk.cs.length++[x.rl.nm,x.rl.pat,x.rl.pr,zaj [x.rl.fr,x.rl.sl,x.rl.dn,x.rl.ng,fl x.rl.sg,x.rl.co]]++x.rl.tg:=by rw[hQc,vsP_0,List.append_nil]
 have ra:=la _ (Nat.le_refl _)
 have rb:=lb _ (Nat.le_refl _)
 have rc:=lc _ (Nat.le_refl _)
 rw[<-hQa,<-hQb,<-hQc]
 clear hQa hQb hQc la lb lc er
 have lc5:(cdP x.rl.al).length=5:=rfl
 have lc6:(spP x.sp).length=5:=rfl
 have lc7:(leP x.le).length=1:=rfl
 rw[zad (fd:=fd27) rfl]
 generalize hqa:Qa x.hs.length=qa at *
 generalize hqb:Qb x.tk.cs.length=qb at *
 generalize hqc:Qc x.rl.vy.length=qc at *
 generalize zaj [x.tk.cu,x.tk.se]=z3 at *
 generalize zaj [x.rl.fr,x.rl.sl,x.rl.dn,x.rl.ng,fl x.rl.sg,x.rl.co]=z4 at *
 generalize zaj (nmS x)=z1 at *
 generalize zaj [x.sx,x.lo,x.hi]=z2 at *
 generalize cdP x.rl.al=z5 at *
 generalize spP x.sp=z6 at *
 generalize leP x.le=z7 at *
 have k1:=lim_s (a:=qa.length) (b:=3) (by omega) (by omega)
 have k2:=lim_s (a:=qb.length) (b:=4) (by omega) (by omega)
 have k3:=lim_s (a:=qb.length+4) (b:=x.rl.tg.length) (by omega) (by omega)
 have k4:=lim_s (a:=qc.length) (b:=5) (by omega) (by omega)
 have k5:=lim_s (a:=qc.length+5) (b:=5) (by omega) (by omega)
 have k6:=lim_s (a:=qc.length+5+5) (b:=1) (by omega) (by omega)
 have k7:=lim_s (a:=qc.length+5+5+1) (b:=1) (by omega) (by omega)
 have k8:=lim_s (a:=qc.length+5+5+1+1) (b:=1) (by omega) (by omega)
 have k0:=lim_s (a:=3) (b:=4) (by omega) (by omega)
 have ta:=List.take_of_length_le (l:=strsAV (qc++z5++z6++[x.sp.sgn]++z7++[x.le.sgn])) (i:=qc.length+5+5+1+1+1) (by simp only[zab,List.length_append,lc5,lc6,lc7,List.length_singleton];omega)
 have key:∀s:Int,fl x.rl.sg=s->x.rl.sg=decide (s=1)->(s=0\/s=1)->finK fd27.res fd27.pk (evC gl (call gl tab (d+8)) fd27.body {fr:=frOf 0 [reAV x],hp:=[]})=some (AV.lst false .sc (strsAV (qc++z5++z6++[x.sp.sgn]++z7++[x.le.sgn])),[],[]):=fun s es eb hs=>by
  rw[es]at c4 sa sb
  rcases hs with rfl|rfl
  . have hb:x.rl.sg=false:=eb.trans (by decide)
    simp(maxSteps:=1000000) (disch:=(fail_if_success intro _);omega) only[go_sem,simprocAttr,↓Nat.reduceEqDiff,xx,fd27,m27,hb,e4,u1,u2,u3,u4,u5,u6,t1,t2,w1,w2,w3,w4,w5,w6,g1,g2,g3,g4,c1,c2,k0]
    rw[zal (fun i=>S27 x 0 (Qa i) i) x.hs.length (by unfold LF;omega)]
    rotate_left
    . simp only[S27,a0,gw,e4,p4];simp(disch:=(fail_if_success intro _);omega) only[go_sem,simprocAttr,↓Nat.reduceEqDiff,xx,g1]
    . exact sa
    . rw[S27,hqa];simp(disch:=(fail_if_success intro _);omega) only[go_sem,simprocAttr,↓Nat.reduceEqDiff,xx,g1]
    rw[S27,hqa]
    simp(maxSteps:=1000000) (disch:=(fail_if_success intro _);omega) only[go_sem,simprocAttr,↓Nat.reduceEqDiff,xx,u1,u2,u3,u4,u5,u6,t3,w1,w2,w3,w4,w5,w6,g1,g2,g3,g4,c3,k1,sn3,zab]
    rw[zal (fun i=>S27b x 0 (Qb i) i) x.tk.cs.length (by unfold LF;omega)]
    rotate_left
    . simp only[S27b,b0];simp(disch:=(fail_if_success intro _);omega) only[go_sem,simprocAttr,↓Nat.reduceEqDiff,xx,g2,zab]
    . exact sb
    . rw[S27b,hqb];simp(disch:=(fail_if_success intro _);omega) only[go_sem,simprocAttr,↓Nat.reduceEqDiff,xx,g2]
    rw[S27b,hqb]
    simp(maxSteps:=1000000) (disch:=(fail_if_success intro _);omega) only[go_sem,simprocAttr,↓Nat.reduceEqDiff,xx,hb,u1,u2,u3,u4,u5,u6,t3,w1,w2,w3,w4,w5,w6,g1,g2,g3,g4,c4,k2,k3,sn4,sna,zab]
    rw[zal (fun i=>S27c x (Qc i) i) x.rl.vy.length (by unfold LF;omega)]
    rotate_left
    . simp only[S27c,c0];simp(disch:=(fail_if_success intro _);omega) only[go_sem,simprocAttr,↓Nat.reduceEqDiff,xx,hb,g4,zab]
    . exact sc
    . rw[S27c,hqc];simp(disch:=(fail_if_success intro _);omega) only[go_sem,simprocAttr,↓Nat.reduceEqDiff,xx,hb,g4]
    rw[S27c,hqc]
    simp(maxSteps:=1000000) (disch:=(fail_if_success intro _);omega) only[go_sem,simprocAttr,↓Nat.reduceEqDiff,xx,hb,u1,u2,u3,u4,u5,u6,t5,t6,w1,w2,w3,w4,w5,w6,g1,g2,g3,g4,c5,c6,c7,k4,k5,k6,k7,k8,sn1,sna,zab,lc5,lc6,lc7]
    rw[ta]
  . have hb:x.rl.sg=true:=eb.trans (by decide)
    simp(maxSteps:=1000000) (disch:=(fail_if_success intro _);omega) only[go_sem,simprocAttr,↓Nat.reduceEqDiff,xx,fd27,m27,hb,e4,u1,u2,u3,u4,u5,u6,t1,t2,w1,w2,w3,w4,w5,w6,g1,g2,g3,g4,c1,c2,k0]
    rw[zal (fun i=>S27 x 1 (Qa i) i) x.hs.length (by unfold LF;omega)]
    rotate_left
    . simp only[S27,a0,gw,e4,p4];simp(disch:=(fail_if_success intro _);omega) only[go_sem,simprocAttr,↓Nat.reduceEqDiff,xx,g1]
    . exact sa
    . rw[S27,hqa];simp(disch:=(fail_if_success intro _);omega) only[go_sem,simprocAttr,↓Nat.reduceEqDiff,xx,g1]
    rw[S27,hqa]
    simp(maxSteps:=1000000) (disch:=(fail_if_success intro _);omega) only[go_sem,simprocAttr,↓Nat.reduceEqDiff,xx,u1,u2,u3,u4,u5,u6,t3,w1,w2,w3,w4,w5,w6,g1,g2,g3,g4,c3,k1,sn3,zab]
    rw[zal (fun i=>S27b x 1 (Qb i) i) x.tk.cs.length (by unfold LF;omega)]
    rotate_left
    . simp only[S27b,b0];simp(disch:=(fail_if_success intro _);omega) only[go_sem,simprocAttr,↓Nat.reduceEqDiff,xx,g2,zab]
    . exact sb
    . rw[S27b,hqb];simp(disch:=(fail_if_success intro _);omega) only[go_sem,simprocAttr,↓Nat.reduceEqDiff,xx,g2]
    rw[S27b,hqb]
    simp(maxSteps:=1000000) (disch:=(fail_if_success intro _);omega) only[go_sem,simprocAttr,↓Nat.reduceEqDiff,xx,hb,u1,u2,u3,u4,u5,u6,t3,w1,w2,w3,w4,w5,w6,g1,g2,g3,g4,c4,k2,k3,sn4,sna,zab]
    rw[zal (fun i=>S27c x (Qc i) i) x.rl.vy.length (by unfold LF;omega)]
    rotate_left
    . simp only[S27c,c0];simp(disch:=(fail_if_success intro _);omega) only[go_sem,simprocAttr,↓Nat.reduceEqDiff,xx,hb,g4,zab]
    . exact sc
    . rw[S27c,hqc];simp(disch:=(fail_if_success intro _);omega) only[go_sem,simprocAttr,↓Nat.reduceEqDiff,xx,hb,g4]
    rw[S27c,hqc]
    simp(maxSteps:=1000000) (disch:=(fail_if_success intro _);omega) only[go_sem,simprocAttr,↓Nat.reduceEqDiff,xx,hb,u1,u2,u3,u4,u5,u6,t5,t6,w1,w2,w3,w4,w5,w6,g1,g2,g3,g4,c5,c6,c7,k4,k5,k6,k7,k8,sn1,sna,zab,lc5,lc6,lc7]
    rw[ta]
 cases hb:x.rl.sg
 . exact key 0 (by rw[hb];rfl) (by rw[hb];rfl) (.inl rfl)
 . exact key 1 (by rw[hb];rfl) (by rw[hb];rfl) (.inr rfl)
end Go.Proofs.S44.L
