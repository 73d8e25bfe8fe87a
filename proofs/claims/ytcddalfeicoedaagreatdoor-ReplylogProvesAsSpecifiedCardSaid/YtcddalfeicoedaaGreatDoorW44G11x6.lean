/-
  Chapter 44: leaves and data. No condition.
-/
import Derived.Test.YtcddalfeicoedaaGreatDoorW44G10x6
set_option linter.all false
open List renaming length_append->wA,mem_cons->wB,not_mem_nil->wC,mem_of_mem_take->wD,mem_flatten->wE,cons_append->wF,nil_append->wG,mem_map->wH,length_singleton->wI,getElem_mem->wJ,mem_append->wK
namespace Go.Proofs.S44.L
open Go Go.Ev Go.Proofs Go.Proofs.S44
open Go.Proofs.S44.H (strsAV zaa zal Sml GlK GlR zaj zbq nsI zam zint zay encB za0 zaf)
variable {gl :Gl} {n:Nat}
theorem fw_z {l:List (List UInt8)}(h:Fw l 20):(zbd l).length<=4300:=by
 have key:∀i,i<=l.length->(spre l i).length<=10+210*i:=by
  intro i
  induction i with
  | zero=>intro _;rw[zqo];have:=zay l.length;omega
  | succ i ih =>
    intro hi
    have h1:=ih (by omega)
    have h2:=za0 l[i]
    have h3:=h.1 l[i] (wJ (by omega))
    rw[zqn (by omega),wA];omega
 have h1:=key _ (Nat.le_refl _)
 have h2:=h.2
 rw[zhb]at h1;omega
theorem zi_z {l:List Int}(h:l.length<=64):(zaj l).length<=4300:=by
 have:=@H.zints_len l
 omega
theorem qha {x:Cd}(h:CdS x):∀y∈cdP x,y.length<=4300:=by
 intro y hy
 simp only[cdP,wB,wC,or_false]at hy
 rcases hy with rfl|rfl|rfl|rfl|rfl
 . exact zi_z (by simp)
 . have:=h.p;omega
 . exact fw_z h.cl
 . exact fw_z h.co
 . exact zi_z h.si
theorem qcn {l:List Cd}{i:Nat}{y:List UInt8}(h:y∈csP l i):∃z∈l,y∈cdP z:=by
 simp only[csP,wE,wH]at h
 obtain⟨_,⟨z,hz,rfl⟩,hy⟩:=h
 exact⟨z,wD hz,hy⟩
theorem z88 {l:List Vy}{i:Nat}{y:List UInt8}(h:y∈vsP l i):∃z∈l,y∈vyP z:=by
 simp only[vsP,wE,wH]at h
 obtain⟨_,⟨z,hz,rfl⟩,hy⟩:=h
 exact⟨z,wD hz,hy⟩
theorem qbs {l:List Hr}{i:Nat}{y:List UInt8}(h:y∈hsP l i):∃z∈l,y∈hrP z:=by
 simp only[hsP,wE,wH]at h
 obtain⟨_,⟨z,hz,rfl⟩,hy⟩:=h
 exact⟨z,wD hz,hy⟩
theorem qes {x:Re}(r:ReR x)(h:ReS x):∀y∈reP x,y.length<=4300:=by
 have w:=h.w.1
 have l16:∀y:List UInt8,y.length=16->y.length<=4300:=fun y h=>by omega
 have l200:∀y:List UInt8,y.length<=200->y.length<=4300:=fun y h=>by omega
 have m1:∀y∈p1 x,y.length<=4300:=by
  intro y hy
  simp only[p1,wF,wG,wB,wC,or_false]at hy
  rcases hy with rfl|rfl|rfl|rfl|rfl|rfl|rfl
  . exact zi_z (by simp)
  . exact l16 _ r.d
  . exact l16 _ r.p
  . exact l200 _ (w _ (by simp))
  . exact l200 _ (w _ (by simp))
  . exact l200 _ (w _ (by simp))
  . exact zi_z (by simp)
 have m2:∀y∈hsP x.hs x.hs.length,y.length<=4300:=fun y hy=>by
  obtain⟨z,hz,hy⟩:=qbs hy
  have:=h.hh z hz
  simp only[hrP,wB,wC,or_false]at hy
  rcases hy with rfl|rfl
  . exact l200 _ this.1
  . exact l200 _ this.2
 have m3:∀y∈tkP x.tk,y.length<=4300:=fun y hy=>by
  simp only[tkP,wF,wG,wB]at hy
  rcases hy with rfl|rfl|rfl|hy
  . exact zi_z (by simp)
  . exact l200 _ (w _ (by simp))
  . exact l16 _ r.t.2.2.2
  . obtain⟨z,hz,hy⟩:=qcn hy
    exact qha (h.cc z hz) y hy
 have m4:∀y∈rlP x.rl,y.length<=4300:=fun y hy=>by
  simp only[rlP,wF,wG,List.append_assoc,wB,wK]at hy
  rcases hy with rfl|rfl|rfl|rfl|hy|hy|hy
  . exact l200 _ (w _ (by simp))
  . exact l200 _ (w _ (by simp))
  . exact l200 _ (w _ (by simp))
  . exact zi_z (by simp)
  . exact l200 _ (h.t.1 y hy)
  . obtain⟨z,hz,hy⟩:=z88 hy
    have:=h.vv z hz
    simp only[vyP,wB,wC,or_false]at hy
    rcases hy with rfl|rfl|rfl
    . exact l200 _ this.h
    . exact l200 _ this.d
    . exact fw_z this.v
  . exact qha h.a y hy
 have m5:∀y∈spP x.sp,y.length<=4300:=fun y hy=>by
  simp only[spP,wB,wC,or_false]at hy
  rcases hy with rfl|rfl|rfl|rfl|rfl
  . exact l200 _ h.s.a
  . exact l200 _ h.s.v
  . exact zi_z (by simp)
  . exact l16 _ r.s.r
  . exact l200 _ h.s.t
 have m6:∀y∈leP x.le,y.length<=4300:=fun y hy=>by
  simp only[leP,wB,wC,or_false]at hy
  subst hy;exact zi_z (by simp)
 intro y hy
 simp only[reP,wK,List.mem_singleton]at hy
 rcases hy with ((((((hy|hy)|hy)|hy)|hy)|rfl)|hy)|rfl
 . exact m1 y hy
 . exact m2 y hy
 . exact m3 y hy
 . exact m4 y hy
 . exact m5 y hy
 . exact l16 _ r.s.s
 . exact m6 y hy
 . exact l16 _ r.l.s
theorem zjh {x:Re}(h:ReS x):(reP x).length<=131:=by
 have a1:=h.h
 have a2:=h.c
 have a3:=h.v
 have a4:=h.t.2
 unfold reP
 simp only[wA,z0h,zh3 (Nat.le_refl _),zsh,zsw,zlh,zmf,wI]
 omega
theorem zs0 {x:Re}(r:ReR x)(h:ReS x):Sml (reP x):=⟨by have:=zjh h;omega,fun y hy=>by have:=qes r h y hy;omega⟩
theorem zsz {x:Re}(r:ReR x)(h:ReS x):(zbd (reP x)).length<=1048576:=by
 have l:=zjh h
 have z:=qes r h
 have key:∀i,i<=(reP x).length->(spre (reP x) i).length<=10+4310*i:=by
  intro i
  induction i with
  | zero=>intro _;rw[zqo];have:=zay (reP x).length;omega
  | succ i ih =>
    intro hi
    have h1:=ih (by omega)
    have h2:=za0 (reP x)[i]
    have h3:=z (reP x)[i] (wJ (by omega))
    rw[zqn (by omega),wA];omega
 have h1:=key _ (Nat.le_refl _)
 rw[zhb]at h1;omega
end Go.Proofs.S44.L
namespace Go.Proofs.S44.L
open Go Go.Ev Go.Proofs Go.Proofs.S44
open Go.Proofs.S44.H (strsAV zaa zal Sml GlK GlR zaj zbq nsI zam zint zay encB za0 zaf)
variable {gl :Gl} {n:Nat}
abbrev zo8 (x:Re):AV:=.agg [i64 x.site,i64 x.seq,.agg [.str x.ad,.str x.cl,.str x.co,i64 x.sx,.agg [i64 x.lo,i64 x.hi]],.lst true .sc [],qdv x.tk,bAV x.pol,z4b x.rl,i64 x.us,spAV x.sp,i64 x.mo,.agg [i64 x.fr,i64 x.to],bAV x.dat,leAV x.le,i64 x.he,i64 x.ca]
theorem z0e (h:9<=n){x:Re}(hx:ReOk x)(n1:x.hs=[])(n2:x.tk.cs=[])(n3:x.rl.tg=[])(n4:x.rl.vy=[]):call gl tab n 24 [zo8 x] []=some (.lst false .sc (strsAV (reP x)),[],[]):=by
 obtain⟨d,rfl⟩:=Nat.exists_eq_add_of_le' h
 have hh:=hx.h
 have tl:=zsh x.tk
 have rl:=zsw x.rl
 have tc:=hx.t.cl
 have rt:=hx.r.t
 have rv:=hx.r.v
 have hl:=zh3 (l:=x.hs) (Nat.le_refl _)
 have c1:=@z8n gl (d+8) (by omega) _ hx.i 12 rfl
 have c2:=@zib gl (d+8) (by omega) [zaj (nmS x)] [x.dat,x.pol,x.ad,x.cl,x.co] (by simp) (by simp) (by simp) 5 rfl
 have c3:=@zmm gl (d+8) (by omega) ([zaj (nmS x)]++[x.dat,x.pol,x.ad,x.cl,x.co]) _ (by simp) (by simp) hx.a 3 rfl
 have e1:[zaj (nmS x)]++[x.dat,x.pol,x.ad,x.cl,x.co]++[zaj [x.sx,x.lo,x.hi]]=p1 x:=rfl
 rw[e1]at c3
 have pl:=z0h x
 have a1:(p1 x++hsP x.hs x.hs.length).length=7+2*x.hs.length:=by rw[wA];omega
 have a2:(p1 x++hsP x.hs x.hs.length++tkP x.tk).length<=100:=by rw[wA];omega
 have a3:(p1 x++hsP x.hs x.hs.length++tkP x.tk++rlP x.rl).length<=200:=by rw[wA];omega
 have a4:(p1 x++hsP x.hs x.hs.length++tkP x.tk++rlP x.rl++spP x.sp).length<=210:=by rw[wA,zlh];omega
 have a5:(p1 x++hsP x.hs x.hs.length++tkP x.tk++rlP x.rl++spP x.sp++[x.sp.sgn]).length<=220:=by rw[wA,wI];omega
 have a6:(p1 x++hsP x.hs x.hs.length++tkP x.tk++rlP x.rl++spP x.sp++[x.sp.sgn]++leP x.le).length<=230:=by rw[wA,zmf];omega
 have z0:(p1 x++hsP x.hs x.hs.length).length≠0:=by rw[a1];omega
 have z2:(p1 x++hsP x.hs x.hs.length++tkP x.tk).length≠0:=by rw[wA,a1];omega
 have z3:(p1 x++hsP x.hs x.hs.length++tkP x.tk++rlP x.rl).length≠0:=by rw[wA];omega
 have z4:(p1 x++hsP x.hs x.hs.length++tkP x.tk++rlP x.rl++spP x.sp).length≠0:=by rw[wA];omega
 have z5:(p1 x++hsP x.hs x.hs.length++tkP x.tk++rlP x.rl++spP x.sp++[x.sp.sgn]).length≠0:=by rw[wA];omega
 have z6:(p1 x++hsP x.hs x.hs.length++tkP x.tk++rlP x.rl++spP x.sp++[x.sp.sgn]++leP x.le).length≠0:=by rw[wA];omega
 have c4:=@zy5 gl (d+8) (by omega) _ _ hx.t n2 z0 (by omega)
 have c5:=@z34 gl (d+8) (by omega) _ _ hx.r n3 n4 z2 (by omega)
 have k1:=@z78 gl (d+8) (by omega) x.sp hx.s
 have c6:=@zyw gl (d+8) (by omega) false _ (spP x.sp) z3 (by omega) (by rw[zlh];omega)
 have c7:=@zib gl (d+8) (by omega) _ [x.sp.sgn] z4 (by omega) (by simp) 1 rfl
 have k2:=@z8i gl (d+8) (by omega) x.le hx.l
 have c8:=@zyw gl (d+8) (by omega) false _ (leP x.le) z5 (by omega) (by rw[zmf];omega)
 have c9:=@zib gl (d+8) (by omega) _ [x.le.sgn] z6 (by omega) (by simp) 1 rfl
 have er:reP x=p1 x++hsP x.hs x.hs.length++tkP x.tk++rlP x.rl++spP x.sp++[x.sp.sgn]++leP x.le++[x.le.sgn]:=rfl
 rw[er]
 rw[zad (fd:=fd24) rfl]
 have u1:=b16 hx.d
 have u2:=b16 hx.p
 have u3:=b16 hx.t.s
 have u4:=b16 hx.s.r
 have u5:=b16 hx.s.s
 have u6:=b16 hx.l.s
 have t1:=b16t hx.d
 have t2:=b16t hx.p
 have t5:=b16t hx.s.s
 have t6:=b16t hx.l.s
 have w1:=H.bytes_all x.dat
 have w2:=H.bytes_all x.pol
 have w3:=H.bytes_all x.tk.sgn
 have w4:=H.bytes_all x.sp.body
 have w5:=H.bytes_all x.sp.sgn
 have w6:=H.bytes_all x.le.sgn
 have e4:strsAV [x.dat,x.pol,x.ad,x.cl,x.co]=[.str x.dat,.str x.pol,.str x.ad,.str x.cl,.str x.co]:=rfl
 have e5:nsI (nmS x)=[i64 x.site,i64 x.seq,i64 x.mo,i64 x.fr,i64 x.to,i64 x.he,i64 x.ca,i64 x.us,i64 0,i64 0,i64 0,i64 0]:=by
  show [i64 x.site,i64 x.seq,i64 x.mo,i64 x.fr,i64 x.to,i64 x.he,i64 x.ca,i64 x.us,i64 x.hs.length,i64 x.tk.cs.length,i64 x.rl.tg.length,i64 x.rl.vy.length]=_
  rw[n1,n2,n3,n4];rfl
 have e6:nsI [x.sx,x.lo,x.hi]=[i64 x.sx,i64 x.lo,i64 x.hi]:=rfl
 have e7:strsAV [x.sp.sgn]=[.str x.sp.sgn]:=rfl
 have e8:strsAV [x.le.sgn]=[.str x.le.sgn]:=rfl
 have hQ0:p1 x++hsP x.hs x.hs.length=p1 x:=by rw[n1];simp[hsP]
 rw[hQ0]at c4 c5 c6 c7 c8 c9 ⊢
 unfold bx gw gi at *
 rw[e4]at c2
 rw[e5]at c1
 rw[e6]at c3
 rw[e7]at c7
 rw[e8]at c9
 clear hQ0 e4 e5 e6 e7 e8 er e1 a1 a2 a3 a4 a5 a6 z0 z2 z3 z4 z5 z6 tl rl hl pl hx
 generalize [zaj (nmS x)]=q1 at *
 generalize q1++[x.dat,x.pol,x.ad,x.cl,x.co]=q2 at *
 generalize p1 x=q3 at *
 generalize q3++tkP x.tk=q5 at *
 generalize q5++rlP x.rl=q6 at *
 generalize q6++spP x.sp=q7 at *
 generalize q7++[x.sp.sgn]=q8 at *
 generalize q8++leP x.le=q9 at *
 generalize q9++[x.le.sgn]=qa at *
 have l1:=zaa q1
 have l2:=zaa q2
 have l3:=zaa q3
 have l5:=zaa q5
 have l6:=zaa q6
 have l7:=zaa q7
 have l8:=zaa q8
 have l9:=zaa q9
 have la:=zaa qa
 have s1:=zan q1
 have s2:=zan q2
 have s3:=zan q3
 have s5:=zan q5
 have s6:=zan q6
 have s7:=zan q7
 have s8:=zan q8
 have s9:=zan q9
 have sa:=zan qa
 have ta:List.take qa.length (strsAV qa)=strsAV qa:=List.take_of_length_le (by omega)
 simp(maxSteps:=1000000) (disch:=apply zq;omega) only[go_sem,simprocAttr,↓Nat.reduceEqDiff,xx,fd24,m24,u1,u2,u3,u4,u5,u6,t1,t2,t5,t6,w1,w2,w3,w4,w5,w6,c1,c2,c3,l1,l2,l3,s1,s2,s3]
 rw[zai (fun i=>(⟨[.set 85 (i64 i),.set 84 (i64 0),.set 83 (.lst true .sc []),.set 4 (.fn 2000072 [.ptr 9 []]),.set 3 (.ptr 9 []),.set 1 (.ptr 1 [])],[(6090,gw q3),(9,bx 6090 q3),(1,.fix sRe (zo8 x))]⟩:St)) 0 (by unfold LF;omega)]
 . simp(maxSteps:=1000000) (disch:=apply zq;omega) only[go_sem,simprocAttr,↓Nat.reduceEqDiff,xx,u1,u2,u3,u4,u5,u6,t1,t2,t5,t6,w1,w2,w3,w4,w5,w6,c4,c5,k1,c6,c7,k2,c8,c9,l3,l5,l6,l7,l8,l9,la,s3,s5,s6,s7,s8,s9,sa,ta]
 . simp(disch:=apply zq;omega) only[go_sem,simprocAttr,↓Nat.reduceEqDiff,xx,l1,l2,l3]
 . intro i hi;omega
 . simp(disch:=apply zq;omega) only[go_sem,simprocAttr,↓Nat.reduceEqDiff,xx,l3,s3]
end Go.Proofs.S44.L
