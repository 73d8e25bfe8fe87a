/-
  Chapter 44: leaves and data. No condition.
-/
import Derived.Test.YtcddalfeicoedaaGreatDoorW44G10x3
set_option linter.all false
open List renaming length_append->wA,mem_cons->wB,not_mem_nil->wC,mem_of_mem_take->wD,mem_flatten->wE,length_take->wF,length_drop->wG,cons_append->wH,nil_append->wI,mem_map->wJ,length_singleton->wK,getElem_mem->wL,mem_append->wM
open Nat renaming le_refl->wN,pow_le_pow_right->wO,two_pow_pos->wP
namespace Go.Proofs.S44.L
open Go Go.Ev Go.Proofs Go.Proofs.S44
open Go.Proofs.S44.H (strsAV zaa zai Sml GlK GlR zam zbn nsI zal zint zau encB zaw zaf)
variable {gl :Gl} {n:Nat}
theorem fw_z {l:List (List UInt8)}(h:Fw l 20):(zbg l).length<=4300:=by
 have key:∀i,i<=l.length->(spre l i).length<=10+210*i:=by
  intro i
  induction i with
  | zero=>intro _;rw[zqn];have:=zau l.length;omega
  | succ i ih =>
    intro hi
    have h1:=ih (by omega)
    have h2:=zaw l[i]
    have h3:=h.1 l[i] (wL (by omega))
    rw[zqm (by omega),wA];omega
 have h1:=key _ (wN _)
 have h2:=h.2
 rw[zg5]at h1;omega
theorem zi_z {l:List Int}(h:l.length<=64):(zam l).length<=4300:=by
 have:=@H.zints_len l
 omega
theorem qgw {x:Cd}(h:CdS x):∀y∈cdP x,y.length<=4300:=by
 intro y hy
 simp only[cdP,wB,wC,or_false]at hy
 rcases hy with rfl|rfl|rfl|rfl|rfl
 . exact zi_z (by simp)
 . have:=h.p;omega
 . exact fw_z h.cl
 . exact fw_z h.co
 . exact zi_z h.si
theorem qch {l:List Cd}{i:Nat}{y:List UInt8}(h:y∈csP l i):∃z∈l,y∈cdP z:=by
 simp only[csP,wE,wJ]at h
 obtain⟨_,⟨z,hz,rfl⟩,hy⟩:=h
 exact⟨z,wD hz,hy⟩
theorem z8y {l:List Vy}{i:Nat}{y:List UInt8}(h:y∈vsP l i):∃z∈l,y∈vyP z:=by
 simp only[vsP,wE,wJ]at h
 obtain⟨_,⟨z,hz,rfl⟩,hy⟩:=h
 exact⟨z,wD hz,hy⟩
theorem qbl {l:List Hr}{i:Nat}{y:List UInt8}(h:y∈hsP l i):∃z∈l,y∈hrP z:=by
 simp only[hsP,wE,wJ]at h
 obtain⟨_,⟨z,hz,rfl⟩,hy⟩:=h
 exact⟨z,wD hz,hy⟩
theorem qel {x:Re}(r:ReR x)(h:ReS x):∀y∈reP x,y.length<=4300:=by
 have w:=h.w.1
 have l16:∀y:List UInt8,y.length=16->y.length<=4300:=fun y h=>by omega
 have l200:∀y:List UInt8,y.length<=200->y.length<=4300:=fun y h=>by omega
 have m1:∀y∈p1 x,y.length<=4300:=by
  intro y hy
  simp only[p1,wH,wI,wB,wC,or_false]at hy
  rcases hy with rfl|rfl|rfl|rfl|rfl|rfl|rfl
  . exact zi_z (by simp)
  . exact l16 _ r.d
  . exact l16 _ r.p
  . exact l200 _ (w _ (by simp))
  . exact l200 _ (w _ (by simp))
  . exact l200 _ (w _ (by simp))
  . exact zi_z (by simp)
 have m2:∀y∈hsP x.hs x.hs.length,y.length<=4300:=fun y hy=>by
  obtain⟨z,hz,hy⟩:=qbl hy
  have:=h.hh z hz
  simp only[hrP,wB,wC,or_false]at hy
  rcases hy with rfl|rfl
  . exact l200 _ this.1
  . exact l200 _ this.2
 have m3:∀y∈tkP x.tk,y.length<=4300:=fun y hy=>by
  simp only[tkP,wH,wI,wB]at hy
  rcases hy with rfl|rfl|rfl|hy
  . exact zi_z (by simp)
  . exact l200 _ (w _ (by simp))
  . exact l16 _ r.t.2.2.2
  . obtain⟨z,hz,hy⟩:=qch hy
    exact qgw (h.cc z hz) y hy
 have m4:∀y∈rlP x.rl,y.length<=4300:=fun y hy=>by
  simp only[rlP,wH,wI,List.append_assoc,wB,wM]at hy
  rcases hy with rfl|rfl|rfl|rfl|hy|hy|hy
  . exact l200 _ (w _ (by simp))
  . exact l200 _ (w _ (by simp))
  . exact l200 _ (w _ (by simp))
  . exact zi_z (by simp)
  . exact l200 _ (h.t.1 y hy)
  . obtain⟨z,hz,hy⟩:=z8y hy
    have:=h.vv z hz
    simp only[vyP,wB,wC,or_false]at hy
    rcases hy with rfl|rfl|rfl
    . exact l200 _ this.h
    . exact l200 _ this.d
    . exact fw_z this.v
  . exact qgw h.a y hy
 have m5:∀y∈spP x.sp,y.length<=4300:=fun y hy=>by
  simp only[spP,wB,wC,or_false]at hy
  rcases hy with rfl|rfl|rfl|rfl|rfl
  . exact l200 _ h.s.a
  . exact l200 _ h.s.v
  . exact zi_z (by simp)
  . exact l16 _ r.s.r
  . exact l200 _ h.s.t
 have m6:∀y∈leP x.le,y.length<=4300:=fun y hy=>by
  simp only[leP,wB,wC,or_false]at hy
  subst hy;exact zi_z (by simp)
 intro y hy
 simp only[reP,wM,List.mem_singleton]at hy
 rcases hy with ((((((hy|hy)|hy)|hy)|hy)|rfl)|hy)|rfl
 . exact m1 y hy
 . exact m2 y hy
 . exact m3 y hy
 . exact m4 y hy
 . exact m5 y hy
 . exact l16 _ r.s.s
 . exact m6 y hy
 . exact l16 _ r.l.s
theorem zo2 {x:Re}(h:ReS x):(reP x).length<=131:=by
 have a1:=h.h
 have a2:=h.c
 have a3:=h.v
 have a4:=h.t.2
 unfold reP
 simp only[wA,zz9,zhz (wN _),zsf,zss,zlb,zl9,wK]
 omega
theorem zsx {x:Re}(r:ReR x)(h:ReS x):Sml (reP x):=⟨by have:=zo2 h;omega,fun y hy=>by have:=qel r h y hy;omega⟩
theorem zsw {x:Re}(r:ReR x)(h:ReS x):(zbg (reP x)).length<=1048576:=by
 have l:=zo2 h
 have z:=qel r h
 have key:∀i,i<=(reP x).length->(spre (reP x) i).length<=10+4310*i:=by
  intro i
  induction i with
  | zero=>intro _;rw[zqn];have:=zau (reP x).length;omega
  | succ i ih =>
    intro hi
    have h1:=ih (by omega)
    have h2:=zaw (reP x)[i]
    have h3:=z (reP x)[i] (wL (by omega))
    rw[zqm (by omega),wA];omega
 have h1:=key _ (wN _)
 rw[zg5]at h1;omega
end Go.Proofs.S44.L
namespace Go.Proofs.S44.L
open Go Go.Ev Go.Proofs Go.Proofs.S44
open Go.Proofs.S44.H (strsAV zaa zai Sml GlK GlR zam zbn nsI zal zint zau encB zaw zaf)
variable {gl :Gl} {n:Nat}
abbrev z4k (x:Re):AV:=.agg [i64 x.site,i64 x.seq,.agg [.str x.ad,.str x.cl,.str x.co,i64 x.sx,.agg [i64 x.lo,i64 x.hi]],.lst true .sc [],qdn x.tk,bAV x.pol,z96 x.rl,i64 x.us,spAV x.sp,i64 x.mo,.agg [i64 x.fr,i64 x.to],bAV x.dat,leAV x.le,i64 x.he,i64 x.ca]
theorem zz6 (h:9<=n){x:Re}(hx:ReOk x)(n1:x.hs=[])(n2:x.tk.cs=[])(n3:x.rl.tg=[])(n4:x.rl.vy=[]):call gl tab n 24 [z4k x] []=some (.lst false .sc (strsAV (reP x)),[],[]):=by
 obtain⟨d,rfl⟩:=Nat.exists_eq_add_of_le' h
 have hh:=hx.h
 have tl:=zsf x.tk
 have rl:=zss x.rl
 have tc:=hx.t.cl
 have rt:=hx.r.t
 have rv:=hx.r.v
 have hl:=zhz (l:=x.hs) (wN _)
 have c1:=@z8d gl (d+8) (by omega) _ hx.i 12 rfl
 have c2:=@zh8 gl (d+8) (by omega) [zam (nmS x)] [x.dat,x.pol,x.ad,x.cl,x.co] (by simp) (by simp) (by simp) 5 rfl
 have c3:=@zmg gl (d+8) (by omega) ([zam (nmS x)]++[x.dat,x.pol,x.ad,x.cl,x.co]) _ (by simp) (by simp) hx.a 3 rfl
 have e1:[zam (nmS x)]++[x.dat,x.pol,x.ad,x.cl,x.co]++[zam [x.sx,x.lo,x.hi]]=p1 x:=rfl
 rw[e1]at c3
 have pl:=zz9 x
 have a1:(p1 x++hsP x.hs x.hs.length).length=7+2*x.hs.length:=by rw[wA];omega
 have a2:(p1 x++hsP x.hs x.hs.length++tkP x.tk).length<=100:=by rw[wA];omega
 have a3:(p1 x++hsP x.hs x.hs.length++tkP x.tk++rlP x.rl).length<=200:=by rw[wA];omega
 have a4:(p1 x++hsP x.hs x.hs.length++tkP x.tk++rlP x.rl++spP x.sp).length<=210:=by rw[wA,zlb];omega
 have a5:(p1 x++hsP x.hs x.hs.length++tkP x.tk++rlP x.rl++spP x.sp++[x.sp.sgn]).length<=220:=by rw[wA,wK];omega
 have a6:(p1 x++hsP x.hs x.hs.length++tkP x.tk++rlP x.rl++spP x.sp++[x.sp.sgn]++leP x.le).length<=230:=by rw[wA,zl9];omega
 have z0:(p1 x++hsP x.hs x.hs.length).length≠0:=by rw[a1];omega
 have z2:(p1 x++hsP x.hs x.hs.length++tkP x.tk).length≠0:=by rw[wA,a1];omega
 have z3:(p1 x++hsP x.hs x.hs.length++tkP x.tk++rlP x.rl).length≠0:=by rw[wA];omega
 have z4:(p1 x++hsP x.hs x.hs.length++tkP x.tk++rlP x.rl++spP x.sp).length≠0:=by rw[wA];omega
 have z5:(p1 x++hsP x.hs x.hs.length++tkP x.tk++rlP x.rl++spP x.sp++[x.sp.sgn]).length≠0:=by rw[wA];omega
 have z6:(p1 x++hsP x.hs x.hs.length++tkP x.tk++rlP x.rl++spP x.sp++[x.sp.sgn]++leP x.le).length≠0:=by rw[wA];omega
 have c4:=@zyz gl (d+8) (by omega) _ _ hx.t n2 z0 (by omega)
 have c5:=@z3x gl (d+8) (by omega) _ _ hx.r n3 n4 z2 (by omega)
 have k1:=@z7z gl (d+8) (by omega) x.sp hx.s
 have c6:=@zyr gl (d+8) (by omega) false _ (spP x.sp) z3 (by omega) (by rw[zlb];omega)
 have c7:=@zh8 gl (d+8) (by omega) _ [x.sp.sgn] z4 (by omega) (by simp) 1 rfl
 have k2:=@z78 gl (d+8) (by omega) x.le hx.l
 have c8:=@zyr gl (d+8) (by omega) false _ (leP x.le) z5 (by omega) (by rw[zl9];omega)
 have c9:=@zh8 gl (d+8) (by omega) _ [x.le.sgn] z6 (by omega) (by simp) 1 rfl
 have er:reP x=p1 x++hsP x.hs x.hs.length++tkP x.tk++rlP x.rl++spP x.sp++[x.sp.sgn]++leP x.le++[x.le.sgn]:=rfl
 rw[er]
 rw[zad (fd:=fd24) rfl]
 have u1:=b16 hx.d
 have u2:=b16 hx.p
 have u3:=b16 hx.t.s
 have u4:=b16 hx.s.r
 have u5:=b16 hx.s.s
 have u6:=b16 hx.l.s
 have t1:=b16t hx.d
 have t2:=b16t hx.p
 have t5:=b16t hx.s.s
 have t6:=b16t hx.l.s
 have w1:=H.bytes_all x.dat
 have w2:=H.bytes_all x.pol
 have w3:=H.bytes_all x.tk.sgn
 have w4:=H.bytes_all x.sp.body
 have w5:=H.bytes_all x.sp.sgn
 have w6:=H.bytes_all x.le.sgn
 have e4:strsAV [x.dat,x.pol,x.ad,x.cl,x.co]=[.str x.dat,.str x.pol,.str x.ad,.str x.cl,.str x.co]:=rfl
 have e5:nsI (nmS x)=[i64 x.site,i64 x.seq,i64 x.mo,i64 x.fr,i64 x.to,i64 x.he,i64 x.ca,i64 x.us,i64 0,i64 0,i64 0,i64 0]:=by
  show [i64 x.site,i64 x.seq,i64 x.mo,i64 x.fr,i64 x.to,i64 x.he,i64 x.ca,i64 x.us,i64 x.hs.length,i64 x.tk.cs.length,i64 x.rl.tg.length,i64 x.rl.vy.length]=_
  rw[n1,n2,n3,n4];rfl
 have e6:nsI [x.sx,x.lo,x.hi]=[i64 x.sx,i64 x.lo,i64 x.hi]:=rfl
 have e7:strsAV [x.sp.sgn]=[.str x.sp.sgn]:=rfl
 have e8:strsAV [x.le.sgn]=[.str x.le.sgn]:=rfl
 have hQ0:p1 x++hsP x.hs x.hs.length=p1 x:=by rw[n1];simp[hsP]
 rw[hQ0]at c4 c5 c6 c7 c8 c9 ⊢
 unfold bx gw gi at *
 rw[e4]at c2
 rw[e5]at c1
 rw[e6]at c3
 rw[e7]at c7
 rw[e8]at c9
 clear hQ0 e4 e5 e6 e7 e8 er e1 a1 a2 a3 a4 a5 a6 z0 z2 z3 z4 z5 z6 tl rl hl pl hx
 generalize [zam (nmS x)]=q1 at *
 generalize q1++[x.dat,x.pol,x.ad,x.cl,x.co]=q2 at *
 generalize p1 x=q3 at *
 generalize q3++tkP x.tk=q5 at *
 generalize q5++rlP x.rl=q6 at *
 generalize q6++spP x.sp=q7 at *
 generalize q7++[x.sp.sgn]=q8 at *
 generalize q8++leP x.le=q9 at *
 generalize q9++[x.le.sgn]=qa at *
 have l1:=zaa q1
 have l2:=zaa q2
 have l3:=zaa q3
 have l5:=zaa q5
 have l6:=zaa q6
 have l7:=zaa q7
 have l8:=zaa q8
 have l9:=zaa q9
 have la:=zaa qa
 have s1:=zao q1
 have s2:=zao q2
 have s3:=zao q3
 have s5:=zao q5
 have s6:=zao q6
 have s7:=zao q7
 have s8:=zao q8
 have s9:=zao q9
 have sa:=zao qa
 have ta:List.take qa.length (strsAV qa)=strsAV qa:=List.take_of_length_le (by omega)
 simp(maxSteps:=1000000) (disch:=apply zq;omega) only[go_sem,simprocAttr,↓Nat.reduceEqDiff,xx,fd24,m24,u1,u2,u3,u4,u5,u6,t1,t2,t5,t6,w1,w2,w3,w4,w5,w6,c1,c2,c3,l1,l2,l3,s1,s2,s3]
 rw[zag (fun i=>(⟨[.set 85 (i64 i),.set 84 (i64 0),.set 83 (.lst true .sc []),.set 4 (.fn 2000072 [.ptr 9 []]),.set 3 (.ptr 9 []),.set 1 (.ptr 1 [])],[(6090,gw q3),(9,bx 6090 q3),(1,.fix sRe (z4k x))]⟩:St)) 0 (by unfold LF;omega)]
 . simp(maxSteps:=1000000) (disch:=apply zq;omega) only[go_sem,simprocAttr,↓Nat.reduceEqDiff,xx,u1,u2,u3,u4,u5,u6,t1,t2,t5,t6,w1,w2,w3,w4,w5,w6,c4,c5,k1,c6,c7,k2,c8,c9,l3,l5,l6,l7,l8,l9,la,s3,s5,s6,s7,s8,s9,sa,ta]
 . simp(disch:=apply zq;omega) only[go_sem,simprocAttr,↓Nat.reduceEqDiff,xx,l1,l2,l3]
 . intro i hi;omega
 . simp(disch:=apply zq;omega) only[go_sem,simprocAttr,↓Nat.reduceEqDiff,xx,l3,s3]
end Go.Proofs.S44.L
namespace Go.Mk
def spl (n:Nat):Nat:=2^(n-1).log2
theorem zfi {n:Nat}(h:2<=n):spl n<n:=by
 have:=Nat.log2_self_le (show n-1≠0 by omega)
 unfold spl;omega
theorem ze7 (n:Nat):0<spl n:=wP _
theorem z7y {n:Nat}:n<=2*spl n:=by
 have:=@Nat.lt_log2_self (n-1)
 unfold spl
 rw[Nat.pow_succ]at this
 omega
theorem qd8 {n m:Nat}(h:2<=n)(hn:n<=2^(m+1)):spl n<=2^m:=by
 have h1:=zfi h
 unfold spl at *
 refine wO (by decide) ?_
 rcases Nat.lt_or_ge m (n-1).log2 with h2|h2
 . have:=wO (show 0<2 by decide) (show m+1<=(n-1).log2 by omega)
   omega
 . exact h2
theorem zna {n k:Nat}(h1:2^k<n)(h2:n<=2^(k+1)):spl n=2^k:=by
 unfold spl
 congr 1
 rw[Nat.log2_eq_iff (by have:=wP k;omega)]
 omega
section
variable {D :Type} (node:D->D->D) (emp:D)
def rt (l:List D):D :=
 if h:2<=l.length then node (rt (l.take (spl l.length))) (rt (l.drop (spl l.length)))else l.headD emp
termination_by l.length
decreasing_by
 . have:=zfi h;rw[wF];omega
 . have:=ze7 l.length;rw[wG];omega
variable {node emp}
theorem zqq {l:List D}(h:2<=l.length):rt node emp l=node (rt node emp (l.take (spl l.length))) (rt node emp (l.drop (spl l.length))):=by rw[rt,dif_pos h]
theorem zlm :rt node emp []=emp:=by rw[rt,dif_neg (by simp)];rfl
theorem zqr (d:D):rt node emp [d]=d:=by rw[rt,dif_neg (by simp)];rfl
variable (node emp)
def incl (l:List D)(i:Nat):List D :=
 if h:2<=l.length then
  if i<spl l.length then incl (l.take (spl l.length)) i++[rt node emp (l.drop (spl l.length))]
  else incl (l.drop (spl l.length)) (i-spl l.length)++[rt node emp (l.take (spl l.length))]
 else []
termination_by l.length
decreasing_by
 . have:=zfi h;rw[wF];omega
 . have:=ze7 l.length;rw[wG];omega
variable {node emp}
theorem zis {l:List D}{i:Nat}(h:l.length<2):incl node emp l i=[]:=by rw[incl,dif_neg (by omega)]
theorem ztd {l:List D}{i:Nat}(h:2<=l.length)(hi:i<spl l.length):incl node emp l i=incl node emp (l.take (spl l.length)) i++[rt node emp (l.drop (spl l.length))]:=by rw[incl,dif_pos h,if_pos hi]
theorem zte {l:List D}{i:Nat}(h:2<=l.length)(hi:¬i<spl l.length):incl node emp l i=incl node emp (l.drop (spl l.length)) (i-spl l.length)++[rt node emp (l.take (spl l.length))]:=by rw[incl,dif_pos h,if_neg hi]
def dep (i n:Nat):Nat :=
 if h:2<=n then(if i<spl n then dep i (spl n)else dep (i-spl n) (n-spl n))+1 else 0
termination_by n
decreasing_by
 . exact zfi h
 . have:=ze7 n;omega
theorem dep_one {i n:Nat}(h:n<2):dep i n=0:=by rw[dep,dif_neg (by omega)]
theorem qgh {i n:Nat}(h:2<=n)(hi:i<spl n):dep i n=dep i (spl n)+1:=by rw[dep,dif_pos h,if_pos hi]
theorem qgi {i n:Nat}(h:2<=n)(hi:¬i<spl n):dep i n=dep (i-spl n) (n-spl n)+1:=by rw[dep,dif_pos h,if_neg hi]
variable (node)
def cl (z leaf:D)(i n:Nat)(p:List D):D :=
 if h:2<=n then
  if i<spl n then node (cl z leaf i (spl n) p.dropLast) (p.getLastD z)else node (p.getLastD z) (cl z leaf (i-spl n) (n-spl n) p.dropLast)
 else leaf
termination_by n
decreasing_by
 . exact zfi h
 . have:=ze7 n;omega
variable {node}
theorem z2t {z leaf:D}{i n:Nat}{p:List D}(h:n<2):cl node z leaf i n p=leaf:=by rw[cl,dif_neg (by omega)]
theorem qgs {z leaf:D}{i n:Nat}{p:List D}(h:2<=n)(hi:i<spl n):cl node z leaf i n p=node (cl node z leaf i (spl n) p.dropLast) (p.getLastD z):=by rw[cl,dif_pos h,if_pos hi]
theorem qgt {z leaf:D}{i n:Nat}{p:List D}(h:2<=n)(hi:¬i<spl n):cl node z leaf i n p=node (p.getLastD z) (cl node z leaf (i-spl n) (n-spl n) p.dropLast):=by rw[cl,dif_pos h,if_neg hi]
variable (node emp)
def cons (l:List D)(m:Nat)(mark:Bool):List D :=
 if m=l.length then(if mark then []else [rt node emp l])
 else if h:2<=l.length then
  if m<=spl l.length then cons (l.take (spl l.length)) m mark++[rt node emp (l.drop (spl l.length))]
  else cons (l.drop (spl l.length)) (m-spl l.length) false++[rt node emp (l.take (spl l.length))]
 else []
termination_by l.length
decreasing_by
 . have:=zfi h;rw[wF];omega
 . have:=ze7 l.length;rw[wG];omega
variable {node emp}
variable (node)
variable {node}
variable (node emp)
variable {node emp}
variable (node)
variable {node}
end
end Go.Mk
