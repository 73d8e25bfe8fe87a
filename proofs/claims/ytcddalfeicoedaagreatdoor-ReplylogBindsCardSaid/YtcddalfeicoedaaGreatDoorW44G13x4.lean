/-
  Chapter 44: the parts of a reply without lists; leaves. No condition.
-/
import Derived.Test.YtcddalfeicoedaaGreatDoorW44G12x4
set_option linter.all false
open List renaming length_append->wA,getD_eq_getElem?_getD->wB,length_take->wC,length_drop->wD,dropLast_concat->wE
namespace Go.Proofs.S44.L
open Go Go.Ev Go.Proofs Go.Proofs.S44
open Go.Proofs.S44.H (strsAV zaa zal nsI)
variable {gl :Gl} {n:Nat}
abbrev z3v (x:Re):AV:=.agg [i64 x.site,i64 x.seq,.agg [.str x.ad,.str x.cl,.str x.co,i64 x.sx,.agg [i64 x.lo,i64 x.hi]],.lst true .sc [],qcr x.tk,bAV x.pol,z88 x.rl,i64 x.us,spAV x.sp,i64 x.mo,.agg [i64 x.fr,i64 x.to],bAV x.dat,leAV x.le,i64 x.he,i64 x.ca]
theorem zzh (h:9<=n){x:Re}(hx:ReOk x)(n1:x.hs=[])(n2:x.tk.cs=[])(n3:x.rl.tg=[])(n4:x.rl.vy=[]):call gl tab n 24 [z3v x] []=some (.lst false .sc (strsAV (reP x)),[],[]):=by
 obtain⟨d,rfl⟩:=Nat.exists_eq_add_of_le' h
 have hh:=hx.h
 have tl:=zrz x.tk
 have rl:=zsc x.rl
 have tc:=hx.t.cl
 have rt:=hx.r.t
 have rv:=hx.r.v
 have hl:=zh1 (l:=x.hs) (Nat.le_refl _)
 have c1:=@z7f gl (d+8) (by omega) _ hx.i 12 rfl
 have c2:=@zh7 gl (d+8) (by omega) [zal (nmS x)] [x.dat,x.pol,x.ad,x.cl,x.co] (by simp) (by simp) (by simp) 5 rfl
 have c3:=@zl4 gl (d+8) (by omega) ([zal (nmS x)]++[x.dat,x.pol,x.ad,x.cl,x.co]) _ (by simp) (by simp) hx.a 3 rfl
 have e1:[zal (nmS x)]++[x.dat,x.pol,x.ad,x.cl,x.co]++[zal [x.sx,x.lo,x.hi]]=p1 x:=rfl
 rw[e1]at c3
 have pl:=zzk x
 have a1:(p1 x++hsP x.hs x.hs.length).length=7+2*x.hs.length:=by rw[wA];omega
 have a2:(p1 x++hsP x.hs x.hs.length++tkP x.tk).length<=100:=by rw[wA];omega
 have a3:(p1 x++hsP x.hs x.hs.length++tkP x.tk++rlP x.rl).length<=200:=by rw[wA];omega
 have a4:(p1 x++hsP x.hs x.hs.length++tkP x.tk++rlP x.rl++spP x.sp).length<=210:=by rw[wA,zk1];omega
 have a5:(p1 x++hsP x.hs x.hs.length++tkP x.tk++rlP x.rl++spP x.sp++[x.sp.sgn]).length<=220:=by rw[wA,List.length_singleton];omega
 have a6:(p1 x++hsP x.hs x.hs.length++tkP x.tk++rlP x.rl++spP x.sp++[x.sp.sgn]++leP x.le).length<=230:=by rw[wA,zlx];omega
 have z0:(p1 x++hsP x.hs x.hs.length).length≠0:=by rw[a1];omega
 have z2:(p1 x++hsP x.hs x.hs.length++tkP x.tk).length≠0:=by rw[wA,a1];omega
 have z3:(p1 x++hsP x.hs x.hs.length++tkP x.tk++rlP x.rl).length≠0:=by rw[wA];omega
 have z4:(p1 x++hsP x.hs x.hs.length++tkP x.tk++rlP x.rl++spP x.sp).length≠0:=by rw[wA];omega
 have z5:(p1 x++hsP x.hs x.hs.length++tkP x.tk++rlP x.rl++spP x.sp++[x.sp.sgn]).length≠0:=by rw[wA];omega
 have z6:(p1 x++hsP x.hs x.hs.length++tkP x.tk++rlP x.rl++spP x.sp++[x.sp.sgn]++leP x.le).length≠0:=by rw[wA];omega
 have c4:=@zye gl (d+8) (by omega) _ _ hx.t n2 z0 (by omega)
 have c5:=@z3c gl (d+8) (by omega) _ _ hx.r n3 n4 z2 (by omega)
 have k1:=@z62 gl (d+8) (by omega) x.sp hx.s
 have c6:=@zx5 gl (d+8) (by omega) false _ (spP x.sp) z3 (by omega) (by rw[zk1];omega)
 have c7:=@zh7 gl (d+8) (by omega) _ [x.sp.sgn] z4 (by omega) (by simp) 1 rfl
 have k2:=@z7a gl (d+8) (by omega) x.le hx.l
 have c8:=@zx5 gl (d+8) (by omega) false _ (leP x.le) z5 (by omega) (by rw[zlx];omega)
 have c9:=@zh7 gl (d+8) (by omega) _ [x.le.sgn] z6 (by omega) (by simp) 1 rfl
 have er:reP x=p1 x++hsP x.hs x.hs.length++tkP x.tk++rlP x.rl++spP x.sp++[x.sp.sgn]++leP x.le++[x.le.sgn]:=rfl
 rw[er]
 rw[zaf (fd:=fd24) rfl]
 have u1:=b16 hx.d
 have u2:=b16 hx.p
 have u3:=b16 hx.t.s
 have u4:=b16 hx.s.r
 have u5:=b16 hx.s.s
 have u6:=b16 hx.l.s
 have t1:=b16t hx.d
 have t2:=b16t hx.p
 have t5:=b16t hx.s.s
 have t6:=b16t hx.l.s
 have w1:=H.bytes_all x.dat
 have w2:=H.bytes_all x.pol
 have w3:=H.bytes_all x.tk.sgn
 have w4:=H.bytes_all x.sp.body
 have w5:=H.bytes_all x.sp.sgn
 have w6:=H.bytes_all x.le.sgn
 have e4:strsAV [x.dat,x.pol,x.ad,x.cl,x.co]=[.str x.dat,.str x.pol,.str x.ad,.str x.cl,.str x.co]:=rfl
 have e5:nsI (nmS x)=[i64 x.site,i64 x.seq,i64 x.mo,i64 x.fr,i64 x.to,i64 x.he,i64 x.ca,i64 x.us,i64 0,i64 0,i64 0,i64 0]:=by
  show [i64 x.site,i64 x.seq,i64 x.mo,i64 x.fr,i64 x.to,i64 x.he,i64 x.ca,i64 x.us,i64 x.hs.length,i64 x.tk.cs.length,i64 x.rl.tg.length,i64 x.rl.vy.length]=_
  rw[n1,n2,n3,n4];rfl
 have e6:nsI [x.sx,x.lo,x.hi]=[i64 x.sx,i64 x.lo,i64 x.hi]:=rfl
 have e7:strsAV [x.sp.sgn]=[.str x.sp.sgn]:=rfl
 have e8:strsAV [x.le.sgn]=[.str x.le.sgn]:=rfl
 have hQ0:p1 x++hsP x.hs x.hs.length=p1 x:=by rw[n1];simp[hsP]
 rw[hQ0]at c4 c5 c6 c7 c8 c9 ⊢
 unfold bx gw gi at *
 rw[e4]at c2
 rw[e5]at c1
 rw[e6]at c3
 rw[e7]at c7
 rw[e8]at c9
 clear hQ0 e4 e5 e6 e7 e8 er e1 a1 a2 a3 a4 a5 a6 z0 z2 z3 z4 z5 z6 tl rl hl pl hx
 generalize [zal (nmS x)]=q1 at *
 generalize q1++[x.dat,x.pol,x.ad,x.cl,x.co]=q2 at *
 generalize p1 x=q3 at *
 generalize q3++tkP x.tk=q5 at *
 generalize q5++rlP x.rl=q6 at *
 generalize q6++spP x.sp=q7 at *
 generalize q7++[x.sp.sgn]=q8 at *
 generalize q8++leP x.le=q9 at *
 generalize q9++[x.le.sgn]=qa at *
 have l1:=zaa q1
 have l2:=zaa q2
 have l3:=zaa q3
 have l5:=zaa q5
 have l6:=zaa q6
 have l7:=zaa q7
 have l8:=zaa q8
 have l9:=zaa q9
 have la:=zaa qa
 have s1:=zan q1
 have s2:=zan q2
 have s3:=zan q3
 have s5:=zan q5
 have s6:=zan q6
 have s7:=zan q7
 have s8:=zan q8
 have s9:=zan q9
 have sa:=zan qa
 have ta:List.take qa.length (strsAV qa)=strsAV qa:=List.take_of_length_le (by omega)
 simp(maxSteps:=1000000) (disch:=apply zq;omega) only[go_sem,simprocAttr,↓Nat.reduceEqDiff,xx,fd24,m24,u1,u2,u3,u4,u5,u6,t1,t2,t5,t6,w1,w2,w3,w4,w5,w6,c1,c2,c3,l1,l2,l3,s1,s2,s3]
 rw[zam (fun i=>(⟨[.set 85 (i64 i),.set 84 (i64 0),.set 83 (.lst true .sc []),.set 4 (.fn 2000072 [.ptr 9 []]),.set 3 (.ptr 9 []),.set 1 (.ptr 1 [])],[(6090,gw q3),(9,bx 6090 q3),(1,.fix sRe (z3v x))]⟩:St)) 0 (by unfold LF;omega)]
 . simp(maxSteps:=1000000) (disch:=apply zq;omega) only[go_sem,simprocAttr,↓Nat.reduceEqDiff,xx,u1,u2,u3,u4,u5,u6,t1,t2,t5,t6,w1,w2,w3,w4,w5,w6,c4,c5,k1,c6,c7,k2,c8,c9,l3,l5,l6,l7,l8,l9,la,s3,s5,s6,s7,s8,s9,sa,ta]
 . simp(disch:=apply zq;omega) only[go_sem,simprocAttr,↓Nat.reduceEqDiff,xx,l1,l2,l3]
 . intro i hi;omega
 . simp(disch:=apply zq;omega) only[go_sem,simprocAttr,↓Nat.reduceEqDiff,xx,l3,s3]
end Go.Proofs.S44.L
namespace Go.Mk
def spl (n:Nat):Nat:=2^(n-1).log2
theorem zej {n:Nat}(h:2<=n):spl n<n:=by
 have:=Nat.log2_self_le (show n-1≠0 by omega)
 unfold spl;omega
theorem zdz (n:Nat):0<spl n:=Nat.two_pow_pos _
theorem z61 {n:Nat}:n<=2*spl n:=by
 have:=@Nat.lt_log2_self (n-1)
 unfold spl
 rw[Nat.pow_succ]at this
 omega
theorem qdb {n m:Nat}(h:2<=n)(hn:n<=2^(m+1)):spl n<=2^m:=by
 have h1:=zej h
 unfold spl at *
 refine Nat.pow_le_pow_right (by decide) ?_
 rcases Nat.lt_or_ge m (n-1).log2 with h2|h2
 . have:=Nat.pow_le_pow_right (show 0<2 by decide) (show m+1<=(n-1).log2 by omega)
   omega
 . exact h2
theorem zmz {n k:Nat}(h1:2^k<n)(h2:n<=2^(k+1)):spl n=2^k:=by
 unfold spl
 congr 1
 rw[Nat.log2_eq_iff (by have:=Nat.two_pow_pos k;omega)]
 omega
section
variable {D :Type} (node:D->D->D) (emp:D)
def rt (l:List D):D :=
 if h:2<=l.length then node (rt (l.take (spl l.length))) (rt (l.drop (spl l.length)))else l.headD emp
termination_by l.length
decreasing_by
 . have:=zej h;rw[wC];omega
 . have:=zdz l.length;rw[wD];omega
variable {node emp}
theorem zm4 {l:List D}(h:2<=l.length):rt node emp l=node (rt node emp (l.take (spl l.length))) (rt node emp (l.drop (spl l.length))):=by rw[rt,dif_pos h]
theorem zqd :rt node emp []=emp:=by rw[rt,dif_neg (by simp)];rfl
theorem zt3 (d:D):rt node emp [d]=d:=by rw[rt,dif_neg (by simp)];rfl
theorem z8z {l:List D}(h:l.length=1):rt node emp l=l.headD emp:=by rw[rt,dif_neg (by omega)]
variable (node emp)
def incl (l:List D)(i:Nat):List D :=
 if h:2<=l.length then
  if i<spl l.length then incl (l.take (spl l.length)) i++[rt node emp (l.drop (spl l.length))]
  else incl (l.drop (spl l.length)) (i-spl l.length)++[rt node emp (l.take (spl l.length))]
 else []
termination_by l.length
decreasing_by
 . have:=zej h;rw[wC];omega
 . have:=zdz l.length;rw[wD];omega
variable {node emp}
theorem ze0 {l:List D}{i:Nat}(h:l.length<2):incl node emp l i=[]:=by rw[incl,dif_neg (by omega)]
theorem zl5 {l:List D}{i:Nat}(h:2<=l.length)(hi:i<spl l.length):incl node emp l i=incl node emp (l.take (spl l.length)) i++[rt node emp (l.drop (spl l.length))]:=by rw[incl,dif_pos h,if_pos hi]
theorem zl6 {l:List D}{i:Nat}(h:2<=l.length)(hi:¬i<spl l.length):incl node emp l i=incl node emp (l.drop (spl l.length)) (i-spl l.length)++[rt node emp (l.take (spl l.length))]:=by rw[incl,dif_pos h,if_neg hi]
def dep (i n:Nat):Nat :=
 if h:2<=n then(if i<spl n then dep i (spl n)else dep (i-spl n) (n-spl n))+1 else 0
termination_by n
decreasing_by
 . exact zej h
 . have:=zdz n;omega
theorem dep_one {i n:Nat}(h:n<2):dep i n=0:=by rw[dep,dif_neg (by omega)]
theorem z1y {i n:Nat}(h:2<=n)(hi:i<spl n):dep i n=dep i (spl n)+1:=by rw[dep,dif_pos h,if_pos hi]
theorem z1z {i n:Nat}(h:2<=n)(hi:¬i<spl n):dep i n=dep (i-spl n) (n-spl n)+1:=by rw[dep,dif_pos h,if_neg hi]
variable (node)
def cl (z leaf:D)(i n:Nat)(p:List D):D :=
 if h:2<=n then
  if i<spl n then node (cl z leaf i (spl n) p.dropLast) (p.getLastD z)else node (p.getLastD z) (cl z leaf (i-spl n) (n-spl n) p.dropLast)
 else leaf
termination_by n
decreasing_by
 . exact zej h
 . have:=zdz n;omega
variable {node}
theorem zvl {z leaf:D}{i n:Nat}{p:List D}(h:n<2):cl node z leaf i n p=leaf:=by rw[cl,dif_neg (by omega)]
theorem qbo {z leaf:D}{i n:Nat}{p:List D}(h:2<=n)(hi:i<spl n):cl node z leaf i n p=node (cl node z leaf i (spl n) p.dropLast) (p.getLastD z):=by rw[cl,dif_pos h,if_pos hi]
theorem qbp {z leaf:D}{i n:Nat}{p:List D}(h:2<=n)(hi:¬i<spl n):cl node z leaf i n p=node (p.getLastD z) (cl node z leaf (i-spl n) (n-spl n) p.dropLast):=by rw[cl,dif_pos h,if_neg hi]
theorem zis (p:List D)(d z:D):(p++[d]).getLastD z=d:=by simp
theorem incl_ok (z:D):∀(m:Nat) (l:List D) (i:Nat),l.length<=m->i<l.length->(incl node emp l i).length=dep i l.length/\cl node z (l.getD i emp) i l.length (incl node emp l i)=rt node emp l
 | 0,l,i,hm,hi=>by omega
 | m+1,l,i,hm,hi=>by
   by_cases h2:2<=l.length
   case neg =>
    have h1:l.length=1:=by omega
    obtain rfl:i=0:=by omega
    rw[ze0 (by omega),dep_one (by omega),zvl (by omega),z8z h1]
    refine⟨rfl,?_⟩
    match l,h1 with
    | [d],_=>rfl
   have hs:=zej h2
   have hp:=zdz l.length
   have ht:(l.take (spl l.length)).length=spl l.length:=by rw[wC];omega
   have hd:(l.drop (spl l.length)).length=l.length-spl l.length:=wD
   by_cases hk:i<spl l.length
   . obtain⟨a1,a2⟩:=incl_ok z m (l.take (spl l.length)) i (by omega) (by omega)
     rw[ht]at a1 a2
     rw[zl5 h2 hk,z1y h2 hk,qbo h2 hk,zm4 h2,wA,a1,wE,zis]
     refine⟨rfl,?_⟩
     rw[<-a2]
     congr 2
     rw[wB,wB,List.getElem?_take,if_pos hk]
   . obtain⟨a1,a2⟩:=incl_ok z m (l.drop (spl l.length)) (i-spl l.length) (by omega) (by omega)
     rw[hd]at a1 a2
     rw[zl6 h2 hk,z1z h2 hk,qbp h2 hk,zm4 h2,wA,a1,wE,zis]
     refine⟨rfl,?_⟩
     rw[<-a2]
     congr 2
     rw[wB,wB,List.getElem?_drop,show spl l.length+(i-spl l.length)=i by omega]
variable (node emp)
def cons (l:List D)(m:Nat)(mark:Bool):List D :=
 if m=l.length then(if mark then []else [rt node emp l])
 else if h:2<=l.length then
  if m<=spl l.length then cons (l.take (spl l.length)) m mark++[rt node emp (l.drop (spl l.length))]
  else cons (l.drop (spl l.length)) (m-spl l.length) false++[rt node emp (l.take (spl l.length))]
 else []
termination_by l.length
decreasing_by
 . have:=zej h;rw[wC];omega
 . have:=zdz l.length;rw[wD];omega
variable {node emp}
variable (node)
variable {node}
variable (node emp)
variable {node emp}
variable (node)
variable {node}
end
end Go.Mk
