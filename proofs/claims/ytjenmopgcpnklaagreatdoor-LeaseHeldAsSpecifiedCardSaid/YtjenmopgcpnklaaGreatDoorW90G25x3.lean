/-
  Chapter 30: until when, as specified: by halving. No condition.
-/
import Derived.Test.YtjenmopgcpnklaaGreatDoorW90G24x3
set_option linter.unusedVariables false
set_option linter.unusedSimpArgs false
set_option linter.unusedSectionVars false
namespace Go.Proofs.S90.G
open Go Go.Ev Go.Proofs Go.Ck
variable {gl :Gl} {n:Nat}
def LU :MC:=match m50 with| .seq _ (.seq _ (.seq _ (.seq (.block _ (.loop _ b)) _)))=>b|_=>.skip
def S50h (c:Cl)(T l:Nat)(x:Nat×Nat):St:=⟨[.set 6 (i64 (((l+x.2:Nat):Int)-1)),.set 5 (i64 (((l+x.1:Nat):Int)-1)),.set 2 (.ptr 2 []),.set 1 (i64 T)],[(2,.fix sCl (cAV c))]⟩
theorem half_gen {e:Nat}{c:Cl}{T l:Nat}{p:Nat->Bool}{u N:Nat}(hN:l+N=2199023255553)(hu:u<=N)(iff:∀j,j<N->(p j=true↔j<u))
  (cl:∀j,j<N->call gl tab e 71 [cAV c,i64 ((l+j:Nat):Int),i64 T] []=some (.bool (p j),[],[])) :
  ∀st,clean [.slot 1,.slot 2,.slot 5,.slot 6,.key 2] st=some (S50h c T l (0,N+1))->iter (evC gl (call gl tab e) LU) [.slot 1,.slot 2,.slot 5,.slot 6,.key 2] LF st=evC gl (call gl tab e) LU (S50h c T l (u,u+1)):=by
 obtain⟨⟨lo,hi⟩,⟨i1,i2,i3⟩,hgo,hit⟩:=iter_meas (f:=evC gl (call gl tab e) LU) (ks:=[.slot 1,.slot 2,.slot 5,.slot 6,.key 2]) (S50h c T l)
  (fun x=>x.1<=u/\u<x.2/\x.2<=N+1) (fun x=>x.2-x.1)
  (fun x=>if p ((x.1+x.2)/2-1)=true then((x.1+x.2)/2,x.2)else(x.1,(x.1+x.2)/2)) (fun x=>decide (1<x.2-x.1)) (a0:=(0,N+1)) (by unfold LF;simp;omega) ⟨by simp,by simp only;omega,by simp⟩
  (fun⟨x,y⟩ ⟨h1,h2,h3⟩ hg=>by
    simp only[decide_eq_true_eq]at h1 h2 h3 hg ⊢
    obtain⟨q,hq⟩:∃q,q=(x+y)/2:=⟨_,rfl⟩
    have q1:x<q:=by omega
    have q2:q<y:=by omega
    rw[<-hq]
    have iff:=iff (q-1) (by omega)
    have c1:=cl (q-1) (by omega)
    have ez:((l+(q-1):Nat):Int)=((l+q:Nat):Int)-1:=by omega
    rw[ez]at c1
    obtain⟨Y,hY⟩:∃Y,Y=2*l+x+y-2:=⟨_,rfl⟩
    have eY:(((l+x:Nat):Int)-1)+(((l+y:Nat):Int)-1)=(Y:Int):=by omega
    have dY:binInt .quo .i64 (Y:Int) 2=some (i64 ((Y/2:Nat):Int)):=quoN (y:=Y) (z:=2) (by omega) (by omega)
    have eq:((Y/2:Nat):Int)=((l+q:Nat):Int)-1:=by omega
    rw[eq]at dY
    have g1:(1:Int)<(((l+y:Nat):Int)-1)-(((l+x:Nat):Int)-1):=by omega
    have b1:-1<=((l+x:Nat):Int)-1/\((l+x:Nat):Int)-1<=2199023255553:=by omega
    have b2:-1<=((l+y:Nat):Int)-1/\((l+y:Nat):Int)-1<=2199023255553:=by omega
    by_cases hk:p (q-1)=true
    . have:=iff.1 hk
      refine⟨?_,?_⟩
      . rw[if_pos hk,S50h,S50h]
        rw[hk]at c1
        simp only
        generalize ((l+x:Nat):Int)-1=lo at *
        generalize ((l+y:Nat):Int)-1=hi at *
        generalize ((l+q:Nat):Int)-1=mi at *
        simp(disch:=((fail_if_success (intro _));omega)) only[go_sem,simprocAttr,↓reduceIte,↓Nat.reduceEqDiff,xx,LU,m50,c1,eY,dY]
      . rw[if_pos hk]
        exact⟨⟨by simp only;omega,h2,h3⟩,by simp only;omega⟩
    . have:¬q-1<u:=fun h=>hk (iff.2 h)
      refine⟨?_,?_⟩
      . rw[if_neg hk,S50h,S50h]
        rw[Bool.not_eq_true]at hk
        rw[hk]at c1
        simp only
        generalize ((l+x:Nat):Int)-1=lo at *
        generalize ((l+y:Nat):Int)-1=hi at *
        generalize ((l+q:Nat):Int)-1=mi at *
        simp(disch:=((fail_if_success (intro _));omega)) only[go_sem,simprocAttr,↓reduceIte,↓Nat.reduceEqDiff,xx,LU,m50,c1,eY,dY]
      . rw[if_neg hk]
        exact⟨⟨h1,by simp only;omega,by simp only;omega⟩,by simp only;omega⟩)
  (fun⟨x,y⟩ ⟨h1,h2,h3⟩ hg=>by
    simp only[decide_eq_false_iff_not]at h1 h2 h3 hg
    have g1:¬(1:Int)<(((l+y:Nat):Int)-1)-(((l+x:Nat):Int)-1):=by omega
    have b1:-1<=((l+x:Nat):Int)-1/\((l+x:Nat):Int)-1<=2199023255553:=by omega
    have b2:-1<=((l+y:Nat):Int)-1/\((l+y:Nat):Int)-1<=2199023255553:=by omega
    rw[S50h]
    simp only
    generalize ((l+x:Nat):Int)-1=lo at *
    generalize ((l+y:Nat):Int)-1=hi at *
    simp(disch:=((fail_if_success (intro _));omega)) only[go_sem,simprocAttr,↓reduceIte,↓Nat.reduceEqDiff,xx,LU,m50])
 simp only[decide_eq_false_iff_not]at i1 i2 i3 hgo
 obtain rfl:lo=u:=by omega
 obtain rfl:hi=lo+1:=by omega
 exact hit
theorem runtil_at (h:4<=n){c:Cl}{l a b d:Nat}(hc:CN c l a b d)(T:Nat):call gl tab n 50 [cAV c,i64 T] []=some (i64 (untN l b d T),[],[]):=by
 obtain⟨e,rfl⟩:=Nat.exists_eq_add_of_le' h
 have hl:=hc.l1
 have hu:=lateN_le b d T (2199023255553-l)
 have hit:=half_gen (gl:=gl) (e:=e+3) (c:=c) (T:=T) (l:=l) (N:=2199023255553-l) (by omega) hu (fun j hj=>lateN_iff hj) (fun j hj=>early_at (by omega) hc T (by omega))
 have el:c.l=(l:Int):=hc.el
 rw[untN]
 generalize lateN b d T (2199023255553-l)=u at *
 have e1:((l+0:Nat):Int)-1=c.l-1:=by omega
 have e2:((l+(2199023255553-l+1):Nat):Int)-1=2199023255553:=by omega
 have h0:0<=c.l:=by omega
 have h1:c.l<=2199023255552:=by omega
 simp only[LU,m50]at hit
 rw[call_go (fd:=fd50) rfl]
 simp(disch:=((fail_if_success (intro _));omega)) only[go_sem,simprocAttr,↓reduceIte,↓Nat.reduceEqDiff,xx,fd50,m50]
 rw[hit _ (by rw[S50h];simp only[e1,e2];simp(disch:=((fail_if_success (intro _));omega)) only[go_sem,simprocAttr,↓reduceIte,↓Nat.reduceEqDiff,xx])]
 rw[S50h]
 have e3:((l+u:Nat):Int)-1=c.l+(u:Int)-1:=by omega
 have e4:((l+(u+1):Nat):Int)-1=c.l+(u:Int):=by omega
 simp only[e3,e4]
 have hu2:(u:Int)<=2199023255553-c.l:=by omega
 by_cases hz:u=0
 . rw[if_pos hz]
   have hz2:(u:Int)=0:=by omega
   clear hit e1 e2 e3 e4 hu el
   generalize (u:Int)=v at *
   simp(disch:=((fail_if_success (intro _));omega)) only[go_sem,simprocAttr,↓reduceIte,↓Nat.reduceEqDiff,xx]
 . rw[if_neg hz]
   have hz2:1<=(u:Int):=by omega
   clear hit e1 e2 e3 e4 hu el
   generalize (u:Int)=v at *
   simp(disch:=((fail_if_success (intro _));omega)) only[go_sem,simprocAttr,↓reduceIte,↓Nat.reduceEqDiff,xx]
   rw[hc.el]
theorem rcworth_at (h:5<=n){c:Cl}{l a b d:Nat}(hc:CN c l a b d)(T:Nat){loc:Int}(h1:(l:Int)<=loc)(h2:loc<=2199023255552):call gl tab n 31 [cAV c,i64 loc,i64 T] []=some (i64 (wthN l b d T loc),[],[]):=by
 obtain⟨e,rfl⟩:=Nat.exists_eq_add_of_le' h
 have c1:=@runtil_at gl (e+4) (by omega) c l a b d hc T
 have hb:=unt_bd l b d T hc.l1
 have e0:c.l=(l:Int):=hc.el
 rw[wthN]
 generalize untN l b d T=u at *
 rw[call_go (fd:=fd31) rfl]
 by_cases hz:u+1-loc<0
 . rw[if_pos hz];simp(disch:=((fail_if_success (intro _));omega)) only[go_sem,simprocAttr,↓reduceIte,↓Nat.reduceEqDiff,xx,fd31,m31,c1]
 . rw[if_neg hz];simp(disch:=((fail_if_success (intro _));omega)) only[go_sem,simprocAttr,↓reduceIte,↓Nat.reduceEqDiff,xx,fd31,m31,c1]
theorem rworth_bad (h:4<=n)(x:Hd)(hx:x.le.sgn.length=16)(c:Cl){loc:Int}(hb:¬(HV x/\CK c/\c.l<=loc/\loc<=2199023255552)):call gl tab n 11 [hAV x,cAV c,i64 loc] []=some (.agg [i64 0,i64 1],[],[]):=by
 obtain⟨e,rfl⟩:=Nat.exists_eq_add_of_le' h
 have c1:=@rheld_at gl (e+3) (by omega) x hx
 have c2:=@rcheck_at gl (e+3) (by omega) c
 have q2:=H.bytes_all x.le.sgn
 rw[call_go (fd:=fd11) rfl]
 by_cases h1:HV x
 case neg=>rw[decide_eq_false h1]at c1;simp(disch:=((fail_if_success (intro _));omega)) only[go_sem,simprocAttr,↓reduceIte,↓Nat.reduceEqDiff,xx,fd11,m11,c1,hx,q2]
 rw[decide_eq_true h1]at c1
 by_cases h2:CK c
 case neg=>rw[if_neg h2]at c2;simp(disch:=((fail_if_success (intro _));omega)) only[go_sem,simprocAttr,↓reduceIte,↓Nat.reduceEqDiff,xx,fd11,m11,c1,c2,hx,q2]
 rw[if_pos h2]at c2
 by_cases h3:c.l<=loc
 case neg=>simp(disch:=((fail_if_success (intro _));omega)) only[go_sem,simprocAttr,↓reduceIte,↓Nat.reduceEqDiff,xx,fd11,m11,c1,c2,hx,q2]
 have h4:¬loc<=2199023255552:=fun h=>hb ⟨h1,h2,h3,h⟩
 simp(disch:=((fail_if_success (intro _));omega)) only[go_sem,simprocAttr,↓reduceIte,↓Nat.reduceEqDiff,xx,fd11,m11,c1,c2,hx,q2]
theorem rworth_ok (h:6<=n)(x:Hd)(hx:x.le.sgn.length=16)(hv:HV x){T:Nat}(hT:x.le.til=T){c:Cl}{l a b d:Nat}(hk:CK c)(hc:CN c l a b d){loc:Int}(h1:c.l<=loc)(h2:loc<=2199023255552) :
  call gl tab n 11 [hAV x,cAV c,i64 loc] []=some (.agg [i64 (if T=0 then 0 else wthN l b d T loc),i64 0],[],[]):=by
 obtain⟨e,rfl⟩:=Nat.exists_eq_add_of_le' h
 have c1:=@rheld_at gl (e+5) (by omega) x hx
 have c2:=@rcheck_at gl (e+5) (by omega) c
 have q2:=H.bytes_all x.le.sgn
 rw[decide_eq_true hv]at c1
 rw[if_pos hk]at c2
 have c3:=@rcworth_at gl (e+5) (by omega) c l a b d hc T loc (by rw[<-hc.el];exact h1) h2
 rw[call_go (fd:=fd11) rfl]
 by_cases hz:T=0
 . subst hz
   rw[if_pos rfl]
   have hb:(x.le.til==0)=true:=by rw[hT];rfl
   simp(disch:=((fail_if_success (intro _));omega)) only[go_sem,simprocAttr,↓reduceIte,↓Nat.reduceEqDiff,xx,fd11,m11,c1,c2,hx,q2,hb]
 . rw[if_neg hz]
   have hb:(x.le.til==0)=false:=by rw[hT,beq_eq_false_iff_ne];omega
   rw[<-hT]at c3
   generalize wthN l b d T loc=w at *
   simp(disch:=((fail_if_success (intro _));omega)) only[go_sem,simprocAttr,↓reduceIte,↓Nat.reduceEqDiff,xx,fd11,m11,c1,c2,c3,hx,q2,hb]
end Go.Proofs.S90.G
namespace Go.Proofs.S90.G
open Go Go.Ev Go.Proofs Go.Ck
open Go.Proofs.S90.H (GlK GlR)
variable {gl :Gl} {n:Nat}
theorem kd_ks0 :∀{l:List AV},(∀x∈l,HasKd kKy x)->∃r:List Ky,l=ks r/\∀i,i<r.length->(yat r i).k.length<=ML
 | [],_=>⟨[],rfl,fun i hi=>by simp at hi⟩
 | x::l,h=>by
   obtain⟨a,rfl,_,_,ha⟩:=kd_ky (h x (by simp))
   obtain⟨r,rfl,hr⟩:=kd_ks0 (l:=l) fun y hy=>h y (by simp[hy])
   refine⟨a::r,rfl,fun i hi=> ?_⟩
   cases i with
   | zero=>exact ha
   | succ i=>exact hr i (by simpa using hi)
theorem kd_ks {a:AV}(h:HasKd (.sl kKy) a):∃l,a= .lst false sY (ks l)/\l.length<=ML/\∀i,i<l.length->(yat l i).k.length<=ML:=by
 obtain⟨l,rfl,h0,h⟩:=h
 obtain⟨r,rfl,hr⟩:=kd_ks0 h
 rw[ks_length]at h0
 exact⟨r,rfl,ml_le h0,hr⟩
theorem eqAV_it (x:Int):eqAV .it (i64 x) (i64 x)=some true:=by simp[eqAV]
theorem eqL (a b c d:Int){z:List UInt8}(hz:z.length=16):eqAV (.st [.it,.it,.it,.it,.ar 16 .it]) (.agg [i64 a,i64 b,i64 c,i64 d,.agg (bytesAV z)]) (.agg [i64 a,i64 b,i64 c,i64 d,.agg (bytesAV z)])=some true:=by
 have:=S90.eqB hz hz
 rw[eqAV]
 simp only[eqAVs,eqAV_it,this,decide_true,Option.bind_some,if_pos]
theorem eqH (x:Hd)(hx:x.le.sgn.length=16):eqAV (.st [.it,.it,.st [.it,.it,.it,.it,.ar 16 .it]]) (hAV x) (hAV x)=some true:=by
 have:=eqL x.le.site x.le.ep x.le.til x.le.ser hx
 rw[hAV,eqAV]
 simp only[eqAVs,eqAV_it,this,decide_true,Option.bind_some,if_pos]
theorem hear_pair (h:3<=n)(x:Hd)(hx:x.le.sgn.length=16)(e:Int):∃(y:Hd) (c:Int),y.le.sgn.length=16/\call gl tab n 6 [hAV x,i64 e] []=some (.tup [hAV y,i64 c],[],[])/\call gl tab n 9 [hAV x,i64 e] []=some (.agg [hAV y,i64 c],[],[]):=by
 by_cases hb:HV x/\0<=e/\e<=1099511627776
 . exact⟨⟨x.s,mx x.h e,x.le⟩,0,hx,hear_ok h x hx hb.1 hb.2.1 hb.2.2,rhear_ok h x hx hb.1 hb.2.1 hb.2.2⟩
 . exact⟨x,1,hx,hear_bad h x hx hb,rhear_bad h x hx hb⟩
theorem tkE_16 {ring:List Ky}{x:Hd}{l:Le}(hx:x.le.sgn.length=16)(hl:l.sgn.length=16):(tkE ring x l).1.le.sgn.length=16:=by
 unfold tkE
 split
 . exact hx
 . split
   . exact hx
   . split
     . exact hx
     . split
       . exact hx
       . exact hl
theorem worth_pair (h:6<=n)(x:Hd)(hx:x.le.sgn.length=16)(c:Cl)(loc:Int):∃w e,call gl tab n 8 [hAV x,cAV c,i64 loc] []=some (.tup [i64 w,i64 e],[],[])/\call gl tab n 11 [hAV x,cAV c,i64 loc] []=some (.agg [i64 w,i64 e],[],[]):=by
 by_cases hb:HV x/\CK c/\c.l<=loc/\loc<=2199023255552
 . obtain⟨hv,hk,h1,h2⟩:=hb
   obtain⟨l,a,b,d,hc⟩:=hk.nat
   obtain⟨T,hT⟩:∃T:Nat,x.le.til=T:=⟨x.le.til.toNat,by have:=hv.2.2.1;omega⟩
   exact⟨_,0,worth_ok h x hx hv hT hk hc h1 h2,rworth_ok h x hx hv hT hk hc h1 h2⟩
 . exact⟨0,1,worth_bad (by omega) x hx c hb,rworth_bad (by omega) x hx c hb⟩
theorem law3 [Nonempty (GlK gl)][Nonempty (GlR gl)](hn:20<=n)(ar:List AV)(h:HasKds [.sl kKy,kHe,kLe,kI,kPe,kCl,kI] ar):call gl tab (n+1) 3 ar []=some (.bool true,[],[]):=by
 simp only[HasKds]at h
 obtain⟨_,_,rfl,h1,_,_,rfl,h2,_,_,rfl,h3,_,_,rfl,h4,_,_,rfl,h5,_,_,rfl,h6,_,_,rfl,h7,rfl⟩:=h
 obtain⟨ring,rfl,hr0,hr⟩:=kd_ks h1
 obtain⟨x,rfl,hx⟩:=kd_he h2
 obtain⟨le,rfl,hle⟩:=kd_le h3
 obtain⟨e,rfl,he⟩:=kd_i h4
 obtain⟨lo,hi,rfl,hlo,hhi⟩:=kd_pe h5
 obtain⟨c,rfl⟩:=kd_cl h6
 obtain⟨loc,rfl,hloc⟩:=kd_i h7
 clear h1 h2 h3 h4 h5 h6 h7
 have c5:=@sanity_at gl n _ hn
 have hL:=ks_length ring
 have q1:=H.bytes_all x.le.sgn
 have q2:=H.bytes_all le.sgn
 have hs:=hx.s
 have hs2:=hle.s
 by_cases g1:ring.length<=20
 case neg=>rw[call_go (fd:=fd3) rfl];simp(disch:=((fail_if_success (intro _));omega)) only[go_sem,simprocAttr,↓reduceIte,↓Nat.reduceEqDiff,xx,fd3,m3,c5,hL,hs,hs2,q1,q2,↓out16_eq]
 obtain⟨b,hb,c4⟩:=@ring_at gl n (by omega) false sY ring (.inr rfl) ⟨by omega,fun i hi=>hr i hi⟩
 cases b with
 | false=>rw[call_go (fd:=fd3) rfl];simp(disch:=((fail_if_success (intro _));omega)) only[go_sem,simprocAttr,↓reduceIte,↓Nat.reduceEqDiff,xx,fd3,m3,c5,c4,hL,hs,hs2,q1,q2,↓out16_eq]
 | true =>
 have hv:=hb.1 rfl
 obtain⟨y1,e1,z1,a1,b1⟩:=hear_pair (gl:=gl) (n:=n) (by omega) x hs e
 have a2:=take_at (gl:=gl) (n:=n) (f:=false) (sh:=sY) (by omega) (.inr rfl) hv x hs le hle
 have b2:=rtake_at (gl:=gl) (n:=n) (f:=false) (sh:=sY) (by omega) (.inr rfl) hv x hs le hle
 have z2:=@tkE_16 ring x le hs hs2
 generalize tkE ring x le=tk at *
 obtain⟨y2,e2⟩:=tk
 simp only at a2 b2 z2
 obtain⟨w,e3,a3,b3⟩:=worth_pair (gl:=gl) (n:=n) (by omega) x hs c loc
 have a4:=serve_at (gl:=gl) (n:=n) (by omega) x hs lo hi
 have b4:=rserve_at (gl:=gl) (n:=n) (by omega) x hs lo hi
 have p1:=eqH y1 z1
 have p2:=eqH y2 z2
 have r1:=H.bytes_all y1.le.sgn
 have r2:=H.bytes_all y2.le.sgn
 have u1:=beq_self_eq_true e1
 have u2:=beq_self_eq_true e2
 have u3:=beq_self_eq_true e3
 have u4:=beq_self_eq_true w
 rw[call_go (fd:=fd3) rfl]
 cases hV:decide (MS x lo hi)<;>rw[hV]at a4 b4<;>simp(maxSteps:=1000000) (implicitDefEqProofs:=false) (disch:=((fail_if_success (intro _));omega)) only[go_sem,simprocAttr,↓reduceIte,↓Nat.reduceEqDiff,xx,fd3,m3,c5,c4,hL,hs,hs2,q1,q2,z1,z2,r1,r2,a1,b1,a2,b2,a3,b3,a4,b4,p1,p2,u1,u2,u3,u4,↓out16_eq,H.out16_len,H.out16_all,H.out16_pl]
end Go.Proofs.S90.G
