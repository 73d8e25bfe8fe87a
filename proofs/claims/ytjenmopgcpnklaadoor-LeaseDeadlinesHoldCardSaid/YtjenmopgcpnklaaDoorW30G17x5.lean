/-
  Chapter 30: clocks. No condition.
-/
import Derived.Test.YtjenmopgcpnklaaDoorW30G16x5
set_option linter.unusedVariables false
set_option linter.unusedSimpArgs false
set_option linter.unusedSectionVars false
namespace Go.Proofs.S30.G
open Go Go.Ev Go.Proofs Go.Ck
variable {gl :Gl} {n:Nat}
structure Cl where
 l:Int
 lo:Int
 hi:Int
 d:Int
abbrev cAV (c:Cl):AV:=.agg [i64 c.l,.agg [i64 c.lo,i64 c.hi],i64 c.d]
def CK (c:Cl):Prop:=(0<=c.l/\c.l<=2199023255552)/\CV c.lo c.hi/\0<=c.d/\c.d<=100000
instance (c :Cl):Decidable (CK c):=by unfold CK;infer_instance
theorem check_at (h:2<=n)(c:Cl):call gl tab n 47 [cAV c] []=some (i64 (if CK c then 0 else 1),[],[]):=by
 obtain⟨d,rfl⟩:=Nat.exists_eq_add_of_le' h
 have c2:=@cvalid_at gl (d+1) (by omega) c.lo c.hi
 rw[call_go (fd:=fd47) rfl]
 by_cases h1:0<=c.l
 case neg=>rw[if_neg (fun h:CK c=>h1 h.1.1)];simp(disch:=((fail_if_success (intro _));omega)) only[go_sem,simprocAttr,↓reduceIte,↓Nat.reduceEqDiff,xx,fd47,m47,c2]
 by_cases h2:c.l<=2199023255552
 case neg=>rw[if_neg (fun h:CK c=>h2 h.1.2)];simp(disch:=((fail_if_success (intro _));omega)) only[go_sem,simprocAttr,↓reduceIte,↓Nat.reduceEqDiff,xx,fd47,m47,c2]
 by_cases h3:CV c.lo c.hi
 case neg=>rw[if_neg (fun h:CK c=>h3 h.2.1)];rw[decide_eq_false h3]at c2;simp(disch:=((fail_if_success (intro _));omega)) only[go_sem,simprocAttr,↓reduceIte,↓Nat.reduceEqDiff,xx,fd47,m47,c2]
 rw[decide_eq_true h3]at c2
 by_cases h4:0<=c.d
 case neg=>rw[if_neg (fun h:CK c=>h4 h.2.2.1)];simp(disch:=((fail_if_success (intro _));omega)) only[go_sem,simprocAttr,↓reduceIte,↓Nat.reduceEqDiff,xx,fd47,m47,c2]
 by_cases h5:c.d<=100000
 case neg=>rw[if_neg (fun h:CK c=>h5 h.2.2.2)];simp(disch:=((fail_if_success (intro _));omega)) only[go_sem,simprocAttr,↓reduceIte,↓Nat.reduceEqDiff,xx,fd47,m47,c2]
 rw[if_pos (show CK c from⟨⟨h1,h2⟩,h3,h4,h5⟩)]
 simp(disch:=((fail_if_success (intro _));omega)) only[go_sem,simprocAttr,↓reduceIte,↓Nat.reduceEqDiff,xx,fd47,m47,c2]
structure CN (c:Cl)(l a b d:Nat):Prop where
 el:c.l=l
 ea:c.lo=a
 eb:c.hi=b
 ed:c.d=d
 l1:l<=2199023255552
 ab:a<=b
 b1:b<=1099511627776
 d1:d<=100000
theorem CK.nat {c:Cl}(h:CK c):∃l a b d,CN c l a b d:=by
 obtain⟨⟨h1,h2⟩,⟨h3,h4,h5⟩,h6,h7⟩:=h
 exact⟨c.l.toNat,c.lo.toNat,c.hi.toNat,c.d.toNat,by omega,by omega,by omega,by omega,by omega,by omega,by omega,by omega⟩
theorem quoN {y z:Nat}(h:0<z)(hy:y<=4611686018427387904):binInt .quo .i64 (y:Int) (z:Int)=some (i64 ((y/z:Nat):Int)):=by
 show(if(z:Int)=0 then none else some (AV.int .i64 (IntKind.i64.wrap ((y:Int).tdiv z))))=_
 have:=Nat.div_le_self y z
 rw[if_neg (by omega),show(y:Int).tdiv z=((y/z:Nat):Int)from rfl]
 generalize y/z=q at *
 rw[wrap_i64 (by omega) (by omega)]
theorem read_at (h:1<=n){c:Cl}{l a b d:Nat}(hc:CN c l a b d){j:Nat}(hj:l+j<=2199023255552) :
  call gl tab n 31 [cAV c,i64 ((l+j:Nat):Int)] []=some (.tup [.agg [i64 (loN a d j),i64 (hiN b d j)],i64 0],[],[]):=by
 obtain⟨e,rfl⟩:=Nat.exists_eq_add_of_le' h
 obtain⟨cl,clo,chi,cd⟩:=c
 obtain⟨h1,h2,h3,h4,h5,h6,h7,h8⟩:=hc
 simp only at h1 h2 h3 h4
 subst h1 h2 h3 h4
 obtain⟨w,hw,w1,w2,w3⟩:=max_ex ((j:Int)-1) 0
 have hwn:w=((j-1:Nat):Int):=by omega
 have hq1:(j-1)*1000000<=2199023255552000000:=by omega
 obtain⟨F,hF⟩:∃F,F=1000000+d:=⟨_,rfl⟩
 obtain⟨G,hG⟩:∃G,G=1000000-d:=⟨_,rfl⟩
 obtain⟨y1,hy1⟩:∃y,y=(j-1)*1000000+F-1:=⟨_,rfl⟩
 obtain⟨y2,hy2⟩:∃y,y=(j+1)*1000000:=⟨_,rfl⟩
 have e3:(1000000:Int)+(d:Int)=(F:Int):=by omega
 have e4:(1000000:Int)-(d:Int)=(G:Int):=by omega
 have e1:((j-1:Nat):Int)*1000000+(F:Int)-1=(y1:Int):=by omega
 have e2:((j:Int)+1)*1000000=(y2:Int):=by omega
 have hF0:0<F:=by omega
 have hG0:0<G:=by omega
 have hy3:y1<=2199023255553000000:=by omega
 have hy4:y2<=2199023255553000000:=by omega
 have d1:=quoN (y:=y1) (z:=F) hF0 (by omega)
 have d2:=quoN (y:=y2) (z:=G) hG0 (by omega)
 have b1:y1/F<=y1:=Nat.div_le_self _ _
 have b2:y2/G<=y2:=Nat.div_le_self _ _
 have f1:loN a d j=min (a+y1/F) 1099511627776:=by rw[hy1,hF,loN]
 have f2:hiN b d j=min (b+y2/G) 1099511627776:=by rw[hy2,hG,hiN]
 generalize y1/F=A at *
 generalize y2/G=B at *
 obtain⟨u,hu,u1,u2,u3⟩:=min_ex ((a:Int)+(A:Int)) 1099511627776
 obtain⟨v,hv,v1,v2,v3⟩:=min_ex ((b:Int)+(B:Int)) 1099511627776
 have g1:((loN a d j:Nat):Int)=u:=by rw[f1];omega
 have g2:((hiN b d j:Nat):Int)=v:=by rw[f2];omega
 rw[g1,g2]
 have s1:((l+j:Nat):Int)-(l:Int)=(j:Int):=by omega
 have s2:((l+j:Nat):Int)<=2199023255552:=by omega
 have s3:(l:Int)<=((l+j:Nat):Int):=by omega
 clear f1 f2 g1 g2
 generalize ((l+j:Nat):Int)=z at *
 rw[call_go (fd:=fd31) rfl]
 subst hwn
 generalize hx:((j-1:Nat):Int)=x at *
 have hx2:0<=x/\x<=2199023255552:=by omega
 simp(implicitDefEqProofs:=false) (disch:=((fail_if_success (intro _));omega)) only[go_sem,simprocAttr,↓reduceIte,↓Nat.reduceEqDiff,xx,fd31,m31,hw,d1,d2,s1,e1,e2,e3,e4,hu,hv]
end Go.Proofs.S30.G
namespace Go.Proofs.S30.G
open Go Go.Ev Go.Proofs Go.Ck
variable {gl :Gl} {n:Nat}
abbrev sCl :Sh:=.st [.sc,.st [.sc,.sc],.sc]
abbrev hU (c:Cl)(t:Int):Hp:=[(100000,.fix sCl (cAV c)),(100001,.fix .sc (i64 t))]
theorem late_at (h:2<=n){c:Cl}{l a b d:Nat}(hc:CN c l a b d)(T:Nat){j:Nat}(hj:l+j<=2199023255552) :
  call gl tab n 76 [i64 j,.ptr 100000 [],.ptr 100001 []] (hU c T)=some (.bool (! ear b d T j),hU c T,[]):=by
 obtain⟨e,rfl⟩:=Nat.exists_eq_add_of_le' h
 have c1:=@read_at gl (e+1) (by omega) c l a b d hc j hj
 have e1:c.l+(j:Int)=((l+j:Nat):Int):=by rw[hc.el];omega
 have c2:=@before_at gl (e+1) (by omega) (loN a d j) (hiN b d j) T
 have hl:=hc.l1
 have hb:decide (((hiN b d j:Nat):Int)<(T:Int))=ear b d T j:=by unfold ear;exact decide_eq_decide.2 (by omega)
 rw[hb]at c2
 have h0:0<=c.l:=by rw[hc.el];omega
 have h1:c.l<=2199023255552:=by rw[hc.el];omega
 generalize ear b d T j=w at *
 generalize ((loN a d j:Nat):Int)=lo at *
 generalize ((hiN b d j:Nat):Int)=hi at *
 generalize ((l+j:Nat):Int)=z at *
 rw[call_gen (fd:=fd76) rfl]
 simp(disch:=((fail_if_success (intro _));omega)) only[go_sem,simprocAttr,↓reduceIte,↓Nat.reduceEqDiff,xx,fd76,m76,c1,c2,e1]
def L77 :MC:=match m77 with| .seq _ (.seq _ (.seq (.block _ (.loop _ b)) _))=>b|_=>.skip
def S77 (c:Cl)(T:Nat)(x:Nat×Nat):St:=⟨[.set 6 (i64 x.2),.set 5 (i64 x.1),.set 1 (.fn 76 [.ptr 100000 [],.ptr 100001 []])],[(100001,.fix .sc (i64 T)),(100000,.fix sCl (cAV c))]⟩
theorem find_gen {e:Nat}{c:Cl}{T:Nat}{p:Nat->Bool}{u N:Nat}(hN:N<=2199023255553)(hu:u<=N)(iff:∀j,j<N->(p j=true↔j<u))
  (cl:∀j,j<N->call gl tab (e+2) 76 [i64 j,.ptr 100000 [],.ptr 100001 []] (hU c T)=some (.bool (! p j),hU c T,[])) :
  call gl tab (e+2+1) 77 [i64 N,.fn 76 [.ptr 100000 [],.ptr 100001 []]] (hU c T)=some (i64 u,hU c T,[]):=by
 obtain⟨⟨lo,hi⟩,⟨i1,i2,i3⟩,hgo,hit⟩:=iter_meas (f:=evC gl (call gl tab (e+2)) L77) (ks:=[.slot 1,.slot 5,.slot 6]) (S77 c T)
  (fun x=>x.1<=u/\u<=x.2/\x.2<=N) (fun x=>x.2-x.1)
  (fun x=>if p ((x.1+x.2)/2)=true then((x.1+x.2)/2+1,x.2)else(x.1,(x.1+x.2)/2)) (fun x=>decide (x.1<x.2)) (a0:=(0,N)) (by unfold LF;simp;omega) ⟨by simp,hu,by simp⟩
  (fun⟨x,y⟩ ⟨h1,h2,h3⟩ hg=>by
    simp only[decide_eq_true_eq]at h1 h2 h3 hg ⊢
    have hq:(x+y)/2<N:=by omega
    have iff:=iff _ hq
    have c1:=cl _ hq
    have eh:IntKind.wrap .i64 (((BitVec.ofInt 64 ((x:Int)+(y:Int)))>>>(1:Nat)).toNat:Int)=(((x+y)/2:Nat):Int):=by rw[show(x:Int)+(y:Int)=((x+y:Nat):Int) by omega];exact half_i (by omega)
    by_cases hk:p ((x+y)/2)=true
    . refine⟨?_,?_⟩
      . rw[if_pos hk,S77,S77]
        rw[hk]at c1
        generalize (x+y)/2=q at *
        simp(disch:=((fail_if_success (intro _));omega)) only[go_sem,simprocAttr,↓reduceIte,↓Nat.reduceEqDiff,xx,L77,m77,c1,eh]
      . rw[if_pos hk]
        have:=iff.1 hk
        exact⟨⟨by simp only;omega,h2,h3⟩,by simp only;omega⟩
    . refine⟨?_,?_⟩
      . rw[if_neg hk,S77,S77]
        rw[Bool.not_eq_true]at hk
        rw[hk]at c1
        generalize (x+y)/2=q at *
        simp(disch:=((fail_if_success (intro _));omega)) only[go_sem,simprocAttr,↓reduceIte,↓Nat.reduceEqDiff,xx,L77,m77,c1,eh]
      . rw[if_neg hk]
        have:¬(x+y)/2<u:=fun h=>hk (iff.2 h)
        exact⟨⟨h1,by simp only;omega,by simp only;omega⟩,by simp only;omega⟩)
  (fun⟨x,y⟩ ⟨h1,h2,h3⟩ hg=>by
    simp only[decide_eq_false_iff_not]at h1 h2 hg
    rw[S77]
    simp(disch:=((fail_if_success (intro _));omega)) only[go_sem,simprocAttr,↓reduceIte,↓Nat.reduceEqDiff,xx,L77,m77])
 simp only[decide_eq_false_iff_not]at i1 i2 i3 hgo
 obtain rfl:lo=u:=by omega
 obtain rfl:hi=lo:=by omega
 simp only[L77,m77]at hit
 rw[call_gen (fd:=fd77) rfl]
 simp(disch:=((fail_if_success (intro _));omega)) only[go_sem,simprocAttr,↓reduceIte,↓Nat.reduceEqDiff,xx,fd77,m77]
 rw[hit _ (by rw[S77];simp(disch:=((fail_if_success (intro _));omega)) only[go_sem,simprocAttr,↓reduceIte,↓Nat.reduceEqDiff,xx])]
 rw[S77]
 simp(disch:=((fail_if_success (intro _));omega)) only[go_sem,simprocAttr,↓reduceIte,↓Nat.reduceEqDiff,xx]
theorem find_at (h:3<=n){c:Cl}{l a b d:Nat}(hc:CN c l a b d)(T:Nat){N:Nat}(hN:l+N=2199023255553) :
  call gl tab n 77 [i64 N,.fn 76 [.ptr 100000 [],.ptr 100001 []]] (hU c T)=some (i64 (lateN b d T N),hU c T,[]):=by
 obtain⟨e,rfl⟩:=Nat.exists_eq_add_of_le' h
 exact find_gen (by omega) (lateN_le b d T N) (fun j hj=>lateN_iff hj) (fun j hj=>late_at (by omega) hc T (by omega))
def untN (l b d T:Nat):Int:=if lateN b d T (2199023255553-l)=0 then -1 else((l+lateN b d T (2199023255553-l):Nat):Int)-1
theorem until_at (h:4<=n){c:Cl}{l a b d:Nat}(hc:CN c l a b d)(T:Nat):call gl tab n 65 [cAV c,i64 T] []=some (i64 (untN l b d T),[],[]):=by
 obtain⟨e,rfl⟩:=Nat.exists_eq_add_of_le' h
 have hl:=hc.l1
 have c1:=@find_at gl (e+3) (by omega) c l a b d hc T (2199023255553-l) (by omega)
 have e1:2199023255553-c.l=((2199023255553-l:Nat):Int):=by rw[hc.el];omega
 have hu:=lateN_le b d T (2199023255553-l)
 have h0:0<=c.l:=by rw[hc.el];omega
 have h1:c.l<=2199023255552:=by rw[hc.el];omega
 have h2:c.l=(l:Int):=hc.el
 rw[untN]
 generalize lateN b d T (2199023255553-l)=u at *
 have hN:(((2199023255553-l:Nat):Int))<=2199023255553:=by omega
 generalize ((2199023255553-l:Nat):Int)=N at *
 rw[call_go (fd:=fd65) rfl]
 by_cases hz:u=0
 . subst hz
   rw[if_pos rfl]
   simp(disch:=((fail_if_success (intro _));omega)) only[go_sem,simprocAttr,↓reduceIte,↓Nat.reduceEqDiff,xx,fd65,m65,e1,c1]
 . rw[if_neg hz]
   have hb:((u:Int)==0)=false:=by rw[beq_eq_false_iff_ne];omega
   have e2:((l+u:Nat):Int)=c.l+(u:Int):=by omega
   rw[e2]
   clear h2 e2
   simp(disch:=((fail_if_success (intro _));omega)) only[go_sem,simprocAttr,↓reduceIte,↓Nat.reduceEqDiff,xx,fd65,m65,e1,c1,hb]
def wthN (l b d T:Nat)(loc:Int):Int:=if untN l b d T+1-loc<0 then 0 else untN l b d T+1-loc
theorem unt_bd (l b d T:Nat)(hl:l<=2199023255552):-1<=untN l b d T/\untN l b d T<=2199023255552:=by
 have hu:=lateN_le b d T (2199023255553-l)
 unfold untN;split<;>omega
theorem cworth_at (h:5<=n){c:Cl}{l a b d:Nat}(hc:CN c l a b d)(T:Nat){loc:Int}(h1:(l:Int)<=loc)(h2:loc<=2199023255552):call gl tab n 48 [cAV c,i64 loc,i64 T] []=some (i64 (wthN l b d T loc),[],[]):=by
 obtain⟨e,rfl⟩:=Nat.exists_eq_add_of_le' h
 have c1:=@until_at gl (e+4) (by omega) c l a b d hc T
 have hb:=unt_bd l b d T hc.l1
 have e0:c.l=(l:Int):=hc.el
 obtain⟨w,hw,w1,w2,w3⟩:=max_ex (untN l b d T+1-loc) 0
 have e1:wthN l b d T loc=w:=by unfold wthN;split<;>omega
 rw[e1]
 clear e1
 generalize untN l b d T=u at *
 rw[call_go (fd:=fd48) rfl]
 simp(disch:=((fail_if_success (intro _));omega)) only[go_sem,simprocAttr,↓reduceIte,↓Nat.reduceEqDiff,xx,fd48,m48,c1,hw]
theorem worth_bad (h:3<=n)(x:Hd)(hx:x.le.sgn.length=16)(c:Cl){loc:Int}(hb:¬(HV x/\CK c/\c.l<=loc/\loc<=2199023255552)):call gl tab n 30 [hAV x,cAV c,i64 loc] []=some (.tup [i64 0,i64 1],[],[]):=by
 obtain⟨e,rfl⟩:=Nat.exists_eq_add_of_le' h
 have c1:=@held_at gl (e+2) (by omega) x hx
 have c2:=@check_at gl (e+2) (by omega) c
 have q2:=H.bytes_all x.le.sgn
 rw[call_go (fd:=fd30) rfl]
 by_cases h1:HV x
 case neg=>rw[decide_eq_false h1]at c1;simp(disch:=((fail_if_success (intro _));omega)) only[go_sem,simprocAttr,↓reduceIte,↓Nat.reduceEqDiff,xx,fd30,m30,c1,hx,q2]
 rw[decide_eq_true h1]at c1
 by_cases h2:CK c
 case neg=>rw[if_neg h2]at c2;simp(disch:=((fail_if_success (intro _));omega)) only[go_sem,simprocAttr,↓reduceIte,↓Nat.reduceEqDiff,xx,fd30,m30,c1,c2,hx,q2]
 rw[if_pos h2]at c2
 by_cases h3:c.l<=loc
 case neg=>simp(disch:=((fail_if_success (intro _));omega)) only[go_sem,simprocAttr,↓reduceIte,↓Nat.reduceEqDiff,xx,fd30,m30,c1,c2,hx,q2]
 have h4:¬loc<=2199023255552:=fun h=>hb ⟨h1,h2,h3,h⟩
 simp(disch:=((fail_if_success (intro _));omega)) only[go_sem,simprocAttr,↓reduceIte,↓Nat.reduceEqDiff,xx,fd30,m30,c1,c2,hx,q2]
theorem worth_ok (h:6<=n)(x:Hd)(hx:x.le.sgn.length=16)(hv:HV x){T:Nat}(hT:x.le.til=T){c:Cl}{l a b d:Nat}(hk:CK c)(hc:CN c l a b d){loc:Int}(h1:c.l<=loc)(h2:loc<=2199023255552) :
  call gl tab n 30 [hAV x,cAV c,i64 loc] []=some (.tup [i64 (if T=0 then 0 else wthN l b d T loc),i64 0],[],[]):=by
 obtain⟨e,rfl⟩:=Nat.exists_eq_add_of_le' h
 have c1:=@held_at gl (e+5) (by omega) x hx
 have c2:=@check_at gl (e+5) (by omega) c
 have q2:=H.bytes_all x.le.sgn
 rw[decide_eq_true hv]at c1
 rw[if_pos hk]at c2
 have c3:=@cworth_at gl (e+5) (by omega) c l a b d hc T loc (by rw[<-hc.el];exact h1) h2
 rw[call_go (fd:=fd30) rfl]
 by_cases hz:T=0
 . subst hz
   rw[if_pos rfl]
   have hb:(x.le.til==0)=true:=by rw[hT];rfl
   simp(disch:=((fail_if_success (intro _));omega)) only[go_sem,simprocAttr,↓reduceIte,↓Nat.reduceEqDiff,xx,fd30,m30,c1,c2,hx,q2,hb]
 . rw[if_neg hz]
   have hb:(x.le.til==0)=false:=by rw[hT,beq_eq_false_iff_ne];omega
   rw[<-hT]at c3
   generalize wthN l b d T loc=w at *
   simp(disch:=((fail_if_success (intro _));omega)) only[go_sem,simprocAttr,↓reduceIte,↓Nat.reduceEqDiff,xx,fd30,m30,c1,c2,c3,hx,q2,hb]
end Go.Proofs.S30.G
namespace Go.Proofs.S30.G
open Go Go.Ev Go.Proofs Go.Ck
open Go.Proofs.S30.H (GlK GlR)
variable {gl :Gl} {n:Nat}
def kk :Ky:=⟨1,1,[115],0,1099511627776⟩
theorem kk_v :VK kk:=⟨by decide,by decide,by decide,by decide,by decide⟩
theorem kk_r :VR [kk]:=⟨by decide,fun i hi=>by
 match i,hi with
 | 0,_=>exact⟨kk_v,fun h=>absurd h (by decide)⟩⟩
theorem key_at (h:1<=n):call gl tab n 25 [] []=some (ky kk,[],[]):=by
 obtain⟨d,rfl⟩:=Nat.exists_eq_add_of_le' h
 rw[call_go (fd:=fd25) rfl]
 simp(disch:=((fail_if_success (intro _));omega)) only[go_sem,simprocAttr,↓reduceIte,↓Nat.reduceEqDiff,xx,fd25,m25]
 rfl
theorem leC_own {a t u:Int}(ha:isSite a=true)(h1:1<=u)(h2:u<=1099511627776):leC [kk] (leG kk a t u)=0:=by
 have e:leP (leG kk a t u)=leP (leK kk ⟨a,t,u,0,zB⟩):=rfl
 have e2:(leG kk a t u).site=a:=rfl
 have e3:(leG kk a t u).til=u:=rfl
 have e4:(leG kk a t u).ser=1:=rfl
 have e5:(leG kk a t u).sgn=sea kk.k 43 (leP (leK kk ⟨a,t,u,0,zB⟩)):=rfl
 have fn1:fnK [kk] 1 1=some kk:=rfl
 rw[leC,e2,if_pos ha,e3,if_pos h1,e4,e5,e]
 unfold ckE
 rw[fn1]
 simp only
 have hc:cnt kk (u-1) (u-1)=true:=by unfold cnt kk;rw[decide_eq_true_eq];simp only;omega
 rw[if_pos hc,if_pos trivial]
def L23 :MC:=match m23 with| .seq _ (.seq _ (.seq (.seq _ (.block _ (.loop _ b))) _))=>b|_=>.skip
def S23 (f f':Bool)(k k':Sh)(a:List Int)(i:Nat):St:=⟨[.set 5 (i64 i),.set 1 (.lst f' k' (ints a)),.set 0 (.lst f k (ints a))],[]⟩
def Mi (a:List Int)(k:Sh):Prop:=a=[]\/k= .sc
theorem ints_at {l:List Int}{i:Nat}(h:i<l.length):(ints l)[i]? =some (i64 (l.getD i 0)):=by simp[ints,h]
theorem sames_at (h:1<=n){f f':Bool}{k k':Sh}{a:List Int}(hk:Mi a k)(hk':Mi a k')(hl:a.length<=1000000):call gl tab n 23 [.lst f k (ints a),.lst f' k' (ints a)] []=some (.bool true,[],[]):=by
 obtain⟨d,rfl⟩:=Nat.exists_eq_add_of_le' h
 have hL:=ints_length a
 have st:∀i,i<a.length->contK [.slot 0,.slot 1,.slot 5] (evC gl (call gl tab d) L23 (S23 f f' k k' a i))=some (S23 f f' k k' a (i+1)):=fun i hi=>by
  obtain rfl:k= .sc:=by rcases hk with h0|h0;subst h0;simp at hi;exact h0
  obtain rfl:k'= .sc:=by rcases hk' with h0|h0;subst h0;simp at hi;exact h0
  have hA:=ints_at hi
  have e:(a.getD i 0 != a.getD i 0)=false:=bne_self_eq_false _
  rw[S23,S23]
  generalize a.getD i 0=x at *
  simp(disch:=((fail_if_success (intro _));omega)) only[go_sem,simprocAttr,↓reduceIte,↓Nat.reduceEqDiff,xx,L23,m23,hL,hA,e]
 simp only[L23,m23]at st
 rw[call_go (fd:=fd23) rfl]
 simp(disch:=((fail_if_success (intro _));omega)) only[go_sem,simprocAttr,↓reduceIte,↓Nat.reduceEqDiff,xx,fd23,m23,hL]
 rw[iter_to (S23 f f' k k' a) a.length (by unfold LF;omega)]
 . rw[S23];simp(disch:=((fail_if_success (intro _));omega)) only[go_sem,simprocAttr,↓reduceIte,↓Nat.reduceEqDiff,xx,hL]
 . rw[S23];simp(disch:=((fail_if_success (intro _));omega)) only[go_sem,simprocAttr,↓reduceIte,↓Nat.reduceEqDiff,xx]
 . exact st
 . rw[S23];simp(disch:=((fail_if_success (intro _));omega)) only[go_sem,simprocAttr,↓reduceIte,↓Nat.reduceEqDiff,xx,hL]
end Go.Proofs.S30.G
