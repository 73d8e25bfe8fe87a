/-
  Chapter 3: checking the proof of a beginning. No condition.
-/
import Derived.Test.YtcddalfeicoedaaDoorW94G23x3
import Derived.Test.YtcddalfeicoedaaDoorW94G19x3
import Derived.Test.YtcddalfeicoedaaDoorW94G21x3
import Derived.Test.YtcddalfeicoedaaDoorW94G20x3
set_option linter.all false
open Nat renaming exists_eq_add_of_le'->wA
open Bool renaming eq_iff_iff->wB
open List renaming length_take->wC,length_drop->wD
open Int renaming eq_ofNat_of_zero_le->wE,toNat_natCast->wF
namespace Go.Proofs.S94.M
open Go Go.Ev Go.Proofs Go.Mk
open Go.Proofs.S94.H (GlK GlR)
variable {gl :Gl} {n:Nat}
theorem d26A :dd36.mA=[zsw,zsv,z4b]:=rfl
theorem d26B :dd36.mB=m36B:=rfl
theorem zjz :dd36.fos=[(.o 29 (.l 11))]:=rfl
theorem zgx :dd36.dargs=[(.t 29),(.t 10)]:=rfl
theorem zrk :dd36.fS=56:=rfl
theorem zmq :dd36.fd=fd56:=rfl
theorem ze3 :dd36.slots=[0,1,7,8,10,11]:=rfl
theorem d26d :dd36.d=41000:=rfl
theorem zrl :dd36.dd=51000:=rfl
theorem zjy :dd36.res=[.cell 10 false 1]:=rfl
theorem checkC_bad (h:2<=n){old root:Dg}{m N:Int}{f:Bool}{sh:Sh}{p:List Dg}(hb:m<0\/m>N\/N>1099511627776)(hf:old.length=16)(hr:root.length=16) :
  call gl tab n 36 [i64 m,i64 N,bAV old,bAV root,.lst f sh (dgL p)] []=some (.bool false,[],[]):=by
 obtain⟨d,rfl⟩:=wA h
 have l1:=b16t hf
 have l2:=H.bytes_all old
 have r1:=b16t hr
 have r2:=H.bytes_all root
 rw[zmd (fd:=fd36) rfl]
 by_cases h1:m<0
 . simp(disch:=apply zq;omega) only[go_sem,simprocAttr,↓Nat.reduceEqDiff,xx,d26A,d26B,zjz,zgx,zrk,zmq,ze3,d26d,zrl,zjy,zsw,zsv,↓out16_eq,H.oo,hf,hr,l1,l2,r1,r2]
 by_cases h2:m>N
 . simp(disch:=apply zq;omega) only[go_sem,simprocAttr,↓Nat.reduceEqDiff,xx,d26A,d26B,zjz,zgx,zrk,zmq,ze3,d26d,zrl,zjy,zsw,zsv,↓out16_eq,H.oo,hf,hr,l1,l2,r1,r2]
 have h3:N>1099511627776:=by omega
 simp(disch:=apply zq;omega) only[go_sem,simprocAttr,↓Nat.reduceEqDiff,xx,d26A,d26B,zjz,zgx,zrk,zmq,ze3,d26d,zrl,zjy,zsw,zsv,↓out16_eq,H.oo,hf,hr,l1,l2,r1,r2]
section
variable [Nonempty (GlK gl)]
theorem ztq (h:59<=n){old root:Dg}{N:Nat}{f:Bool}{sh:Sh}{p:List Dg}(hN2:N<=1099511627776)(hf:old.length=16)(hr:root.length=16)(hl:p.length<=1000000) :
  ∃hp,zpn dd36 gl (call gl tab n) [i64 0,i64 N,.ptr 100000 [],.ptr 100001 [],.ptr 100002 [],.ptr 100003 []] [.ptr 100004 [],.ptr 100002 []]
   [(100000,.fix (.ar 16 .sc) (bAV old)),(100001,.fix (.ar 16 .sc) (bAV root)),(100002,.fix .sc (.bool false)),(100003,.fix .sc (.ptr 100004 [])),(100004,PS f sh p false)] =
   some (.bool (decide (p.length=0/\old=em)),[(100000,.fix (.ar 16 .sc) (bAV old)),(100001,.fix (.ar 16 .sc) (bAV root)),(100002,.fix .sc (.bool (decide (p.length=0/\old=em)))),(100003,.fix .sc (.ptr 100004 [])),(100004,hp)],[]):=by
 have l1:=b16t hf
 have l2:=H.bytes_all old
 have r1:=b16t hr
 have r2:=H.bytes_all root
 have e:=@zpp gl n _ (by omega)
 have e1:=zri
 have e2:=H.bytes_all em
 have c2:=eqB hf e1
 have hD:(decide (old=em)&& !false&&decide (p.length=0))=decide (p.length=0/\old=em):=by
  rw[wB];simp[and_comm]
 have st1:=@zk0 gl dd36 zmq (call gl tab n) 56 f sh p false (decide (old=em))
 rw[hD]at st1
 refine⟨PS f sh p false,?_⟩
 generalize decide (p.length=0/\old=em)=b2 at *
 generalize hb:decide (old=em)=b at *
 generalize em=q at *
 rw[zpm]
 simp(disch:=apply zq;omega) only[go_sem,simprocAttr,↓Nat.reduceEqDiff,xx,d26A,d26B,zjz,zgx,zrk,zmq,ze3,d26d,zrl,zjy,m36B,hf,hr,l1,l2,r1,r2,e,e1,e2,c2,zet,st1]
theorem qep (h:59<=n){old root:Dg}{m N:Nat}{f:Bool}{sh:Sh}{p:List Dg}(hm:1<=m)(hN:m<=N)(hN2:N<=1099511627776)(hf:old.length=16)(hr:root.length=16)(ha:All16 p)(hl:p.length<=1000000)(hs:Sd p sh sB) :
  ∃hp,zpn dd36 gl (call gl tab n) [i64 m,i64 N,.ptr 100000 [],.ptr 100001 [],.ptr 100002 [],.ptr 100003 []] [.ptr 100004 [],.ptr 100002 []]
   [(100000,.fix (.ar 16 .sc) (bAV old)),(100001,.fix (.ar 16 .sc) (bAV root)),(100002,.fix .sc (.bool false)),(100003,.fix .sc (.ptr 100004 [])),(100004,PS f sh p false)] =
   some (.bool (decide (p.length=depC m N true/\clc old m N true p=(old,root))),[(100000,.fix (.ar 16 .sc) (bAV old)),(100001,.fix (.ar 16 .sc) (bAV root)),(100002,.fix .sc (.bool (decide (p.length=depC m N true/\clc old m N true p=(old,root))))),(100003,.fix .sc (.ptr 100004 [])),(100004,hp)],[]):=by
 have l1:=b16t hf
 have l2:=H.bytes_all old
 have r1:=b16t hr
 have r2:=H.bytes_all root
 have h40:N<=2^40:=by
   have:(2:Nat)^40=1099511627776:=by decide
   omega
 obtain⟨f2,a⟩:=@z15 gl _ 40 n old m N true f sh p false hf h40 hm hN (by omega) (by omega) ha hl hs
 obtain⟨u1,v1⟩:=@zpw old hf _ m N true p (Nat.le_refl _) hm hN ha
 have u2:=H.bytes_all (clc old m N true p).1
 have v2:=H.bytes_all (clc old m N true p).2
 have c1:=eqB u1 hf
 have c2:=eqB v1 hr
 have hL2:(lft p (depC m N true)).length=p.length-depC m N true:=by rw[lft,wC];omega
 have hS:shr p false (depC m N true)=decide (p.length<depC m N true):=by simp[shr]
 rw[hS]at a
 have hD:((decide ((clc old m N true p).1=old)&&decide ((clc old m N true p).2=root))&& !(decide (p.length<depC m N true))&&decide ((lft p (depC m N true)).length=0))=decide (p.length=depC m N true/\clc old m N true p=(old,root)):=by
  rw[hL2,wB]
  simp only[Bool.and_eq_true,decide_eq_true_eq,Bool.not_eq_true',decide_eq_false_iff_not,Prod.ext_iff]
  constructor
  . rintro ⟨⟨h1,h2⟩,h3⟩;exact⟨by omega,h1⟩
  . rintro ⟨h1,h2⟩;exact⟨⟨h2,by omega⟩,by omega⟩
 have st:=fun b=>@zk0 gl dd36 zmq (call gl tab n) 56 f2 sh (lft p (depC m N true)) (decide (p.length<depC m N true)) b
 refine⟨PS f2 sh (lft p (depC m N true)) (decide (p.length<depC m N true)),?_⟩
 generalize clc old m N true p=q at *
 have st1:=st (decide (q.1=old)&&decide (q.2=root))
 rw[hD]at st1
 generalize decide (p.length=depC m N true/\q=(old,root))=b2 at *
 generalize decide (q.1=old)=b at *
 generalize decide (q.2=root)=b' at *
 generalize lft p (depC m N true)=p2 at *
 generalize depC m N true=k at *
 rw[zpm]
 cases b with
 | false =>
   rw[Bool.false_and]at st1
   simp(disch:=apply zq;omega) only[go_sem,simprocAttr,↓Nat.reduceEqDiff,xx,d26A,d26B,zjz,zgx,zrk,zmq,ze3,d26d,zrl,zjy,m36B,↓out16_eq,H.oo,hf,hr,l1,l2,r1,r2,a,u1,u2,v1,v2,c1,c2,zet,st1]
 | true =>
   rw[Bool.true_and]at st1
   simp(disch:=apply zq;omega) only[go_sem,simprocAttr,↓Nat.reduceEqDiff,xx,d26A,d26B,zjz,zgx,zrk,zmq,ze3,d26d,zrl,zjy,m36B,↓out16_eq,H.oo,hf,hr,l1,l2,r1,r2,a,u1,u2,v1,v2,c1,c2,zet,st1]
theorem checkC_zero (h:60<=n){old root:Dg}{N:Nat}{f:Bool}{sh:Sh}{p:List Dg}(hN2:N<=1099511627776)(hf:old.length=16)(hr:root.length=16)(hl:p.length<=1000000) :
  call gl tab n 36 [i64 0,i64 N,bAV old,bAV root,.lst f sh (dgL p)] []=some (.bool (decide (p.length=0/\old=em)),[],[]):=by
 obtain⟨d,rfl⟩:=wA h
 have l1:=b16t hf
 have l2:=H.bytes_all old
 have r1:=b16t hr
 have r2:=H.bytes_all root
 obtain⟨hp,a⟩:=@ztq gl (d+59) _ (by omega) old root N f sh p hN2 hf hr hl
 generalize decide (p.length=0/\old=em)=b at *
 rw[zmd (fd:=fd36) rfl]
 simp(disch:=apply zq;omega) only[go_sem,simprocAttr,↓Nat.reduceEqDiff,xx,d26A,d26B,zjz,zgx,zrk,zmq,ze3,d26d,zrl,zjy,zsw,zsv,z4b,↓out16_eq,H.oo,hf,hr,l1,l2,r1,r2,a]
theorem checkC_ok (h:60<=n){old root:Dg}{m N:Nat}{f:Bool}{sh:Sh}{p:List Dg}(hm:1<=m)(hN:m<=N)(hN2:N<=1099511627776)(hf:old.length=16)(hr:root.length=16)(ha:All16 p)(hl:p.length<=1000000)(hs:Sd p sh sB) :
  call gl tab n 36 [i64 m,i64 N,bAV old,bAV root,.lst f sh (dgL p)] []=some (.bool (decide (p.length=depC m N true/\clc old m N true p=(old,root))),[],[]):=by
 obtain⟨d,rfl⟩:=wA h
 have l1:=b16t hf
 have l2:=H.bytes_all old
 have r1:=b16t hr
 have r2:=H.bytes_all root
 obtain⟨hp,a⟩:=@qep gl (d+59) _ (by omega) old root m N f sh p hm hN hN2 hf hr ha hl hs
 generalize decide (p.length=depC m N true/\clc old m N true p=(old,root))=b at *
 rw[zmd (fd:=fd36) rfl]
 simp(disch:=apply zq;omega) only[go_sem,simprocAttr,↓Nat.reduceEqDiff,xx,d26A,d26B,zjz,zgx,zrk,zmq,ze3,d26d,zrl,zjy,zsw,zsv,z4b,↓out16_eq,H.oo,hf,hr,l1,l2,r1,r2,a]
end
end Go.Proofs.S94.M
namespace Go.Proofs.S94.M
open Go Go.Ev Go.Proofs Go.Mk
open Go.Proofs.S94.H (GlK GlR)
variable {gl :Gl} {n:Nat}
section
variable [Nonempty (GlR gl)]
end
end Go.Proofs.S94.M
namespace Go.Proofs.S94.M
open Go Go.Ev Go.Proofs Go.Mk
open Go.Proofs.S94.H (GlK GlR)
variable {gl :Gl} {n:Nat}
section
variable [Nonempty (GlR gl)]
end
end Go.Proofs.S94.M
namespace Go.Proofs.S94.L
open Go Go.Ev Go.Proofs Go.Proofs.S94
open Go.Proofs.S94.H (strsAV zaa zaj Sml GlK GlR zam zbh nsI zak zdk)
open Go.Proofs.S94.M (lf zcx Dg dgL dgL_length All16 Sd sB pkAV grw)
variable {gl :Gl} {n:Nat}
section
variable {leaf old root:Dg} {i m N:Int} {f:Bool} {sh:Sh} {p:List Dg}
def ckC (m N:Int)(old root:Dg)(p:List Dg):Bool :=
 decide (¬(m<0\/m>N\/N>1099511627776)/\if m=0 then p.length=0/\old=M.em else p.length=Mk.depC m.toNat N.toNat true/\M.clc old m.toNat N.toNat true p=(old,root))
theorem qek [Nonempty (GlK gl)](h:60<=n)(hf:old.length=16)(hr:root.length=16)(ha:All16 p)(hl:p.length<=1000000)(hs:Sd p sh sB) :
  call gl tab n 36 [i64 m,i64 N,bAV old,bAV root,.lst f sh (dgL p)] []=some (.bool (ckC m N old root p),[],[]):=by
 by_cases hb:m<0\/m>N\/N>1099511627776
 . rw[ckC,decide_eq_false (fun h=>h.1 hb)]
   exact M.checkC_bad (by omega) hb hf hr
 . obtain⟨m,rfl⟩:=wE (show 0<=m by omega)
   obtain⟨N,rfl⟩:=wE (show 0<=N by omega)
   by_cases h0:m=0
   . subst h0
     have:=M.checkC_zero (gl:=gl) h (old:=old) (root:=root) (N:=N) (f:=f) (sh:=sh) (p:=p) (by omega) hf hr hl
     have e0:((0:Nat):Int)=0:=rfl
     rw[e0]at hb ⊢
     rw[this,ckC]
     congr 3
     rw[wB,decide_eq_true_eq,decide_eq_true_eq,if_pos rfl]
     exact⟨fun h=>⟨hb,h⟩,fun h=>h.2⟩
   . have:=M.checkC_ok (gl:=gl) h (old:=old) (root:=root) (m:=m) (N:=N) (f:=f) (by omega) (by omega) (by omega) hf hr ha hl hs
     rw[this,ckC]
     congr 3
     rw[wB,decide_eq_true_eq,decide_eq_true_eq,if_neg (by omega),wF,wF]
     exact⟨fun h=>⟨hb,h⟩,fun h=>h.2⟩
end
end Go.Proofs.S94.L
namespace Go.Proofs.S94.L
open Go Go.Ev Go.Proofs Go.Proofs.S94
open Go.Proofs.S94.H (strsAV zaa zaj Sml GlK GlR zam zbh nsI zak zdk)
open Go.Proofs.S94.M (lf zcx Dg dgL dgL_length All16 Sd sB pkAV grw)
variable {gl :Gl} {n:Nat}
section
variable {fr :Bool} {m:Sh} {ring:List Ky}
def ckH (ring:List Ky)(a b:Hd)(p:List Dg):Int:=fE [mE (a.site==b.site) 1,hdC ring a,hdC ring b,mE (decide (b.hi>=a.lo)) 9,mE (ckC a.size b.size a.root b.root p) 3]
theorem z4o [Nonempty (GlK gl)](hn:61<=n)(hm:Mk ring m)(hv:VR ring){a b:Hd}(hh:HdOk a)(hh':HdOk b){f:Bool}{sh:Sh}{p:List Dg}(ha:All16 p)(hl:p.length<=1000000)(hs:Sd p sh sB) :
  call gl tab n 13 [.lst fr m (ks ring),hdAV a,hdAV b,.lst f sh (dgL p)] []=some (i64 (ckH ring a b p),[],[]):=by
 obtain⟨d,rfl⟩:=wA hn
 have u1:=b16 hh.r
 have u2:=b16 hh.s
 have w1:=H.bytes_all a.root
 have w2:=H.bytes_all a.sgn
 have u3:=b16 hh'.r
 have u4:=b16 hh'.s
 have w3:=H.bytes_all b.root
 have w4:=H.bytes_all b.sgn
 have c1:=@zll gl (d+60) (by omega) (a.site==b.site) 1
 have c2:=zq7 (gl:=gl) (n:=d+60) (f:=fr) (by omega) hm hv a hh
 have c3:=zq7 (gl:=gl) (n:=d+60) (f:=fr) (by omega) hm hv b hh'
 have c4:=@zll gl (d+60) (by omega) (decide (b.hi>=a.lo)) 9
 have c5:=qek (gl:=gl) (n:=d+60) (old:=a.root) (root:=b.root) (m:=a.size) (N:=b.size) (f:=f) (by omega) hh.r hh'.r ha hl hs
 have c6:=@zll gl (d+60) (by omega) (ckC a.size b.size a.root b.root p) 3
 have c7:=@zpg gl (d+60) (by omega) false [mE (a.site==b.site) 1,hdC ring a,hdC ring b,mE (decide (b.hi>=a.lo)) 9,mE (ckC a.size b.size a.root b.root p) 3] (by simp)
 unfold ckH
 generalize fE [mE (a.site==b.site) 1,hdC ring a,hdC ring b,mE (decide (b.hi>=a.lo)) 9,mE (ckC a.size b.size a.root b.root p) 3]=r at *
 have e5:nsI [mE (a.site==b.site) 1,hdC ring a,hdC ring b,mE (decide (b.hi>=a.lo)) 9,mE (ckC a.size b.size a.root b.root p) 3]=[i64 (mE (a.site==b.site) 1),i64 (hdC ring a),i64 (hdC ring b),i64 (mE (decide (b.hi>=a.lo)) 9),i64 (mE (ckC a.size b.size a.root b.root p) 3)]:=rfl
 rw[e5]at c7
 clear e5
 generalize mE (a.site==b.site) 1=r1 at *
 generalize hdC ring a=r2 at *
 generalize hdC ring b=r3 at *
 generalize mE (decide (b.hi>=a.lo)) 9=r4 at *
 generalize mE (ckC a.size b.size a.root b.root p) 3=r5 at *
 rw[zae (fd:=fd13) rfl]
 simp(disch:=apply zq;omega) only[go_sem,simprocAttr,↓Nat.reduceEqDiff,xx,fd13,m13,↓out16_eq,u1,u2,u3,u4,w1,w2,w3,w4,c1,c2,c3,c4,c5,c6,c7,H.oo]
end
end Go.Proofs.S94.L
namespace Go.Proofs.S94.L
open Go Go.Ev Go.Proofs Go.Proofs.S94
open Go.Proofs.S94.H (strsAV zaa zaj Sml GlK GlR zam zbh nsI zak zdk)
open Go.Proofs.S94.M (lf zcx Dg dgL dgL_length All16 Sd sB pkAV grw)
variable {gl :Gl} {n:Nat}
section
variable {fr :Bool} {m:Sh} {ring:List Ky}
def ckF (ring:List Ky)(a b:Hd):Bool:=decide (a.site=b.site/\a.size=b.size/\a.root≠b.root/\hdC ring a=0/\hdC ring b=0)
theorem z1c [Nonempty (GlK gl)](hn:61<=n)(hm:Mk ring m)(hv:VR ring){a b:Hd}(hh:HdOk a)(hh':HdOk b) :
  call gl tab n 14 [.lst fr m (ks ring),hdAV a,hdAV b] []=some (.bool (ckF ring a b),[],[]):=by
 obtain⟨d,rfl⟩:=wA hn
 have u1:=b16 hh.r
 have u2:=b16 hh.s
 have w1:=H.bytes_all a.root
 have w2:=H.bytes_all a.sgn
 have u3:=b16 hh'.r
 have u4:=b16 hh'.s
 have w3:=H.bytes_all b.root
 have w4:=H.bytes_all b.sgn
 have r1:=hh.r
 have r2:=hh'.r
 have q:=eqB hh.r hh'.r
 have c2:=zq7 (gl:=gl) (n:=d+60) (f:=fr) (by omega) hm hv a hh
 have c3:=zq7 (gl:=gl) (n:=d+60) (f:=fr) (by omega) hm hv b hh'
 have c7:=@zpg gl (d+60) (by omega) false [hdC ring a,hdC ring b] (by simp)
 have e5:nsI [hdC ring a,hdC ring b]=[i64 (hdC ring a),i64 (hdC ring b)]:=rfl
 rw[e5]at c7
 clear e5
 have e6:fE [hdC ring a,hdC ring b]=0↔hdC ring a=0/\hdC ring b=0:=by
  by_cases h1:hdC ring a=0
  . by_cases h2:hdC ring b=0
    . simp[fE,h1,h2]
    . simp[fE,h1,h2]
  . simp[fE,h1]
 unfold ckF
 generalize hdC ring a=x1 at *
 generalize hdC ring b=x2 at *
 rw[zae (fd:=fd14) rfl]
 by_cases e1:a.site=b.site
 case neg =>
  rw[decide_eq_false fun h=>e1 h.1]
  have k1:(a.site==b.site)=false:=by rw[beq_eq_false_iff_ne];exact e1
  simp(disch:=apply zq;omega) only[go_sem,simprocAttr,↓Nat.reduceEqDiff,xx,fd14,m14,↓out16_eq,u1,u2,u3,u4,w1,w2,w3,w4,k1,H.oo]
 have k1:(a.site==b.site)=true:=by rw[e1];exact beq_self_eq_true _
 by_cases e2:a.size=b.size
 case neg =>
  rw[decide_eq_false fun h=>e2 h.2.1]
  have k2:(a.size==b.size)=false:=by rw[beq_eq_false_iff_ne];exact e2
  simp(disch:=apply zq;omega) only[go_sem,simprocAttr,↓Nat.reduceEqDiff,xx,fd14,m14,↓out16_eq,u1,u2,u3,u4,w1,w2,w3,w4,k1,k2,H.oo]
 have k2:(a.size==b.size)=true:=by rw[e2];exact beq_self_eq_true _
 by_cases e3:a.root=b.root
 . rw[decide_eq_false fun h=>h.2.2.1 e3]
   rw[decide_eq_true e3]at q
   simp(disch:=apply zq;omega) only[go_sem,simprocAttr,↓Nat.reduceEqDiff,xx,fd14,m14,↓out16_eq,u1,u2,u3,u4,w1,w2,w3,w4,k1,k2,q,r1,r2,zac,H.oo]
 rw[decide_eq_false e3]at q
 by_cases e4:fE [x1,x2]=0
 . have:=e6.1 e4
   rw[decide_eq_true ⟨e1,e2,e3,this.1,this.2⟩]
   rw[e4]at c7
   simp(disch:=apply zq;omega) only[go_sem,simprocAttr,↓Nat.reduceEqDiff,xx,fd14,m14,↓out16_eq,u1,u2,u3,u4,w1,w2,w3,w4,k1,k2,q,r1,r2,c2,c3,c7,zac,H.oo]
 . rw[decide_eq_false fun h=>e4 (e6.2 ⟨h.2.2.2.1,h.2.2.2.2⟩)]
   have k5:(fE [x1,x2]==0)=false:=by rw[beq_eq_false_iff_ne];exact e4
   generalize fE [x1,x2]=x3 at *
   simp(disch:=apply zq;omega) only[go_sem,simprocAttr,↓Nat.reduceEqDiff,xx,fd14,m14,↓out16_eq,u1,u2,u3,u4,w1,w2,w3,w4,k1,k2,q,r1,r2,c2,c3,c7,k5,zac,H.oo]
end
end Go.Proofs.S94.L
namespace Go.Proofs.S94.M
open Go Go.Ev Go.Proofs Go.Mk Go.Proofs.S94
theorem incl_all :∀(c:Nat) (l:List Dg) (i:Nat),l.length<=c->All16 l->All16 (incl nd em l i)
 | 0,l,i,h,ha=>by rw[ze0 (by omega)];exact All16.nil
 | c+1,l,i,h,ha=>by
   by_cases h2:2<=l.length
   . have hk:=zcu h2
     have hp:=zb6 l.length
     by_cases hi:i<spl l.length
     . rw[zly h2 hi]
       exact(incl_all c _ i (by rw[wC];omega) (ha.take _)).app (.one (rt_len (ha.drop _)))
     . rw[zlz h2 hi]
       exact(incl_all c _ _ (by rw[wD];omega) (ha.drop _)).app (.one (rt_len (ha.take _)))
   . rw[ze0 (by omega)];exact All16.nil
theorem cons_all16 :∀(c:Nat) (l:List Dg) (m:Nat) (mark:Bool),l.length<=c->1<=m->m<=l.length->All16 l->All16 (cons nd em l m mark)
 | 0,l,m,mark,h,h1,hm,ha=>by omega
 | c+1,l,m,mark,h,h1,hm,ha=>by
   by_cases he:m=l.length
   . subst he
     rw[cons_all];cases mark
     . exact .one (rt_len ha)
     . exact All16.nil
   . have h2:2<=l.length:=by omega
     have hk:=zcu h2
     have hp:=zb6 l.length
     by_cases hi:m<=spl l.length
     . rw[zma h2 he hi]
       exact(cons_all16 c _ m mark (by rw[wC];omega) h1 (by rw[wC];omega) (ha.take _)).app (.one (rt_len (ha.drop _)))
     . rw[zmb h2 he hi]
       exact(cons_all16 c _ _ false (by rw[wD];omega) (by omega) (by rw[wD];omega) (ha.drop _)).app (.one (rt_len (ha.take _)))
end Go.Proofs.S94.M
