/-
  Chapter 17: which shelves are valid, by the specification. No condition.
-/
import Derived.Test.YthipjfnealbheaaDoorW17G16x4
set_option linter.all false
namespace Go.Proofs.S17
open Go Go.Ev Go.Proofs Go.Proofs.S17.Q
variable {gl :Gl} {n:Nat}
structure HOk (S:Sf)(i:Nat):Prop where
 r:ROk (oat S.H i)
 o:0<i->Bl.lt (oat S.H (i-1)).nm (oat S.H i).nm=true
 t:∃k,k<S.A.length/\(aat S.A k).t=(oat S.H i).tn
structure VSf (S:Sf):Prop where
 c:0<=S.c/\S.c<=1099511627776
 va:VA S.A
 vk:K.VS S.w S.s S.a S.L
 hn:S.H.length<=4096
 ho:∀i,i<S.H.length->HOk S i
 hu:∀k,k<S.A.length->(aat S.A k).u=usd S.H (aat S.A k).t S.H.length
 ht:sumU S.A S.A.length<=S.c
theorem sub1 (j:Nat):((j+1:Nat):Int)-1=(j:Int):=by omega
abbrev shB :Sh:=.st [.sc,.sc,.sc,.st [.sc,.sc,.sc,.sc]]
def L12a :MC:=match m12 with| .seq _ (.seq _ (.seq _ (.seq _ (.seq (.seq _ (.block _ (.loop _ b))) _))))=>b|_=>.skip
def L12b :MC:=match m12 with| .seq _ (.seq _ (.seq _ (.seq _ (.seq _ (.seq (.seq _ (.block _ (.loop _ b))) _)))))=>b|_=>.skip
def S12a (S:Sf)(q:Fl)(i:Nat):St:=⟨[.set 5 (i64 i),.set 1 (.ptr 1 [])],[(1,.fix shB (sfV S q))]⟩
def S12b (S:Sf)(q:Fl)(i:Nat):St:=⟨[.set 6 (i64 i),.set 1 (.ptr 1 [])],[(1,.fix shB (sfV S q))]⟩
section
variable {d :Nat} {S:Sf} {q:Fl}
theorem zyl (hq:FlOk S q)(ha:S.A.length<2^60)(hh:S.H.length<=4096){i:Nat}(hi:i<S.H.length)(hp:HOk S i) :
  zbn [.slot 1,.slot 5,.key 1] (evC gl (call gl tab (d+1)) L12a (S12a S q i))=some (S12a S q (i+1)):=by
 have hx:=zeq hi
 have hm:=hq.h.eq hi
 obtain⟨b,hb,c1⟩:=@zp4 gl (d+1) (by omega) (oat S.H i)
 rw[hb.2 hp.r]at c1
 obtain⟨k,hk,k1,k2,c2⟩:=@zzb gl (d+1) (by omega) q.fa q.ma S.A hq.a ha (oat S.H i).tn
 have hkl:k<S.A.length:=by
  obtain⟨j,hj,hj2⟩:=hp.t
  rcases Nat.lt_or_ge j k with h|h
  . exact absurd hj2 (k1 j h)
  . omega
 rw[ix,if_pos hkl]at c2
 cases i with
 | zero=>simp(disch:=apply zq;omega) only[go_sem,simprocAttr,↓Nat.reduceEqDiff,xx,L12a,m12,S12a,zaa,hx,hm,c1,c2]
 | succ j =>
   have hx':=zeq (show j<S.H.length by omega)
   have ho:=hp.o (by omega)
   rw[show j+1-1=j by omega]at ho
   have ho':=Bl.asymm ho
   simp(disch:=apply zq;omega) only[go_sem,simprocAttr,↓Nat.reduceEqDiff,xx,L12a,m12,S12a,zaa,hx,hx',hm,c1,c2,sub1,zrn,ho,ho']
theorem qbm (hq:FlOk S q)(ha:S.A.length<2^60)(hh:S.H.length<=4096){i:Nat}(hi:i<S.H.length)(hp:¬HOk S i) :
  out1 2 (evC gl (call gl tab (d+1)) L12a (S12a S q i))=some (.ret,.bool false):=by
 have hx:=zeq hi
 have hm:=hq.h.eq hi
 obtain⟨b,hb,c1⟩:=@zp4 gl (d+1) (by omega) (oat S.H i)
 obtain⟨k,hk,k1,k2,c2⟩:=@zzb gl (d+1) (by omega) q.fa q.ma S.A hq.a ha (oat S.H i).tn
 cases b with
 | false=>cases i<;>simp(disch:=apply zq;omega) only[go_sem,simprocAttr,↓Nat.reduceEqDiff,xx,L12a,m12,S12a,zaa,hx,hm,c1]
 | true =>
 have hr:=hb.1 rfl
 cases i with
 | zero =>
   have hkl:¬k<S.A.length:=fun h=>hp ⟨hr,fun h=>absurd h (by omega),k,h,k2 h⟩
   rw[ix,if_neg hkl]at c2
   simp(disch:=apply zq;omega) only[go_sem,simprocAttr,↓Nat.reduceEqDiff,xx,L12a,m12,S12a,zaa,hx,hm,c1,c2]
 | succ j =>
   have hx':=zeq (show j<S.H.length by omega)
   cases ho:Bl.lt (oat S.H j).nm (oat S.H (j+1)).nm with
   | false=>simp(disch:=apply zq;omega) only[go_sem,simprocAttr,↓Nat.reduceEqDiff,xx,L12a,m12,S12a,zaa,hx,hx',hm,c1,sub1,zrn,ho]
   | true =>
     have hkl:¬k<S.A.length:=fun h=>hp ⟨hr,fun _=>ho,k,h,k2 h⟩
     rw[ix,if_neg hkl]at c2
     simp(disch:=apply zq;omega) only[go_sem,simprocAttr,↓Nat.reduceEqDiff,xx,L12a,m12,S12a,zaa,hx,hx',hm,c1,c2,sub1,zrn,ho]
theorem zyk (hq:FlOk S q)(ha:VA S.A)(hh:S.H.length<=4096)(hr:RL S.H){i:Nat}(hi:i<S.A.length)(hp:(aat S.A i).u=usd S.H (aat S.A i).t S.H.length) :
  zbn [.slot 1,.slot 6,.key 1] (evC gl (call gl tab (d+1)) L12b (S12b S q i))=some (S12b S q (i+1)):=by
 have hx:=zd7 hi
 have hm:=hq.a.eq hi
 have hn:=ha.n
 have c1:=@zx9 gl (d+1) (by omega) q.fh q.mh S.H hq.h hh hr (aat S.A i).t
 have e:((aat S.A i).u != usd S.H (aat S.A i).t S.H.length)=false:=by rw[hp];simp
 simp(disch:=apply zq;omega) only[go_sem,simprocAttr,↓Nat.reduceEqDiff,xx,L12b,m12,S12b,zac,hx,hm,c1,e]
theorem qbl (hq:FlOk S q)(ha:VA S.A)(hh:S.H.length<=4096)(hr:RL S.H){i:Nat}(hi:i<S.A.length)(hp:¬(aat S.A i).u=usd S.H (aat S.A i).t S.H.length) :
  out1 2 (evC gl (call gl tab (d+1)) L12b (S12b S q i))=some (.ret,.bool false):=by
 have hx:=zd7 hi
 have hm:=hq.a.eq hi
 have hn:=ha.n
 have c1:=@zx9 gl (d+1) (by omega) q.fh q.mh S.H hq.h hh hr (aat S.A i).t
 have e:((aat S.A i).u != usd S.H (aat S.A i).t S.H.length)=true:=by simpa using hp
 simp(disch:=apply zq;omega) only[go_sem,simprocAttr,↓Nat.reduceEqDiff,xx,L12b,m12,S12b,zac,hx,hm,c1,e]
end
set_option maxHeartbeats 2000000 in
theorem rvalid_at (h:4<=n){S:Sf}{q:Fl}(hq:FlOk S q)(ha:S.A.length<2^60)(hh:S.H.length<2^60)(hL:S.L.length<2^20) :
  ∃b:Bool,(b=true↔VSf S)/\call gl tab n 12 [sfV S q] []=some (.bool b,[],[]):=by
 obtain⟨d,rfl⟩:=Nat.exists_eq_add_of_le' h
 obtain⟨ba,hba,c1⟩:=@zqc gl (d+3) (by omega) q.fa q.ma S.A hq.a ha
 obtain⟨bk,hbk,c2⟩:=@K.rvalid_at gl (d+3) (by omega) q.fl S.w S.s S.a S.L hL
 rw[zah (fd:=fd12) rfl]
 have z:∀P:Prop,¬P->(false=true↔P):=fun P h=>⟨(fun h=>by cases h),fun h'=>absurd h' h⟩
 by_cases h1:0<=S.c
 case neg=>exact⟨false,z _ fun h=>h1 h.c.1,by simp(disch:=apply zq;omega) only[go_sem,simprocAttr,↓Nat.reduceEqDiff,xx,fd12,m12,c1,c2]⟩
 by_cases h2:S.c<=1099511627776
 case neg=>exact⟨false,z _ fun h=>h2 h.c.2,by simp(disch:=apply zq;omega) only[go_sem,simprocAttr,↓Nat.reduceEqDiff,xx,fd12,m12,c1,c2]⟩
 cases ba with
 | false=>exact⟨false,z _ fun h=>(by cases hba.2 h.va),by simp(disch:=apply zq;omega) only[go_sem,simprocAttr,↓Nat.reduceEqDiff,xx,fd12,m12,c1,c2]⟩
 | true =>
 cases bk with
 | false=>exact⟨false,z _ fun h=>(by cases hbk.2 h.vk),by simp(disch:=apply zq;omega) only[go_sem,simprocAttr,↓Nat.reduceEqDiff,xx,fd12,m12,c1,c2]⟩
 | true =>
 have va:=hba.1 rfl
 have vk:=hbk.1 rfl
 by_cases h3:S.H.length<=4096
 case neg=>exact⟨false,z _ fun h=>h3 h.hn,by simp(disch:=apply zq;omega) only[go_sem,simprocAttr,↓Nat.reduceEqDiff,xx,fd12,m12,c1,c2,zaa]⟩
 rcases first_fail (HOk S) S.H.length with hA|⟨k,hk,hb,he⟩
 case inr =>
  obtain⟨st,hst,hg⟩:=zcq (qbm (gl:=gl) (d:=d+2) hq ha h3 hk he)
  have hs2:=fun i (hi:i<k)=>zyl (gl:=gl) (d:=d+2) hq ha h3 (by omega) (hb i hi)
  simp only[L12a,m12]at hs2 hst
  refine⟨false,z _ fun h=>he (h.ho k hk),?_⟩
  simp(disch:=apply zq;omega) only[go_sem,simprocAttr,↓Nat.reduceEqDiff,xx,fd12,m12,c1,c2,zaa]
  rw[zam (S12a S q) k (by unfold LF;omega),hst]
  . simp(disch:=apply zq;omega) only[go_sem,simprocAttr,↓Nat.reduceEqDiff,xx,hg]
  . simp(disch:=apply zq;omega) only[go_sem,simprocAttr,↓Nat.reduceEqDiff,xx,S12a,zaa]
  . exact hs2
  . rw[hst];rfl
 have hR:RL S.H:=fun i hi=>(hA i hi).r
 have hs2:=fun i (hi:i<S.H.length)=>zyl (gl:=gl) (d:=d+2) hq ha h3 hi (hA i hi)
 simp only[L12a,m12]at hs2
 rcases first_fail (fun k=>(aat S.A k).u=usd S.H (aat S.A k).t S.H.length) S.A.length with hB|⟨k,hk,hb,he⟩
 case inr =>
  obtain⟨st,hst,hg⟩:=zcq (qbl (gl:=gl) (d:=d+2) hq va h3 hR hk he)
  have hs3:=fun i (hi:i<k)=>zyk (gl:=gl) (d:=d+2) hq va h3 hR (by omega) (hb i hi)
  simp only[L12b,m12]at hs3 hst
  refine⟨false,z _ fun h=>he (h.hu k hk),?_⟩
  simp(disch:=apply zq;omega) only[go_sem,simprocAttr,↓Nat.reduceEqDiff,xx,fd12,m12,c1,c2,zaa]
  rw[zam (S12a S q) S.H.length (by unfold LF;omega)]
  . simp(disch:=apply zq;omega) only[go_sem,simprocAttr,↓Nat.reduceEqDiff,xx,S12a,zaa]
    rw[zam (S12b S q) k (by unfold LF;omega),hst]
    . simp(disch:=apply zq;omega) only[go_sem,simprocAttr,↓Nat.reduceEqDiff,xx,hg]
    . simp(disch:=apply zq;omega) only[go_sem,simprocAttr,↓Nat.reduceEqDiff,xx,S12b,zaa]
    . exact hs3
    . rw[hst];rfl
  . simp(disch:=apply zq;omega) only[go_sem,simprocAttr,↓Nat.reduceEqDiff,xx,S12a,zaa]
  . exact hs2
  . simp(disch:=apply zq;omega) only[go_sem,simprocAttr,↓Nat.reduceEqDiff,xx,S12a,zaa]
 have hs3:=fun i (hi:i<S.A.length)=>zyk (gl:=gl) (d:=d+2) hq va h3 hR hi (hB i hi)
 simp only[L12b,m12]at hs3
 have hn:=va.n
 have c3:=@zk4 gl (d+3) (by omega) q.fa q.ma S.A hq.a va
 refine⟨decide (sumU S.A S.A.length<=S.c),?_,?_⟩
 . rw[decide_eq_true_eq]
   exact⟨fun h=>⟨⟨h1,h2⟩,va,vk,h3,hA,hB,h⟩,fun h=>h.ht⟩
 simp(disch:=apply zq;omega) only[go_sem,simprocAttr,↓Nat.reduceEqDiff,xx,fd12,m12,c1,c2,zaa]
 rw[zam (S12a S q) S.H.length (by unfold LF;omega)]
 . simp(disch:=apply zq;omega) only[go_sem,simprocAttr,↓Nat.reduceEqDiff,xx,S12a,zaa]
   rw[zam (S12b S q) S.A.length (by unfold LF;omega)]
   . simp(disch:=apply zq;omega) only[go_sem,simprocAttr,↓Nat.reduceEqDiff,xx,S12b,zac,c3]
   . simp(disch:=apply zq;omega) only[go_sem,simprocAttr,↓Nat.reduceEqDiff,xx,S12b,zaa]
   . exact hs3
   . simp(disch:=apply zq;omega) only[go_sem,simprocAttr,↓Nat.reduceEqDiff,xx,S12b,zac]
 . simp(disch:=apply zq;omega) only[go_sem,simprocAttr,↓Nat.reduceEqDiff,xx,S12a,zaa]
 . exact hs2
 . simp(disch:=apply zq;omega) only[go_sem,simprocAttr,↓Nat.reduceEqDiff,xx,S12a,zaa]
end Go.Proofs.S17
