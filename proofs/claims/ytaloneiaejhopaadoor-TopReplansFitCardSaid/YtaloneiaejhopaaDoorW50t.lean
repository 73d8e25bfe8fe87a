/-
  Plants: the specification's Check; what few plants are. No condition.
-/
import Derived.Test.YtaloneiaejhopaaDoorW50G12x3
set_option linter.all false
open Nat renaming exists_eq_add_of_le'->wB
namespace Go.Proofs.S50
open Go Go.Ev Go.Proofs Go.Fl
variable {gl :Gl} {n:Nat}
theorem zew (p:Nat->Prop)(N:Nat):(∀i,i<N->p i)\/∃k,k<N/\(∀j,j<k->p j)/\¬p k:=by
 classical
 by_cases h:∀i,i<N->p i
 . exact .inl h
 . obtain⟨h1,h2,h3⟩:=zlj p N
   refine .inr ⟨fstN p N,?_⟩
   rcases Nat.lt_or_ge (fstN p N) N with h4|h4
   . exact⟨h4,h2,h3 h4⟩
   . exact absurd (fun i hi=>h2 i (by omega)) h
abbrev sPl :Sh:=.st [.sc,.sc]
structure PK (p:List Sp)(r:List Rd):Prop where
 ok:POk p r
 s:∀i,i<p.length->SpOk (spt p i)
def L23 :MC:=match m23 with| .seq _ (.seq _ (.seq (.seq _ (.block _ (.loop _ b))) _))=>b|_=>.skip
def L23b :MC:=match m23 with| .seq _ (.seq _ (.seq (.seq _ (.block _ (.loop _ (.seq _ (.seq (.block _ (.seq _ (.seq _ (.seq _ (.block _ (.loop _ b)))))) _))))) _))=>b|_=>.skip
def L23c :MC:=match m23 with| .seq _ (.seq _ (.seq _ (.seq (.seq _ (.block _ (.loop _ b))) _)))=>b|_=>.skip
def S23 (q:PF)(p:List Sp)(r:List Rd)(i:Nat):St:=⟨[.set 3 (i64 (i:Int)),.set 1 (.ptr 1 [])],[(1,.fix sPl (plV q p r))]⟩
def S23b (q:PF)(p:List Sp)(r:List Rd)(i k:Nat):St:=⟨[.set 5 (i64 (k:Int)),.set 3 (i64 (i:Int)),.set 1 (.ptr 1 [])],[(1,.fix sPl (plV q p r))]⟩
def S23c (q:PF)(p:List Sp)(r:List Rd)(i:Nat):St:=⟨[.set 6 (i64 (i:Int)),.set 1 (.ptr 1 [])],[(1,.fix sPl (plV q p r))]⟩
def Df (p:List Sp)(i k:Nat):Prop:=¬((spt p k).kd=(spt p i).kd/\(spt p k).nu=(spt p i).nu)
def C23 (p:List Sp)(i:Nat):Prop:=SpOk (spt p i)/\∀k,k<i->Df p i k
section
variable {d :Nat} {q:PF} {p:List Sp} {r:List Rd} (hq:PFOk q p r) (hp:p.length<=100) (hr:r.length<=1500)
include hq hp hr
theorem zl8 {i:Nat}(hi:i<p.length):q.s=sSp:=hq.s.resolve_left fun h=>by rw[h]at hi;simp at hi
theorem z4i {i:Nat}(hi:i<r.length):q.t=sRd:=hq.t.resolve_left fun h=>by rw[h]at hi;simp at hi
theorem z0d {i k:Nat}(hi:i<p.length)(hk:k<i)(hd:Df p i k):zaz [.slot 1,.slot 3,.slot 5,.key 1] (evC gl (call gl tab d) L23b (S23b q p r i k))=some (S23b q p r i (k+1)):=by
 have hs:=zl8 hq hp hr hi
 obtain⟨qb,qs,qc,qt⟩:=q
 simp only at hs
 subst hs
 have x1:=zen hi
 have x2:=zen (show k<p.length by omega)
 cases e1:((spt p k).kd==(spt p i).kd)with
 | false=>simp(disch:=apply zq;omega) only[go_sem,simprocAttr,↓Nat.reduceEqDiff,xx,L23b,m23,S23b,zac,x1,x2,e1]
 | true =>
   have e2:((spt p k).nu==(spt p i).nu)=false:=by
    rw[beq_eq_false_iff_ne]
    exact fun h=>hd ⟨by simpa using e1,h⟩
   simp(disch:=apply zq;omega) only[go_sem,simprocAttr,↓Nat.reduceEqDiff,xx,L23b,m23,S23b,zac,x1,x2,e1,e2]
theorem qd9 {i k:Nat}(hi:i<p.length)(hk:k<i)(hd:¬Df p i k):out1 2 (evC gl (call gl tab d) L23b (S23b q p r i k))=some (.ret,i64 6):=by
 have hs:=zl8 hq hp hr hi
 obtain⟨qb,qs,qc,qt⟩:=q
 simp only at hs
 subst hs
 have x1:=zen hi
 have x2:=zen (show k<p.length by omega)
 unfold Df at hd
 rw[Classical.not_not]at hd
 have e1:((spt p k).kd==(spt p i).kd)=true:=by simpa using hd.1
 have e2:((spt p k).nu==(spt p i).nu)=true:=by simpa using hd.2
 simp(disch:=apply zq;omega) only[go_sem,simprocAttr,↓Nat.reduceEqDiff,xx,L23b,m23,S23b,zac,x1,x2,e1,e2]
theorem z9n {i:Nat}(hi:i<p.length)(hc:C23 p i):zaz [.slot 1,.slot 3,.key 1] (evC gl (call gl tab (d+1)) L23 (S23 q p r i))=some (S23 q p r (i+1)):=by
 have hs:=zl8 hq hp hr hi
 have hb:=fun k hk=>z0d (gl:=gl) (d:=d+1) hq hp hr hi hk (hc.2 k hk)
 simp only[L23b,m23]at hb
 obtain⟨b,hb1,c1⟩:=@zrr gl (d+1) (by omega) (spt p i)
 rw[hb1.2 hc.1]at c1
 have x1:=zen hi
 obtain⟨qb,qs,qc,qt⟩:=q
 simp only at hs
 subst hs
 simp(disch:=apply zq;omega) only[go_sem,simprocAttr,↓Nat.reduceEqDiff,xx,L23,m23,S23,zac,x1,c1]
 rw[zak (S23b ⟨qb,sSp,qc,qt⟩ p r i) i (by unfold LF;omega)]
 . simp(disch:=apply zq;omega) only[go_sem,simprocAttr,↓Nat.reduceEqDiff,xx,S23b]
 . simp(disch:=apply zq;omega) only[go_sem,simprocAttr,↓Nat.reduceEqDiff,xx,S23b]
 . exact hb
 . simp(disch:=apply zq;omega) only[go_sem,simprocAttr,↓Nat.reduceEqDiff,xx,S23b]
theorem qi2 {i:Nat}(hi:i<p.length)(hc:¬C23 p i):∃e:Int,e≠0/\out1 2 (evC gl (call gl tab (d+1)) L23 (S23 q p r i))=some (.ret,i64 e):=by
 have hs:=zl8 hq hp hr hi
 obtain⟨b,hb1,c1⟩:=@zrr gl (d+1) (by omega) (spt p i)
 have x1:=zen hi
 cases b with
 | false =>
   refine⟨400,by decide,?_⟩
   obtain⟨qb,qs,qc,qt⟩:=q
   simp only at hs
   subst hs
   simp(disch:=apply zq;omega) only[go_sem,simprocAttr,↓Nat.reduceEqDiff,xx,L23,m23,S23,zac,x1,c1]
 | true =>
 rcases zew (Df p i) i with hA|⟨k,hk,hb,he⟩
 . exact absurd ⟨hb1.1 rfl,hA⟩ hc
 obtain⟨st,hst,hg⟩:=zhs (qd9 (gl:=gl) (d:=d+1) hq hp hr hi hk he)
 have hb2:=fun j (hj:j<k)=>z0d (gl:=gl) (d:=d+1) hq hp hr hi (by omega) (hb j hj)
 simp only[L23b,m23]at hb2 hst
 obtain⟨qb,qs,qc,qt⟩:=q
 simp only at hs
 subst hs
 refine⟨6,by decide,?_⟩
 simp(disch:=apply zq;omega) only[go_sem,simprocAttr,↓Nat.reduceEqDiff,xx,L23,m23,S23,zac,x1,c1]
 rw[zak (S23b ⟨qb,sSp,qc,qt⟩ p r i) k (by unfold LF;omega),hst]
 . simp(disch:=apply zq;omega) only[go_sem,simprocAttr,↓Nat.reduceEqDiff,xx,hg]
 . simp(disch:=apply zq;omega) only[go_sem,simprocAttr,↓Nat.reduceEqDiff,xx,S23b]
 . exact hb2
 . rw[hst];rfl
theorem z0c {i:Nat}(hi:i<r.length)(hc:RdOk p (rdt r i)):zaz [.slot 1,.slot 6,.key 1] (evC gl (call gl tab (d+1)) L23c (S23c q p r i))=some (S23c q p r (i+1)):=by
 have hs:=z4i hq hp hr hi
 obtain⟨b,hb1,c1⟩:=@zrq gl (d+1) (by omega) q p r hq (by omega) (rdt r i)
 rw[hb1.2 hc]at c1
 have x1:=z4j hi
 obtain⟨qb,qs,qc,qt⟩:=q
 simp only at hs
 subst hs
 simp(disch:=apply zq;omega) only[go_sem,simprocAttr,↓Nat.reduceEqDiff,xx,L23c,m23,S23c,zaq,x1,c1]
theorem qd8 {i:Nat}(hi:i<r.length)(hc:¬RdOk p (rdt r i)):out1 2 (evC gl (call gl tab (d+1)) L23c (S23c q p r i))=some (.ret,i64 400):=by
 have hs:=z4i hq hp hr hi
 obtain⟨b,hb1,c1⟩:=@zrq gl (d+1) (by omega) q p r hq (by omega) (rdt r i)
 have x1:=z4j hi
 cases b with
 | true=>exact absurd (hb1.1 rfl) hc
 | false =>
 obtain⟨qb,qs,qc,qt⟩:=q
 simp only at hs
 subst hs
 simp(disch:=apply zq;omega) only[go_sem,simprocAttr,↓Nat.reduceEqDiff,xx,L23c,m23,S23c,zaq,x1,c1]
end
theorem qkt {p:List Sp}{r:List Rd}(hp:p.length<=100)(hr:r.length<=1500)(h1:∀i,i<p.length->C23 p i)(h2:∀i,i<r.length->RdOk p (rdt r i)):PK p r where
 s i hi:=(h1 i hi).1
 ok:=⟨hp,hr,fun i hi=>by have:=(h1 i hi).1.k;omega,fun i hi=>by have:=(h1 i hi).1.k;omega,fun i hi=>(h1 i hi).1.c,fun i j hij hj h=>(h1 j hj).2 i hij h,
  fun i hi=>⟨(h2 i hi).f.1,(h2 i hi).f.2,(h2 i hi).t.1,(h2 i hi).t.2,(h2 i hi).ne⟩,fun i hi=>⟨(h2 i hi).c.1,(h2 i hi).c.2,(h2 i hi).k.1,(h2 i hi).k.2⟩,fun i hi=>⟨(h2 i hi).a,(h2 i hi).z⟩⟩
set_option maxHeartbeats 1000000 in
theorem z1a (h:2<=n){q:PF}{p:List Sp}{r:List Rd}(hq:PFOk q p r)(hp:p.length<=100)(hr:r.length<=1500):∃e:Int,(e=0->PK p r)/\call gl tab n 23 [plV q p r] []=some (i64 e,[],[]):=by
 obtain⟨d,rfl⟩:=wB h
 rw[zai (fd:=fd23) rfl]
 have z:∀{e:Int} {P:Prop},e≠0->(e=0->P):=fun h h'=>absurd h' h
 rcases zew (C23 p) p.length with hA|⟨k,hk,hb,he⟩
 case inr =>
  obtain⟨e,hz,hf⟩:=qi2 (gl:=gl) (d:=d) hq hp hr hk he
  obtain⟨st,hst,hg⟩:=zhs hf
  have hs2:=fun i (hi:i<k)=>z9n (gl:=gl) (d:=d) hq hp hr (by omega) (hb i hi)
  simp only[L23,m23]at hs2 hst
  refine⟨e,z hz,?_⟩
  simp(disch:=apply zq;omega) only[go_sem,simprocAttr,↓Nat.reduceEqDiff,xx,fd23,m23,zac,zaq]
  rw[zak (S23 q p r) k (by unfold LF;omega),hst]
  . simp(disch:=apply zq;omega) only[go_sem,simprocAttr,↓Nat.reduceEqDiff,xx,hg]
  . simp(disch:=apply zq;omega) only[go_sem,simprocAttr,↓Nat.reduceEqDiff,xx,S23]
  . exact hs2
  . rw[hst];rfl
 have hs2:=fun i (hi:i<p.length)=>z9n (gl:=gl) (d:=d) hq hp hr hi (hA i hi)
 simp only[L23,m23]at hs2
 rcases zew (fun i=>RdOk p (rdt r i)) r.length with hB|⟨k,hk,hb,he⟩
 case inr =>
  obtain⟨st,hst,hg⟩:=zhs (qd8 (gl:=gl) (d:=d) hq hp hr hk he)
  have hs3:=fun i (hi:i<k)=>z0c (gl:=gl) (d:=d) hq hp hr (show i<r.length by omega) (hb i hi)
  simp only[L23c,m23]at hs3 hst
  refine⟨400,z (by decide),?_⟩
  simp(disch:=apply zq;omega) only[go_sem,simprocAttr,↓Nat.reduceEqDiff,xx,fd23,m23,zac,zaq]
  rw[zak (S23 q p r) p.length (by unfold LF;omega)]
  . simp(disch:=apply zq;omega) only[go_sem,simprocAttr,↓Nat.reduceEqDiff,xx,S23,zac]
    rw[zak (S23c q p r) k (by unfold LF;omega),hst]
    . simp(disch:=apply zq;omega) only[go_sem,simprocAttr,↓Nat.reduceEqDiff,xx,hg]
    . simp(disch:=apply zq;omega) only[go_sem,simprocAttr,↓Nat.reduceEqDiff,xx,S23c]
    . exact hs3
    . rw[hst];rfl
  . simp(disch:=apply zq;omega) only[go_sem,simprocAttr,↓Nat.reduceEqDiff,xx,S23]
  . exact hs2
  . simp(disch:=apply zq;omega) only[go_sem,simprocAttr,↓Nat.reduceEqDiff,xx,S23,zac]
 have hs3:=fun i (hi:i<r.length)=>z0c (gl:=gl) (d:=d) hq hp hr hi (hB i hi)
 simp only[L23c,m23]at hs3
 refine⟨0,fun _=>qkt hp hr hA hB,?_⟩
 simp(disch:=apply zq;omega) only[go_sem,simprocAttr,↓Nat.reduceEqDiff,xx,fd23,m23,zac,zaq]
 rw[zak (S23 q p r) p.length (by unfold LF;omega)]
 . simp(disch:=apply zq;omega) only[go_sem,simprocAttr,↓Nat.reduceEqDiff,xx,S23,zac]
   rw[zak (S23c q p r) r.length (by unfold LF;omega)]
   . simp(disch:=apply zq;omega) only[go_sem,simprocAttr,↓Nat.reduceEqDiff,xx,S23c,zaq]
   . simp(disch:=apply zq;omega) only[go_sem,simprocAttr,↓Nat.reduceEqDiff,xx,S23c]
   . exact hs3
   . simp(disch:=apply zq;omega) only[go_sem,simprocAttr,↓Nat.reduceEqDiff,xx,S23c,zaq]
 . simp(disch:=apply zq;omega) only[go_sem,simprocAttr,↓Nat.reduceEqDiff,xx,S23]
 . exact hs2
 . simp(disch:=apply zq;omega) only[go_sem,simprocAttr,↓Nat.reduceEqDiff,xx,S23,zac]
theorem qi1 (h:3<=n){q:PF}{p:List Sp}{r:List Rd}(hq:PFOk q p r)(hp:p.length<=9223372036854775807)(hr:r.length<=9223372036854775807):∃b:Bool,(b=true->p.length<=6/\r.length<=20/\PK p r)/\call gl tab n 9 [plV q p r] []=some (.bool b,[],[]):=by
 obtain⟨d,rfl⟩:=wB h
 rw[zai (fd:=fd9) rfl]
 by_cases h1:p.length<=6
 case neg=>exact⟨false,(fun h=>by cases h),by simp(disch:=apply zq;omega) only[go_sem,simprocAttr,↓Nat.reduceEqDiff,xx,fd9,m9,zac,zaq]⟩
 by_cases h2:r.length<=20
 case neg=>exact⟨false,(fun h=>by cases h),by simp(disch:=apply zq;omega) only[go_sem,simprocAttr,↓Nat.reduceEqDiff,xx,fd9,m9,zac,zaq]⟩
 obtain⟨e,he,c1⟩:=@z1a gl (d+2) (by omega) q p r hq (by omega) (by omega)
 by_cases h3:e=0
 . subst h3
   exact⟨true,fun _=>⟨h1,h2,he rfl⟩,by simp(disch:=apply zq;omega) only[go_sem,simprocAttr,↓Nat.reduceEqDiff,xx,fd9,m9,zac,zaq,c1]⟩
 . have e1:(e==0)=false:=by rw[beq_eq_false_iff_ne];exact h3
   exact⟨false,(fun h=>by cases h),by simp(disch:=apply zq;omega) only[go_sem,simprocAttr,↓Nat.reduceEqDiff,xx,fd9,m9,zac,zaq,c1,e1]⟩
def dm (p:List Sp):Nat->Int
 | 0=>0
 | i+1=>if(spt p i).kd=1 then dm p i+(spt p i).cp else dm p i
theorem dm_b {p:List Sp}(h:∀i,i<p.length->0<=(spt p i).cp/\(spt p i).cp<=1073741824):∀i,i<=p.length->0<=dm p i/\dm p i<=(i:Int)*1073741824
 | 0,_=>by simp[dm]
 | i+1,hi=>by
   have:=dm_b h i (by omega)
   have:=h i (by omega)
   rw[dm];split<;>omega
def L10 :MC:=match m10 with| .seq _ (.seq _ (.seq (.seq _ (.block _ (.loop _ b))) _))=>b|_=>.skip
def S10 (q:PF)(p:List Sp)(r:List Rd)(i:Nat):St:=⟨[.set 4 (i64 (i:Int)),.set 3 (i64 (dm p i)),.set 1 (.ptr 1 [])],[(1,.fix sPl (plV q p r))]⟩
theorem qgp {d:Nat}{q:PF}{p:List Sp}{r:List Rd}(hq:PFOk q p r)(hp:p.length<=100)(h:∀i,i<p.length->0<=(spt p i).cp/\(spt p i).cp<=1073741824){i:Nat}(hi:i<p.length):zaz [.slot 1,.slot 3,.slot 4,.key 1] (evC gl (call gl tab d) L10 (S10 q p r i))=some (S10 q p r (i+1)):=by
 have hs:q.s=sSp:=hq.s.resolve_left fun h=>by rw[h]at hi;simp at hi
 have x1:=zen hi
 have h1:=dm_b h i (by omega)
 have h2:=h i hi
 obtain⟨qb,qs,qc,qt⟩:=q
 simp only at hs
 subst hs
 by_cases e:(spt p i).kd=1
 . have e1:dm p (i+1)=dm p i+(spt p i).cp:=by rw[dm,if_pos e]
   simp(disch:=apply zq;omega) only[go_sem,simprocAttr,↓Nat.reduceEqDiff,xx,L10,m10,S10,zac,x1,e1]
 . have e1:dm p (i+1)=dm p i:=by rw[dm,if_neg e]
   simp(disch:=apply zq;omega) only[go_sem,simprocAttr,↓Nat.reduceEqDiff,xx,L10,m10,S10,zac,x1,e1]
theorem zx9 (h:1<=n){q:PF}{p:List Sp}{r:List Rd}(hq:PFOk q p r)(hp:p.length<=100)(hc:∀i,i<p.length->0<=(spt p i).cp/\(spt p i).cp<=1073741824):call gl tab n 10 [plV q p r] []=some (i64 (dm p p.length),[],[]):=by
 obtain⟨d,rfl⟩:=wB h
 have hs:=fun i hi=>@qgp gl d q p r hq hp hc i hi
 simp only[L10,m10]at hs
 rw[zai (fd:=fd10) rfl]
 simp(disch:=apply zq;omega) only[go_sem,simprocAttr,↓Nat.reduceEqDiff,xx,fd10,m10,zac]
 rw[zak (S10 q p r) p.length (by unfold LF;omega)]
 . simp(disch:=apply zq;omega) only[go_sem,simprocAttr,↓Nat.reduceEqDiff,xx,S10,zac]
 . simp(disch:=apply zq;omega) only[go_sem,simprocAttr,↓Nat.reduceEqDiff,xx,S10,dm]
 . exact hs
 . simp(disch:=apply zq;omega) only[go_sem,simprocAttr,↓Nat.reduceEqDiff,xx,S10,zac]
structure FW (p:List Sp)(r:List Rd):Prop where
 k:PK p r
 np:p.length<=6
 nr:r.length<=20
 d:dm p p.length<=40
 c:∀i,i<p.length->(spt p i).cp<=30
def L4 :MC:=match m4 with| .seq _ (.seq _ (.seq (.seq _ (.block _ (.loop _ b))) _))=>b|_=>.skip
def S4 (q:PF)(p:List Sp)(i:Nat):St:=⟨[.set 16 (i64 (i:Int)),.set 15 (i64 (p.length:Int)),.set 14 (.lst q.b q.s (ps p))],[]⟩
section
variable {d :Nat} {q:PF} {p:List Sp} {r:List Rd} (hq:PFOk q p r) (hp:p.length<=100)
include hq hp
theorem qgg {i:Nat}(hi:i<p.length)(hc:(spt p i).cp<=30):zaz [.slot 14,.slot 15,.slot 16] (evC gl (call gl tab d) L4 (S4 q p i))=some (S4 q p (i+1)):=by
 have hs:q.s=sSp:=hq.s.resolve_left fun h=>by rw[h]at hi;simp at hi
 have x1:=zen hi
 obtain⟨qb,qs,qc,qt⟩:=q
 simp only at hs
 subst hs
 simp(disch:=apply zq;omega) only[go_sem,simprocAttr,↓Nat.reduceEqDiff,xx,L4,m4,S4,zac,x1]
theorem qli {i:Nat}(hi:i<p.length)(hc:¬(spt p i).cp<=30):out1 2 (evC gl (call gl tab d) L4 (S4 q p i))=some (.ret,.bool false):=by
 have hs:q.s=sSp:=hq.s.resolve_left fun h=>by rw[h]at hi;simp at hi
 have x1:=zen hi
 obtain⟨qb,qs,qc,qt⟩:=q
 simp only at hs
 subst hs
 simp(disch:=apply zq;omega) only[go_sem,simprocAttr,↓Nat.reduceEqDiff,xx,L4,m4,S4,zac,x1]
end
theorem z2a (h:4<=n){q:PF}{p:List Sp}{r:List Rd}(hq:PFOk q p r)(hp:p.length<=9223372036854775807)(hr:r.length<=9223372036854775807):∃b:Bool,(b=true->FW p r)/\call gl tab n 4 [plV q p r] []=some (.bool b,[],[]):=by
 obtain⟨d,rfl⟩:=wB h
 obtain⟨b,hb,c1⟩:=@qi1 gl (d+3) (by omega) q p r hq hp hr
 rw[zai (fd:=fd4) rfl]
 cases b with
 | false=>exact⟨false,(fun h=>by cases h),by simp(disch:=apply zq;omega) only[go_sem,simprocAttr,↓Nat.reduceEqDiff,xx,fd4,m4,zac,zaq,c1]⟩
 | true =>
 obtain⟨h1,h2,hk⟩:=hb rfl
 have c2:=@zx9 gl (d+3) (by omega) q p r hq (by omega) hk.ok.cp
 by_cases h3:dm p p.length<=40
 case neg=>exact⟨false,(fun h=>by cases h),by simp(disch:=apply zq;omega) only[go_sem,simprocAttr,↓Nat.reduceEqDiff,xx,fd4,m4,zac,zaq,c1,c2]⟩
 rcases zew (fun i=>(spt p i).cp<=30) p.length with hA|⟨k,hkl,hb,he⟩
 . have hs:=fun i (hi:i<p.length)=>qgg (gl:=gl) (d:=d+3) hq (by omega) hi (hA i hi)
   simp only[L4,m4]at hs
   refine⟨true,fun _=>⟨hk,h1,h2,h3,hA⟩,?_⟩
   simp(disch:=apply zq;omega) only[go_sem,simprocAttr,↓Nat.reduceEqDiff,xx,fd4,m4,zac,zaq,c1,c2]
   rw[zak (S4 q p) p.length (by unfold LF;omega)]
   . simp(disch:=apply zq;omega) only[go_sem,simprocAttr,↓Nat.reduceEqDiff,xx,S4,zac]
   . simp(disch:=apply zq;omega) only[go_sem,simprocAttr,↓Nat.reduceEqDiff,xx,S4]
   . exact hs
   . simp(disch:=apply zq;omega) only[go_sem,simprocAttr,↓Nat.reduceEqDiff,xx,S4,zac]
 . obtain⟨st,hst,hg⟩:=zhs (qli (gl:=gl) (d:=d+3) hq (by omega) hkl he)
   have hs:=fun i (hi:i<k)=>qgg (gl:=gl) (d:=d+3) hq (by omega) (show i<p.length by omega) (hb i hi)
   simp only[L4,m4]at hs hst
   refine⟨false,(fun h=>by cases h),?_⟩
   simp(disch:=apply zq;omega) only[go_sem,simprocAttr,↓Nat.reduceEqDiff,xx,fd4,m4,zac,zaq,c1,c2]
   rw[zak (S4 q p) k (by unfold LF;omega),hst]
   . simp(disch:=apply zq;omega) only[go_sem,simprocAttr,↓Nat.reduceEqDiff,xx,hg]
   . simp(disch:=apply zq;omega) only[go_sem,simprocAttr,↓Nat.reduceEqDiff,xx,S4]
   . exact hs
   . rw[hst];rfl
end Go.Proofs.S50
