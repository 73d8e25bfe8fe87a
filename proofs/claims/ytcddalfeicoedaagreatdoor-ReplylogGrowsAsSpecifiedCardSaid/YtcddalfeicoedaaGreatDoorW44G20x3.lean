/-
  Chapter 44: the texts of a reply without lists, as specified. No condition.
-/
import Derived.Test.YtcddalfeicoedaaGreatDoorW44G18x3
import Derived.Test.YtcddalfeicoedaaGreatDoorW44G13x3
import Derived.Test.YtcddalfeicoedaaGreatDoorW44G19x3
import Derived.Test.YtcddalfeicoedaaGreatDoorW44G10x3
set_option linter.all false
namespace Go.Proofs.S44.L
open Go Go.Ev Go.Proofs Go.Proofs.S44
open Go.Proofs.S44.H (strsAV zaa zai Sml GlK GlR zam zbn nsI zal zint zau encB zaw zaf)
variable {gl :Gl} {n:Nat}
end Go.Proofs.S44.L
namespace Go.Proofs.S44.M
open Go Go.Ev Go.Proofs Go.Mk
open Go.Proofs.S44.H (GlK GlR)
variable {gl :Gl} {n:Nat}
section
variable [Nonempty (GlK gl)]
end
end Go.Proofs.S44.M
namespace Go.Proofs.S44.M
open Go Go.Ev Go.Proofs Go.Mk
open Go.Proofs.S44.H (GlK GlR)
variable {gl :Gl} {n:Nat}
section
variable [Nonempty (GlR gl)]
end
end Go.Proofs.S44.M
namespace Go.Proofs.S44.L
open Go Go.Ev Go.Proofs Go.Proofs.S44
open Go.Proofs.S44.H (strsAV zaa zai Sml GlK GlR zam zbn nsI zal)
open Go.Proofs.S44.M (lf zcv Dg dgL dgL_length All16 Sd sB pkAV grw P8 R8 ansL nilA)
variable {gl :Gl} {n:Nat}
def hd00 :Hd:=⟨0,0,zB,0,0,0,zB⟩
abbrev hdL0 :AV:=.agg [i64 0,i64 0,.agg H.out16l,.agg [i64 0,i64 0],i64 0,.agg H.out16l]
theorem z1c :HdOk hd00:=⟨za3 r0 (za3 r0 (za3 r0 (za3 r0 (za3 r0 zev (by simp)) (by simp)) (by simp)) (by simp)) (by simp),by simp[hd00],by simp[hd00]⟩
section
variable {s z:Int} {f f2 f3:Bool} {sh sh2 sh3:Sh} {l:List Rv} {t:List Dg} {hs:List Hd}
section
variable (h3 :hs=[]\/sh3=sHd) (hhl:hs.length<=60000) (hh:∀y∈hs,HdOk y) {h:Hd} (o:HdOk h)
include h3 hhl hh o
end
end
end Go.Proofs.S44.L
namespace Go.Proofs.S44.L
open Go Go.Ev Go.Proofs Go.Proofs.S44
open Go.Proofs.S44.H (strsAV zaa zai Sml GlK GlR zam zbn nsI zal zdq zint zau encB zaw zaf)
variable {gl :Gl} {n:Nat}
def L23 :MC:=match m23 with| .seq _ (.seq _ (.seq (.seq _ (.block _ (.loop _ b))) _))=>b|_=>.skip
def S23 (f g:Bool)(a b:List (List UInt8))(i:Nat):St:=⟨[.set 5 (i64 i),.set 1 (.lst g .sc (strsAV b)),.set 0 (.lst f .sc (strsAV a))],[]⟩
theorem z3j (h:1<=n)(f g:Bool){a b:List (List UInt8)}(ha:a.length<=60000)(hb:b.length<=60000):call gl tab n 23 [.lst f .sc (strsAV a),.lst g .sc (strsAV b)] []=some (.bool (decide (a=b)),[],[]):=by
 obtain⟨d,rfl⟩:=Nat.exists_eq_add_of_le' h
 have la:=zaa a
 have lb:=zaa b
 rw[zad (fd:=fd23) rfl]
 by_cases hl:a.length=b.length
 case neg =>
  rw[decide_eq_false fun e=>hl (by rw[e])]
  simp(disch:=apply zq;omega) only[go_sem,simprocAttr,↓Nat.reduceEqDiff,xx,fd23,m23,la,lb]
 have hs:∀i,i<a.length->sat a i=sat b i->zbd [.slot 0,.slot 1,.slot 5] (evC gl (call gl tab d) L23 (S23 f g a b i))=some (S23 f g a b (i+1)):=fun i hi hp=>by
  have hx:=zi6 hi
  have hy:=zi6 (l:=b) (i:=i) (by omega)
  rw[hp]at hx
  simp(disch:=apply zq;omega) only[go_sem,simprocAttr,↓Nat.reduceEqDiff,xx,L23,m23,S23,la,lb,hx,hy,bne_self_eq_false]
 have hf:∀i,i<a.length->¬sat a i=sat b i->out1 4 (evC gl (call gl tab d) L23 (S23 f g a b i))=some (.ret,.bool false):=fun i hi hp=>by
  have hx:=zi6 hi
  have hy:=zi6 (l:=b) (i:=i) (by omega)
  have he:(sat a i==sat b i)=false:=by rw[beq_eq_false_iff_ne];exact hp
  generalize sat a i=u at *
  generalize sat b i=v at *
  simp(disch:=apply zq;omega) only[go_sem,simprocAttr,↓Nat.reduceEqDiff,xx,L23,m23,S23,la,lb,hx,hy,he]
 rcases zbv (fun i=>sat a i=sat b i) a.length with hA|⟨q,hq,hb',he⟩
 . have e:a=b:=List.ext_getElem hl fun i h1 h2=>by
    have:=hA i h1
    simpa[sat,h1,h2]using this
   rw[decide_eq_true e]
   have hs2:=fun i hi=>hs i hi (hA i hi)
   simp only[L23,m23]at hs2
   simp(disch:=apply zq;omega) only[go_sem,simprocAttr,↓Nat.reduceEqDiff,xx,fd23,m23,la,lb,hl,bne_self_eq_false]
   rw[zag (S23 f g a b) a.length (by unfold LF;omega)]
   . simp(disch:=apply zq;omega) only[go_sem,simprocAttr,↓Nat.reduceEqDiff,xx,S23,la]
   . simp(disch:=apply zq;omega) only[go_sem,simprocAttr,↓Nat.reduceEqDiff,xx,S23]
   . exact hs2
   . simp(disch:=apply zq;omega) only[go_sem,simprocAttr,↓Nat.reduceEqDiff,xx,S23,la]
 . have e:¬a=b:=fun e=>he (by rw[e])
   rw[decide_eq_false e]
   obtain⟨st,hst,hg⟩:=zcn (hf q hq he)
   have hs2:=fun i (hi:i<q)=>hs i (by omega) (hb' i hi)
   simp only[L23,m23]at hs2 hst
   simp(disch:=apply zq;omega) only[go_sem,simprocAttr,↓Nat.reduceEqDiff,xx,fd23,m23,la,lb,hl,bne_self_eq_false]
   rw[zag (S23 f g a b) q (by unfold LF;omega),hst]
   . simp(disch:=apply zq;omega) only[go_sem,simprocAttr,↓Nat.reduceEqDiff,xx,hg]
   . simp(disch:=apply zq;omega) only[go_sem,simprocAttr,↓Nat.reduceEqDiff,xx,S23]
   . exact hs2
   . rw[hst];rfl
end Go.Proofs.S44.L
namespace Go.Proofs.S44.L
open Go Go.Ev Go.Proofs Go.Proofs.S44
open Go.Proofs.S44.H (strsAV zaa zai Sml GlK GlR zam zbn nsI zal)
open Go.Proofs.S44.M (lf zcv Dg dgL dgL_length All16 Sd sB pkAV grw P8 R8 ansL nilA)
variable {gl :Gl} {n:Nat}
section
variable {s z:Int} {f f2 f3:Bool} {sh sh2 sh3:Sh} {l:List Rv} {t:List Dg} {hs:List Hd}
section
variable (h3 :hs=[]\/sh3=sHd) (hhl:hs.length<=60000) (hh:∀y∈hs,HdOk y) {a b:Hd} (oa:HdOk a) (ob:HdOk b)
include h3 hhl hh oa ob
variable (h2 :Sr l sh) (hl:l.length<=800) (ok:∀x∈l,RvOk gl x) {k m:Nat} (hk:b.size=k) (hm:a.size=m) (hkl:k<=l.length) (hmk:m<=k)
include h2 hl ok hk hm hkl hmk
end
end
end Go.Proofs.S44.L
namespace Go.Proofs.S44.L
open Go Go.Ev Go.Proofs Go.Proofs.S44
open Go.Proofs.S44.H (strsAV zaa zai Sml GlK GlR zam zbn nsI zal zdq)
abbrev kI :Kd:=.int .i64
abbrev kB :Kd:=.ar 16 (.int .u8)
abbrev kCd :Kd:=.st [kI,kI,.str,.sl .str,.sl .str,.sl kI,kI]
abbrev kTk :Kd:=.st [kI,kI,.str,.sl kCd,kB]
abbrev kVy :Kd:=.st [.str,.sl .str,.str]
abbrev kRl :Kd:=.st [.str,.str,.sl .str,kI,kI,kI,kI,.sl kVy,kCd,.bool,kI,.str]
abbrev kHr :Kd:=.st [.str,.str]
abbrev kSp :Kd:=.st [.str,.str,kI,kI,kB,.str,.st [kI,kI],kI,kI,kB]
abbrev kLe :Kd:=.st [kI,kI,kI,kI,kB]
abbrev kRe :Kd:=.st [kI,kI,.st [.str,.str,.str,kI,.st [kI,kI]],.sl kHr,kTk,kB,kRl,kI,kSp,kI,.st [kI,kI],kB,kLe,kI,kI]
theorem zpa {n:Nat}(h:n<=Go.maxLen):n<=ML:=by simpa[Go.maxLen]using h
theorem kd_i {a:AV}(h:HasKd kI a):∃n,a=i64 n/\R64 n:=by
 obtain⟨n,rfl,h1,h2⟩:=h
 exact⟨n,rfl,h1,h2⟩
theorem zd3 {a:AV}(h:HasKd .str a):∃l,a= .str l/\l.length<=ML:=by
 obtain⟨l,rfl,h1⟩:=h
 exact⟨l,rfl,zpa h1⟩
theorem qcs {a:AV}(h:HasKd (.int .u8) a):∃b:UInt8,a= .int .u8 b.toNat:=by
 obtain⟨n,rfl,h1,h2⟩:=h
 have h3:0<=n:=h1
 have h4:n<=255:=h2
 refine⟨UInt8.ofNat n.toNat,?_⟩
 congr 1
 rw[UInt8.toNat_ofNat']
 omega
theorem zv6 :∀{l:List AV},(∀x∈l,HasKd (.int .u8) x)->∃b:List UInt8,l=zac b
 | [],_=>⟨[],rfl⟩
 | x::l,h=>by
   obtain⟨a,rfl⟩:=qcs (h x (by simp))
   obtain⟨r,rfl⟩:=zv6 (l:=l) fun y hy=>h y (by simp[hy])
   exact⟨a::r,rfl⟩
theorem kd_B {a:AV}(h:HasKd kB a):∃b,a=bAV b/\b.length=16:=by
 obtain⟨l,rfl,hl,h⟩:=h
 obtain⟨b,rfl⟩:=zv6 h
 exact⟨b,rfl,by rw[zab]at hl;exact hl⟩
theorem zy3 :∀{l:List AV},(∀x∈l,HasKd .str x)->∃r:List (List UInt8),l=strsAV r/\∀y∈r,y.length<=ML
 | [],_=>⟨[],rfl,fun y h=>by simp at h⟩
 | x::l,h=>by
   obtain⟨a,rfl,ha⟩:=zd3 (h x (by simp))
   obtain⟨r,rfl,hr⟩:=zy3 (l:=l) fun y hy=>h y (by simp[hy])
   exact⟨a::r,rfl,fun y hy=>by
    simp at hy
    rcases hy with rfl|hy
    . exact ha
    . exact hr y hy⟩
theorem zpj {a:AV}(h:HasKd (.sl .str) a):∃r,a= .lst false .sc (strsAV r)/\r.length<=ML/\∀y∈r,y.length<=ML:=by
 obtain⟨l,rfl,h1,h2⟩:=h
 obtain⟨r,rfl,hr⟩:=zy3 h2
 exact⟨r,rfl,by rw[zaa]at h1;exact zpa h1,hr⟩
theorem z05 :∀{l:List AV},(∀x∈l,HasKd kI x)->∃r:List Int,l=nsI r/\∀y∈r,R64 y
 | [],_=>⟨[],rfl,fun y h=>by simp at h⟩
 | x::l,h=>by
   obtain⟨a,rfl,ha⟩:=kd_i (h x (by simp))
   obtain⟨r,rfl,hr⟩:=z05 (l:=l) fun y hy=>h y (by simp[hy])
   exact⟨a::r,rfl,fun y hy=>by
    simp at hy
    rcases hy with rfl|hy
    . exact ha
    . exact hr y hy⟩
theorem qbe {a:AV}(h:HasKd (.sl kI) a):∃r,a= .lst false .sc (nsI r)/\r.length<=ML/\∀y∈r,R64 y:=by
 obtain⟨l,rfl,h1,h2⟩:=h
 obtain⟨r,rfl,hr⟩:=z05 h2
 exact⟨r,rfl,by rw[zal]at h1;exact zpa h1,hr⟩
theorem qe9 {a:AV}(h:HasKd kCd a):∃x,a=cdAV x/\CdR x:=by
 obtain⟨_,rfl,h⟩:=h
 simp only[HasKds]at h
 obtain⟨_,_,rfl,h1,_,_,rfl,h2,_,_,rfl,h3,_,_,rfl,h4,_,_,rfl,h5,_,_,rfl,h6,_,_,rfl,h7,rfl⟩:=h
 obtain⟨a1,rfl,b1⟩:=kd_i h1
 obtain⟨a2,rfl,b2⟩:=kd_i h2
 obtain⟨a3,rfl,b3⟩:=zd3 h3
 obtain⟨a4,rfl,b4,c4⟩:=zpj h4
 obtain⟨a5,rfl,b5,c5⟩:=zpj h5
 obtain⟨a6,rfl,b6,c6⟩:=qbe h6
 obtain⟨a7,rfl,b7⟩:=kd_i h7
 exact⟨⟨a1,a2,a3,a4,a5,a6,a7⟩,rfl,⟨b1,b2,b7,b3,b4,c4,b5,c5,b6,c6⟩⟩
theorem z8n :∀{l:List AV},(∀x∈l,HasKd kCd x)->∃r:List Cd,l=cds r/\∀y∈r,CdR y
 | [],_=>⟨[],rfl,fun y h=>by simp at h⟩
 | x::l,h=>by
   obtain⟨a,rfl,ha⟩:=qe9 (h x (by simp))
   obtain⟨r,rfl,hr⟩:=z8n (l:=l) fun y hy=>h y (by simp[hy])
   exact⟨a::r,rfl,fun y hy=>by
    simp at hy
    rcases hy with rfl|hy
    . exact ha
    . exact hr y hy⟩
theorem qkh {a:AV}(h:HasKd kVy a):∃x,a=vyAV x/\VyR x:=by
 obtain⟨_,rfl,h⟩:=h
 simp only[HasKds]at h
 obtain⟨_,_,rfl,h1,_,_,rfl,h2,_,_,rfl,h3,rfl⟩:=h
 obtain⟨a1,rfl,b1⟩:=zd3 h1
 obtain⟨a2,rfl,b2,c2⟩:=zpj h2
 obtain⟨a3,rfl,b3⟩:=zd3 h3
 exact⟨⟨a1,a2,a3⟩,rfl,⟨b1,b2,c2,b3⟩⟩
theorem z7s :∀{l:List AV},(∀x∈l,HasKd kVy x)->∃r:List Vy,l=vys r/\∀y∈r,VyR y
 | [],_=>⟨[],rfl,fun y h=>by simp at h⟩
 | x::l,h=>by
   obtain⟨a,rfl,ha⟩:=qkh (h x (by simp))
   obtain⟨r,rfl,hr⟩:=z7s (l:=l) fun y hy=>h y (by simp[hy])
   exact⟨a::r,rfl,fun y hy=>by
    simp at hy
    rcases hy with rfl|hy
    . exact ha
    . exact hr y hy⟩
theorem z8e :∀{l:List AV},(∀x∈l,HasKd kHr x)->∃r:List Hr,l=hrs r/\∀y∈r,y.n.length<=ML/\y.v.length<=ML
 | [],_=>⟨[],rfl,fun y h=>by simp at h⟩
 | x::l,h=>by
   obtain⟨_,rfl,h0⟩:=h x (by simp)
   simp only[HasKds]at h0
   obtain⟨_,_,rfl,h1,_,_,rfl,h2,rfl⟩:=h0
   obtain⟨a1,rfl,b1⟩:=zd3 h1
   obtain⟨a2,rfl,b2⟩:=zd3 h2
   obtain⟨r,rfl,hr⟩:=z8e (l:=l) fun y hy=>h y (by simp[hy])
   exact⟨⟨a1,a2⟩::r,rfl,fun y hy=>by
    simp at hy
    rcases hy with rfl|hy
    . exact⟨b1,b2⟩
    . exact hr y hy⟩
theorem qki {a:AV}(h:HasKd kTk a):∃x,a=tkAV x/\((R64 x.cu/\R64 x.se)/\x.id.length<=ML/\x.cs.length<=ML/\x.sgn.length=16)/\∀y∈x.cs,CdR y:=by
 obtain⟨_,rfl,h⟩:=h
 simp only[HasKds]at h
 obtain⟨_,_,rfl,h1,_,_,rfl,h2,_,_,rfl,h3,_,_,rfl,h4,_,_,rfl,h5,rfl⟩:=h
 obtain⟨a1,rfl,b1⟩:=kd_i h1
 obtain⟨a2,rfl,b2⟩:=kd_i h2
 obtain⟨a3,rfl,b3⟩:=zd3 h3
 obtain⟨l,rfl,h6,h7⟩:=h4
 obtain⟨r,rfl,hr⟩:=z8n h7
 obtain⟨a5,rfl,b5⟩:=kd_B h5
 exact⟨⟨a1,a2,a3,r,a5⟩,rfl,⟨⟨b1,b2⟩,b3,by rw[zc0]at h6;exact zpa h6,b5⟩,hr⟩
theorem qkj {a:AV}(h:HasKd kSp a):∃x,a=spAV x/\SpOk x/\SpB x:=by
 obtain⟨_,rfl,h⟩:=h
 simp only[HasKds]at h
 obtain⟨_,_,rfl,h1,_,_,rfl,h2,_,_,rfl,h3,_,_,rfl,h4,_,_,rfl,h5,_,_,rfl,h6,_,_,rfl,h7,_,_,rfl,h8,_,_,rfl,h9,_,_,rfl,h10,rfl⟩:=h
 obtain⟨a1,rfl,b1⟩:=zd3 h1
 obtain⟨a2,rfl,b2⟩:=zd3 h2
 obtain⟨a3,rfl,b3⟩:=kd_i h3
 obtain⟨a4,rfl,b4⟩:=kd_i h4
 obtain⟨a5,rfl,b5⟩:=kd_B h5
 obtain⟨a6,rfl,b6⟩:=zd3 h6
 obtain⟨_,rfl,h7⟩:=h7
 simp only[HasKds]at h7
 obtain⟨_,_,rfl,h71,_,_,rfl,h72,rfl⟩:=h7
 obtain⟨a7,rfl,b7⟩:=kd_i h71
 obtain⟨a7',rfl,b7'⟩:=kd_i h72
 obtain⟨a8,rfl,b8⟩:=kd_i h8
 obtain⟨a9,rfl,b9⟩:=kd_i h9
 obtain⟨a10,rfl,b10⟩:=kd_B h10
 exact⟨⟨a1,a2,a3,a4,a5,a6,a7,a7',a8,a9,a10⟩,rfl,⟨few6 b3 b4 b7 b7' b8 b9,b5,b10⟩,⟨b1,b2,b6⟩⟩
theorem qkm {a:AV}(h:HasKd kLe a):∃x,a=leAV x/\LeOk x:=by
 obtain⟨_,rfl,h⟩:=h
 simp only[HasKds]at h
 obtain⟨_,_,rfl,h1,_,_,rfl,h2,_,_,rfl,h3,_,_,rfl,h4,_,_,rfl,h5,rfl⟩:=h
 obtain⟨a1,rfl,b1⟩:=kd_i h1
 obtain⟨a2,rfl,b2⟩:=kd_i h2
 obtain⟨a3,rfl,b3⟩:=kd_i h3
 obtain⟨a4,rfl,b4⟩:=kd_i h4
 obtain⟨a5,rfl,b5⟩:=kd_B h5
 exact⟨⟨a1,a2,a3,a4,a5⟩,rfl,⟨few4 b1 b2 b3 b4,b5⟩⟩
theorem qkk {a:AV}(h:HasKd kRl a):∃x,a=rlAV x/\((R64 x.fr/\R64 x.sl/\R64 x.dn/\R64 x.ng/\R64 x.co)/\(x.nm.length<=ML/\x.pat.length<=ML/\x.pr.length<=ML)/\x.tg.length<=ML/\x.vy.length<=ML)/\(∀y∈x.tg,y.length<=ML)/\(∀y∈x.vy,VyR y)/\CdR x.al:=by
 obtain⟨_,rfl,h⟩:=h
 simp only[HasKds]at h
 obtain⟨_,_,rfl,h1,_,_,rfl,h2,_,_,rfl,h3,_,_,rfl,h4,_,_,rfl,h5,_,_,rfl,h6,_,_,rfl,h7,_,_,rfl,h8,_,_,rfl,h9,_,_,rfl,h10,_,_,rfl,h11,_,_,rfl,h12,rfl⟩:=h
 obtain⟨a1,rfl,b1⟩:=zd3 h1
 obtain⟨a2,rfl,b2⟩:=zd3 h2
 obtain⟨a3,rfl,b3,c3⟩:=zpj h3
 obtain⟨a4,rfl,b4⟩:=kd_i h4
 obtain⟨a5,rfl,b5⟩:=kd_i h5
 obtain⟨a6,rfl,b6⟩:=kd_i h6
 obtain⟨a7,rfl,b7⟩:=kd_i h7
 obtain⟨l,rfl,h13,h14⟩:=h8
 obtain⟨r,rfl,hr⟩:=z7s h14
 obtain⟨a9,rfl,b9⟩:=qe9 h9
 obtain⟨a10,rfl⟩:=h10
 obtain⟨a11,rfl,b11⟩:=kd_i h11
 obtain⟨a12,rfl,b12⟩:=zd3 h12
 exact⟨⟨a1,a2,a3,a4,a5,a6,a7,r,a9,a10,a11,a12⟩,rfl,⟨⟨b4,b5,b6,b7,b11⟩,⟨b1,b2,b12⟩,b3,by rw[zcy]at h13;exact zpa h13⟩,c3,hr,b9⟩
theorem qe7 {a:AV}(h:HasKd kRe a):∃x,a=reAV x/\ReR x:=by
 obtain⟨_,rfl,h⟩:=h
 simp only[HasKds]at h
 obtain⟨_,_,rfl,h1,_,_,rfl,h2,_,_,rfl,h3,_,_,rfl,h4,_,_,rfl,h5,_,_,rfl,h6,_,_,rfl,h7,_,_,rfl,h8,_,_,rfl,h9,_,_,rfl,h10,_,_,rfl,h11,_,_,rfl,h12,_,_,rfl,h13,_,_,rfl,h14,_,_,rfl,h15,rfl⟩:=h
 obtain⟨a1,rfl,b1⟩:=kd_i h1
 obtain⟨a2,rfl,b2⟩:=kd_i h2
 obtain⟨_,rfl,h3⟩:=h3
 simp only[HasKds]at h3
 obtain⟨_,_,rfl,h31,_,_,rfl,h32,_,_,rfl,h33,_,_,rfl,h34,_,_,rfl,h35,rfl⟩:=h3
 obtain⟨c1,rfl,d1⟩:=zd3 h31
 obtain⟨c2,rfl,d2⟩:=zd3 h32
 obtain⟨c3,rfl,d3⟩:=zd3 h33
 obtain⟨c4,rfl,d4⟩:=kd_i h34
 obtain⟨_,rfl,h35⟩:=h35
 simp only[HasKds]at h35
 obtain⟨_,_,rfl,h36,_,_,rfl,h37,rfl⟩:=h35
 obtain⟨c5,rfl,d5⟩:=kd_i h36
 obtain⟨c6,rfl,d6⟩:=kd_i h37
 obtain⟨l,rfl,h41,h42⟩:=h4
 obtain⟨hs,rfl,hhs⟩:=z8e h42
 obtain⟨tk,rfl,t1,t2⟩:=qki h5
 obtain⟨pol,rfl,p1⟩:=kd_B h6
 obtain⟨rl,rfl,r1,r2,r3,r4⟩:=qkk h7
 obtain⟨a8,rfl,b8⟩:=kd_i h8
 obtain⟨sp,rfl,s1,s2⟩:=qkj h9
 obtain⟨a10,rfl,b10⟩:=kd_i h10
 obtain⟨_,rfl,h11⟩:=h11
 simp only[HasKds]at h11
 obtain⟨_,_,rfl,h111,_,_,rfl,h112,rfl⟩:=h11
 obtain⟨a11,rfl,b11⟩:=kd_i h111
 obtain⟨a11',rfl,b11'⟩:=kd_i h112
 obtain⟨dat,rfl,dd⟩:=kd_B h12
 obtain⟨le,rfl,l1⟩:=qkm h13
 obtain⟨a14,rfl,b14⟩:=kd_i h14
 obtain⟨a15,rfl,b15⟩:=kd_i h15
 exact⟨⟨a1,a2,c1,c2,c3,c4,c5,c6,hs,tk,pol,rl,a8,sp,a10,a11,a11',dat,le,a14,a15⟩,rfl,⟨⟨⟨b1,b2,b10,b11,b11',b14,b15,b8⟩,d4,d5,d6⟩,⟨d1,d2,d3⟩,by rw[zdf]at h41;exact zpa h41,hhs,t1,t2,p1,r1,r2,r3,r4,s1,s2,dd,l1⟩⟩
end Go.Proofs.S44.L
