/-
  Chapter 44: arguments. No condition.
-/
import Derived.Test.YtcddalfeicoedaaGreatDoorW44G21x4
import Derived.Test.YtcddalfeicoedaaGreatDoorW44G22x4
set_option linter.all false
open List renaming length_append->wA,getD_eq_getElem?_getD->wB,take_append_of_le_length->wC
namespace Go.Proofs.S44.L
open Go Go.Ev Go.Proofs Go.Proofs.S44
open Go.Proofs.S44.H (strsAV zaa zaj Sml GlK GlR zal zbk nsI zak)
abbrev kI :Kd:=.int .i64
abbrev kB :Kd:=.ar 16 (.int .u8)
abbrev kCd :Kd:=.st [kI,kI,.str,.sl .str,.sl .str,.sl kI,kI]
abbrev kTk :Kd:=.st [kI,kI,.str,.sl kCd,kB]
abbrev kVy :Kd:=.st [.str,.sl .str,.str]
abbrev kRl :Kd:=.st [.str,.str,.sl .str,kI,kI,kI,kI,.sl kVy,kCd,.bool,kI,.str]
abbrev kHr :Kd:=.st [.str,.str]
abbrev kSp :Kd:=.st [.str,.str,kI,kI,kB,.str,.st [kI,kI],kI,kI,kB]
abbrev kLe :Kd:=.st [kI,kI,kI,kI,kB]
abbrev kRe :Kd:=.st [kI,kI,.st [.str,.str,.str,kI,.st [kI,kI]],.sl kHr,kTk,kB,kRl,kI,kSp,kI,.st [kI,kI],kB,kLe,kI,kI]
theorem zsn {n:Nat}(h:n<=Go.maxLen):n<=ML:=by simpa[Go.maxLen]using h
theorem kd_i {a:AV}(h:HasKd kI a):∃n,a=i64 n/\R64 n:=by
 obtain⟨n,rfl,h1,h2⟩:=h
 exact⟨n,rfl,h1,h2⟩
theorem zea {a:AV}(h:HasKd .str a):∃l,a= .str l/\l.length<=ML:=by
 obtain⟨l,rfl,h1⟩:=h
 exact⟨l,rfl,zsn h1⟩
theorem z2e {a:AV}(h:HasKd (.int .u8) a):∃b:UInt8,a= .int .u8 b.toNat:=by
 obtain⟨n,rfl,h1,h2⟩:=h
 have h3:0<=n:=h1
 have h4:n<=255:=h2
 refine⟨UInt8.ofNat n.toNat,?_⟩
 congr 1
 rw[UInt8.toNat_ofNat']
 omega
theorem zvo :∀{l:List AV},(∀x∈l,HasKd (.int .u8) x)->∃b:List UInt8,l=zac b
 | [],_=>⟨[],rfl⟩
 | x::l,h=>by
   obtain⟨a,rfl⟩:=z2e (h x (by simp))
   obtain⟨r,rfl⟩:=zvo (l:=l) fun y hy=>h y (by simp[hy])
   exact⟨a::r,rfl⟩
theorem kd_B {a:AV}(h:HasKd kB a):∃b,a=bAV b/\b.length=16:=by
 obtain⟨l,rfl,hl,h⟩:=h
 obtain⟨b,rfl⟩:=zvo h
 exact⟨b,rfl,by rw[zab]at hl;exact hl⟩
theorem zyg :∀{l:List AV},(∀x∈l,HasKd .str x)->∃r:List (List UInt8),l=strsAV r/\∀y∈r,y.length<=ML
 | [],_=>⟨[],rfl,fun y h=>by simp at h⟩
 | x::l,h=>by
   obtain⟨a,rfl,ha⟩:=zea (h x (by simp))
   obtain⟨r,rfl,hr⟩:=zyg (l:=l) fun y hy=>h y (by simp[hy])
   exact⟨a::r,rfl,fun y hy=>by
    simp at hy
    rcases hy with rfl|hy
    . exact ha
    . exact hr y hy⟩
theorem zpb {a:AV}(h:HasKd (.sl .str) a):∃r,a= .lst false .sc (strsAV r)/\r.length<=ML/\∀y∈r,y.length<=ML:=by
 obtain⟨l,rfl,h1,h2⟩:=h
 obtain⟨r,rfl,hr⟩:=zyg h2
 exact⟨r,rfl,by rw[zaa]at h1;exact zsn h1,hr⟩
theorem z0h :∀{l:List AV},(∀x∈l,HasKd kI x)->∃r:List Int,l=nsI r/\∀y∈r,R64 y
 | [],_=>⟨[],rfl,fun y h=>by simp at h⟩
 | x::l,h=>by
   obtain⟨a,rfl,ha⟩:=kd_i (h x (by simp))
   obtain⟨r,rfl,hr⟩:=z0h (l:=l) fun y hy=>h y (by simp[hy])
   exact⟨a::r,rfl,fun y hy=>by
    simp at hy
    rcases hy with rfl|hy
    . exact ha
    . exact hr y hy⟩
theorem qag {a:AV}(h:HasKd (.sl kI) a):∃r,a= .lst false .sc (nsI r)/\r.length<=ML/\∀y∈r,R64 y:=by
 obtain⟨l,rfl,h1,h2⟩:=h
 obtain⟨r,rfl,hr⟩:=z0h h2
 exact⟨r,rfl,by rw[zak]at h1;exact zsn h1,hr⟩
theorem qec {a:AV}(h:HasKd kCd a):∃x,a=cdAV x/\CdR x:=by
 obtain⟨_,rfl,h⟩:=h
 simp only[HasKds]at h
 obtain⟨_,_,rfl,h1,_,_,rfl,h2,_,_,rfl,h3,_,_,rfl,h4,_,_,rfl,h5,_,_,rfl,h6,_,_,rfl,h7,rfl⟩:=h
 obtain⟨a1,rfl,b1⟩:=kd_i h1
 obtain⟨a2,rfl,b2⟩:=kd_i h2
 obtain⟨a3,rfl,b3⟩:=zea h3
 obtain⟨a4,rfl,b4,c4⟩:=zpb h4
 obtain⟨a5,rfl,b5,c5⟩:=zpb h5
 obtain⟨a6,rfl,b6,c6⟩:=qag h6
 obtain⟨a7,rfl,b7⟩:=kd_i h7
 exact⟨⟨a1,a2,a3,a4,a5,a6,a7⟩,rfl,⟨b1,b2,b7,b3,b4,c4,b5,c5,b6,c6⟩⟩
theorem z7o :∀{l:List AV},(∀x∈l,HasKd kCd x)->∃r:List Cd,l=cds r/\∀y∈r,CdR y
 | [],_=>⟨[],rfl,fun y h=>by simp at h⟩
 | x::l,h=>by
   obtain⟨a,rfl,ha⟩:=qec (h x (by simp))
   obtain⟨r,rfl,hr⟩:=z7o (l:=l) fun y hy=>h y (by simp[hy])
   exact⟨a::r,rfl,fun y hy=>by
    simp at hy
    rcases hy with rfl|hy
    . exact ha
    . exact hr y hy⟩
theorem qi6 {a:AV}(h:HasKd kVy a):∃x,a=vyAV x/\VyR x:=by
 obtain⟨_,rfl,h⟩:=h
 simp only[HasKds]at h
 obtain⟨_,_,rfl,h1,_,_,rfl,h2,_,_,rfl,h3,rfl⟩:=h
 obtain⟨a1,rfl,b1⟩:=zea h1
 obtain⟨a2,rfl,b2,c2⟩:=zpb h2
 obtain⟨a3,rfl,b3⟩:=zea h3
 exact⟨⟨a1,a2,a3⟩,rfl,⟨b1,b2,c2,b3⟩⟩
theorem z6y :∀{l:List AV},(∀x∈l,HasKd kVy x)->∃r:List Vy,l=vys r/\∀y∈r,VyR y
 | [],_=>⟨[],rfl,fun y h=>by simp at h⟩
 | x::l,h=>by
   obtain⟨a,rfl,ha⟩:=qi6 (h x (by simp))
   obtain⟨r,rfl,hr⟩:=z6y (l:=l) fun y hy=>h y (by simp[hy])
   exact⟨a::r,rfl,fun y hy=>by
    simp at hy
    rcases hy with rfl|hy
    . exact ha
    . exact hr y hy⟩
theorem z7g :∀{l:List AV},(∀x∈l,HasKd kHr x)->∃r:List Hr,l=hrs r/\∀y∈r,y.n.length<=ML/\y.v.length<=ML
 | [],_=>⟨[],rfl,fun y h=>by simp at h⟩
 | x::l,h=>by
   obtain⟨_,rfl,h0⟩:=h x (by simp)
   simp only[HasKds]at h0
   obtain⟨_,_,rfl,h1,_,_,rfl,h2,rfl⟩:=h0
   obtain⟨a1,rfl,b1⟩:=zea h1
   obtain⟨a2,rfl,b2⟩:=zea h2
   obtain⟨r,rfl,hr⟩:=z7g (l:=l) fun y hy=>h y (by simp[hy])
   exact⟨⟨a1,a2⟩::r,rfl,fun y hy=>by
    simp at hy
    rcases hy with rfl|hy
    . exact⟨b1,b2⟩
    . exact hr y hy⟩
theorem qi7 {a:AV}(h:HasKd kTk a):∃x,a=tkAV x/\((R64 x.cu/\R64 x.se)/\x.id.length<=ML/\x.cs.length<=ML/\x.sgn.length=16)/\∀y∈x.cs,CdR y:=by
 obtain⟨_,rfl,h⟩:=h
 simp only[HasKds]at h
 obtain⟨_,_,rfl,h1,_,_,rfl,h2,_,_,rfl,h3,_,_,rfl,h4,_,_,rfl,h5,rfl⟩:=h
 obtain⟨a1,rfl,b1⟩:=kd_i h1
 obtain⟨a2,rfl,b2⟩:=kd_i h2
 obtain⟨a3,rfl,b3⟩:=zea h3
 obtain⟨l,rfl,h6,h7⟩:=h4
 obtain⟨r,rfl,hr⟩:=z7o h7
 obtain⟨a5,rfl,b5⟩:=kd_B h5
 exact⟨⟨a1,a2,a3,r,a5⟩,rfl,⟨⟨b1,b2⟩,b3,by rw[zct]at h6;exact zsn h6,b5⟩,hr⟩
theorem qi8 {a:AV}(h:HasKd kSp a):∃x,a=spAV x/\SpOk x/\SpB x:=by
 obtain⟨_,rfl,h⟩:=h
 simp only[HasKds]at h
 obtain⟨_,_,rfl,h1,_,_,rfl,h2,_,_,rfl,h3,_,_,rfl,h4,_,_,rfl,h5,_,_,rfl,h6,_,_,rfl,h7,_,_,rfl,h8,_,_,rfl,h9,_,_,rfl,h10,rfl⟩:=h
 obtain⟨a1,rfl,b1⟩:=zea h1
 obtain⟨a2,rfl,b2⟩:=zea h2
 obtain⟨a3,rfl,b3⟩:=kd_i h3
 obtain⟨a4,rfl,b4⟩:=kd_i h4
 obtain⟨a5,rfl,b5⟩:=kd_B h5
 obtain⟨a6,rfl,b6⟩:=zea h6
 obtain⟨_,rfl,h7⟩:=h7
 simp only[HasKds]at h7
 obtain⟨_,_,rfl,h71,_,_,rfl,h72,rfl⟩:=h7
 obtain⟨a7,rfl,b7⟩:=kd_i h71
 obtain⟨a7',rfl,b7'⟩:=kd_i h72
 obtain⟨a8,rfl,b8⟩:=kd_i h8
 obtain⟨a9,rfl,b9⟩:=kd_i h9
 obtain⟨a10,rfl,b10⟩:=kd_B h10
 exact⟨⟨a1,a2,a3,a4,a5,a6,a7,a7',a8,a9,a10⟩,rfl,⟨few6 b3 b4 b7 b7' b8 b9,b5,b10⟩,⟨b1,b2,b6⟩⟩
theorem qjb {a:AV}(h:HasKd kLe a):∃x,a=leAV x/\LeOk x:=by
 obtain⟨_,rfl,h⟩:=h
 simp only[HasKds]at h
 obtain⟨_,_,rfl,h1,_,_,rfl,h2,_,_,rfl,h3,_,_,rfl,h4,_,_,rfl,h5,rfl⟩:=h
 obtain⟨a1,rfl,b1⟩:=kd_i h1
 obtain⟨a2,rfl,b2⟩:=kd_i h2
 obtain⟨a3,rfl,b3⟩:=kd_i h3
 obtain⟨a4,rfl,b4⟩:=kd_i h4
 obtain⟨a5,rfl,b5⟩:=kd_B h5
 exact⟨⟨a1,a2,a3,a4,a5⟩,rfl,⟨few4 b1 b2 b3 b4,b5⟩⟩
theorem qja {a:AV}(h:HasKd kRl a):∃x,a=rlAV x/\((R64 x.fr/\R64 x.sl/\R64 x.dn/\R64 x.ng/\R64 x.co)/\(x.nm.length<=ML/\x.pat.length<=ML/\x.pr.length<=ML)/\x.tg.length<=ML/\x.vy.length<=ML)/\(∀y∈x.tg,y.length<=ML)/\(∀y∈x.vy,VyR y)/\CdR x.al:=by
 obtain⟨_,rfl,h⟩:=h
 simp only[HasKds]at h
 obtain⟨_,_,rfl,h1,_,_,rfl,h2,_,_,rfl,h3,_,_,rfl,h4,_,_,rfl,h5,_,_,rfl,h6,_,_,rfl,h7,_,_,rfl,h8,_,_,rfl,h9,_,_,rfl,h10,_,_,rfl,h11,_,_,rfl,h12,rfl⟩:=h
 obtain⟨a1,rfl,b1⟩:=zea h1
 obtain⟨a2,rfl,b2⟩:=zea h2
 obtain⟨a3,rfl,b3,c3⟩:=zpb h3
 obtain⟨a4,rfl,b4⟩:=kd_i h4
 obtain⟨a5,rfl,b5⟩:=kd_i h5
 obtain⟨a6,rfl,b6⟩:=kd_i h6
 obtain⟨a7,rfl,b7⟩:=kd_i h7
 obtain⟨l,rfl,h13,h14⟩:=h8
 obtain⟨r,rfl,hr⟩:=z6y h14
 obtain⟨a9,rfl,b9⟩:=qec h9
 obtain⟨a10,rfl⟩:=h10
 obtain⟨a11,rfl,b11⟩:=kd_i h11
 obtain⟨a12,rfl,b12⟩:=zea h12
 exact⟨⟨a1,a2,a3,a4,a5,a6,a7,r,a9,a10,a11,a12⟩,rfl,⟨⟨b4,b5,b6,b7,b11⟩,⟨b1,b2,b12⟩,b3,by rw[zcr]at h13;exact zsn h13⟩,c3,hr,b9⟩
theorem qeb {a:AV}(h:HasKd kRe a):∃x,a=reAV x/\ReR x:=by
 obtain⟨_,rfl,h⟩:=h
 simp only[HasKds]at h
 obtain⟨_,_,rfl,h1,_,_,rfl,h2,_,_,rfl,h3,_,_,rfl,h4,_,_,rfl,h5,_,_,rfl,h6,_,_,rfl,h7,_,_,rfl,h8,_,_,rfl,h9,_,_,rfl,h10,_,_,rfl,h11,_,_,rfl,h12,_,_,rfl,h13,_,_,rfl,h14,_,_,rfl,h15,rfl⟩:=h
 obtain⟨a1,rfl,b1⟩:=kd_i h1
 obtain⟨a2,rfl,b2⟩:=kd_i h2
 obtain⟨_,rfl,h3⟩:=h3
 simp only[HasKds]at h3
 obtain⟨_,_,rfl,h31,_,_,rfl,h32,_,_,rfl,h33,_,_,rfl,h34,_,_,rfl,h35,rfl⟩:=h3
 obtain⟨c1,rfl,d1⟩:=zea h31
 obtain⟨c2,rfl,d2⟩:=zea h32
 obtain⟨c3,rfl,d3⟩:=zea h33
 obtain⟨c4,rfl,d4⟩:=kd_i h34
 obtain⟨_,rfl,h35⟩:=h35
 simp only[HasKds]at h35
 obtain⟨_,_,rfl,h36,_,_,rfl,h37,rfl⟩:=h35
 obtain⟨c5,rfl,d5⟩:=kd_i h36
 obtain⟨c6,rfl,d6⟩:=kd_i h37
 obtain⟨l,rfl,h41,h42⟩:=h4
 obtain⟨hs,rfl,hhs⟩:=z7g h42
 obtain⟨tk,rfl,t1,t2⟩:=qi7 h5
 obtain⟨pol,rfl,p1⟩:=kd_B h6
 obtain⟨rl,rfl,r1,r2,r3,r4⟩:=qja h7
 obtain⟨a8,rfl,b8⟩:=kd_i h8
 obtain⟨sp,rfl,s1,s2⟩:=qi8 h9
 obtain⟨a10,rfl,b10⟩:=kd_i h10
 obtain⟨_,rfl,h11⟩:=h11
 simp only[HasKds]at h11
 obtain⟨_,_,rfl,h111,_,_,rfl,h112,rfl⟩:=h11
 obtain⟨a11,rfl,b11⟩:=kd_i h111
 obtain⟨a11',rfl,b11'⟩:=kd_i h112
 obtain⟨dat,rfl,dd⟩:=kd_B h12
 obtain⟨le,rfl,l1⟩:=qjb h13
 obtain⟨a14,rfl,b14⟩:=kd_i h14
 obtain⟨a15,rfl,b15⟩:=kd_i h15
 exact⟨⟨a1,a2,c1,c2,c3,c4,c5,c6,hs,tk,pol,rl,a8,sp,a10,a11,a11',dat,le,a14,a15⟩,rfl,⟨⟨⟨b1,b2,b10,b11,b11',b14,b15,b8⟩,d4,d5,d6⟩,⟨d1,d2,d3⟩,by rw[zc8]at h41;exact zsn h41,hhs,t1,t2,p1,r1,r2,r3,r4,s1,s2,dd,l1⟩⟩
end Go.Proofs.S44.L
namespace Go.Proofs.S44.L
open Go Go.Ev Go.Proofs Go.Proofs.S44
open Go.Proofs.S44.H (strsAV zaa zaj Sml GlK GlR zal zbk nsI zak)
open Go.Proofs.S44.M (Dg dgL dgL_length All16 Sd sB pkAV grw P8 R8)
variable {gl :Gl} {n:Nat}
def reT (x:Re):List AV:=[.agg [.str x.ad,.str x.cl,.str x.co,i64 x.sx,.agg [i64 x.lo,i64 x.hi]],.lst false sHr (hrs x.hs),tkAV x.tk,bAV x.pol,rlAV x.rl,i64 x.us,spAV x.sp,i64 x.mo,.agg [i64 x.fr,i64 x.to],bAV x.dat,leAV x.le,i64 x.he,i64 x.ca]
def toRv (x:Re):Rv:=⟨x.site,x.seq,reT x,leaf x⟩
theorem zn9 (x:Re):rvAV (toRv x)=reAV x:=rfl
theorem zkz {x:Re}(r:ReR x):za8 rSh (toRv x).r=true:=by
 have w1:=H.bytes_all x.dat
 have w2:=H.bytes_all x.pol
 have w3:=H.bytes_all x.tk.sgn
 have w4:=H.bytes_all x.sp.body
 have w5:=H.bytes_all x.sp.sgn
 have w6:=H.bytes_all x.le.sgn
 have u1:=r.d
 have u2:=r.p
 have u3:=r.t.2.2.2
 have u4:=r.s.r
 have u5:=r.s.s
 have u6:=r.l.s
 show za8 rSh (reT x)=true
 unfold reT
 simp(disch:=apply zq;omega) only[go_sem,simprocAttr,↓Nat.reduceEqDiff,xx,w1,w2,w3,w4,w5,w6,u1,u2,u3,u4,u5,u6,zab]
theorem zn8 [Nonempty (GlK gl)]{x:Re}(r:ReR x)(s:ReS x):RvOk gl (toRv x):=⟨zkz r,zey _,fun n h=>leaf_at h r s⟩
theorem qcm [Nonempty (GlR gl)]{x:Re}(r:ReR x)(s:ReS x):RvR gl (toRv x):=fun n h=>rleaf_at h r s
theorem z65 :∀{l:List AV},(∀x∈l,HasKd kRe x)->∃r:List Re,l=rvs (r.map toRv)/\∀y∈r,ReR y
 | [],_=>⟨[],rfl,fun y h=>by simp at h⟩
 | x::l,h=>by
   obtain⟨a,rfl,ha⟩:=qeb (h x (by simp))
   obtain⟨r,rfl,hr⟩:=z65 (l:=l) fun y hy=>h y (by simp[hy])
   exact⟨a::r,rfl,fun y hy=>by
    simp at hy
    rcases hy with rfl|hy
    . exact ha
    . exact hr y hy⟩
structure Lr where
 s:Int
 r:List Re
 z:Int
 t:List Dg
 h:List Hd
structure LrR (x:Lr):Prop where
 s:R64 x.s
 z:R64 x.z
 rl:x.r.length<=ML
 r:∀y∈x.r,ReR y
 tl:x.t.length<=ML
 t:All16 x.t
 hl:x.h.length<=ML
 h:∀y∈x.h,HdOk y
section
variable {s z:Int} {f f2 f3:Bool} {sh2 sh3:Sh} {l:List Rv} {t:List Dg} {U:List AV}
end
structure LrF (x:Lr):Prop where
 r:∀y∈x.r,ReS y
 rl:x.r.length<=20
 hl:x.h.length<=10
 tl:x.t.length<=64
theorem LrR.ok [Nonempty (GlK gl)]{x:Lr}(r:LrR x)(s:LrF x):∀y∈x.r.map toRv,RvOk gl y:=fun y hy=>by
 obtain⟨w,hw,rfl⟩:=List.mem_map.1 hy
 exact zn8 (r.r w hw) (s.r w hw)
end Go.Proofs.S44.L
namespace Go.Proofs.S44.L
open Go Go.Ev Go.Proofs Go.Proofs.S44
open Go.Proofs.S44.M (Dg dgL dgL_length All16 Sd sB pkAV grw P8 R8)
theorem zzb {l:List Rv}{x:Rv}{i:Nat}(h:i<l.length):rat (l++[x]) i=rat l i:=by
 simp[rat,wB,List.getElem?_append_left h]
theorem zt9 (l:List Rv)(x:Rv):rat (l++[x]) l.length=x:=by
 simp[rat,wB]
theorem zu0 (l:List Rv)(x:Rv):fs (l++[x])=fs l++[x.f]:=by simp[fs]
theorem qgl {a:List Dg}{b:List Dg}{k:Nat}(h:k<=a.length):P8 (a++b) k=P8 a k:=by
 rw[P8,P8,wC h]
theorem qgk {a:List Dg}{b:List Dg}{k:Nat}(h:k<=a.length):R8 (a++b) k=R8 a k:=by
 rw[R8,R8,wC h]
theorem z0t (l:List Rv)(x:Rv):grw l.length (P8 (fs l) l.length) x.f=P8 (fs (l++[x])) (l.length+1):=by
 have h:=M.P8_next (l:=fs (l++[x])) (k:=l.length) (by rw[zb1,wA];simp)
 have e:M.dgA (fs (l++[x])) l.length=x.f:=by
  rw[zu0,M.dgA,wB,<-zb1 l];simp
 rw[e,zu0,qgl (by rw[zb1];exact Nat.le_refl _),<-zu0]at h
 exact h
theorem VL.app {s:Int}{l:List Rv}{z:Int}{t:List Dg}{hs:List Hd}(v:VL s l z t hs){x:Rv}(e1:x.site=s)(e2:x.seq=l.length) :
  VL s (l++[x]) (l.length+1:Nat) (grw l.length t x.f) hs:=by
 obtain⟨v1,v2,⟨v3,v4⟩,v5⟩:=v
 refine⟨v1,fun i hi=> ?_,⟨by simp,by rw[v4,z0t,wA];rfl⟩,fun k hk=> ?_⟩
 . by_cases h:i<l.length
   . rw[RV,zzb h];exact v2 i h
   . obtain rfl:i=l.length:=by rw[wA]at hi;simp at hi;omega
     rw[RV,zt9];exact⟨e1,e2⟩
 . obtain⟨h1,h2,h3,h4,h5⟩:=v5 k hk
   refine⟨h1,h2,by rw[wA];omega,?_,h5⟩
   rw[h4,zu0,qgk (by rw[zb1];omega)]
end Go.Proofs.S44.L
