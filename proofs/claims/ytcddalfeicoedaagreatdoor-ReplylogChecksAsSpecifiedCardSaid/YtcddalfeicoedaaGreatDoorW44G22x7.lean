/-
  Chapter 44: the checks, as specified: shown replies, heads, forks. No condition.
-/
import Derived.Test.YtcddalfeicoedaaGreatDoorW44G21x7
import Derived.Test.YtcddalfeicoedaaGreatDoorW44G20x7
set_option linter.unusedVariables false
set_option linter.unusedSimpArgs false
set_option linter.unusedSectionVars false
namespace Go.Proofs.S44.L
open Go Go.Ev Go.Proofs Go.Proofs.S44
open Go.Proofs.S44.H (strsAV zab zan Sml GlK GlR zaj zbr nsI zak zdo)
open Go.Proofs.S44.M (lf zex Dg dgL dgL_length All16 Sd sB pkAV grw)
variable {gl :Gl} {n:Nat}
def RvR (gl:Gl)(x:Rv):Prop:=∀n,12<=n->call gl tab n 26 [rvAV x] []=some (bAV x.f,[],[])
section
variable {fr :Bool} {m:Sh} {ring:List Ky}
theorem rshown_at [Nonempty (GlR gl)](hn:2001<=n)(hm:Mk ring m)(hv:VR ring){x:Rv}(hx:RvOk gl x)(hx':RvR gl x){h:Hd}(hh:HdOk h){f:Bool}{sh:Sh}{p:List Dg}(ha:All16 p)(hl:p.length<=1000)(hs:Sd p sh sB) :
  call gl tab n 39 [.lst fr m (ks ring),.agg [rvAV x,hdAV h,.lst f sh (dgL p)]] []=some (i64 (ckS ring x h p),[],[]):=by
 obtain⟨d,rfl⟩:=Nat.exists_eq_add_of_le' hn
 have h1:=hx.sh
 have h2:=hx' (d+2000) (by omega)
 have u1:=b16 hh.r
 have u2:=b16 hh.s
 have w1:=H.bytes_all h.root
 have w2:=H.bytes_all h.sgn
 have q:=H.bytes_all x.f
 have q2:=b16 hx.f
 have c2:=rhdC_at (gl:=gl) (n:=d+2000) (f:=fr) (by omega) hm hv h hh
 have c3:=rckI_at (gl:=gl) (n:=d+2000) (leaf:=x.f) (root:=h.root) (i:=x.seq) (N:=h.size) (f:=f) (by omega) hx.f hh.r ha hl hs
 unfold ckS
 generalize hdC ring h=r2 at *
 generalize ckI x.f x.seq h.size p h.root=b3 at *
 rw[zad (fd:=fd39) rfl]
 by_cases e1:x.site=h.site
 case neg =>
  have k1:(x.site != h.site)=true:=by rw[bne_iff_ne];exact e1
  have k2:(x.site==h.site)=false:=by rw[beq_eq_false_iff_ne];exact e1
  rw[k2]
  show _=some (i64 1,_,_)
  simp(disch:=(fail_if_success intro _);omega) only[go_sem,simprocAttr,↓Nat.reduceEqDiff,xx,fd39,m39,↓out16_eq,h1,u1,u2,w1,w2,k1,H.oo]
 have k1:(x.site != h.site)=false:=by rw[e1];exact bne_self_eq_false _
 have k2:(x.site==h.site)=true:=by rw[e1];exact beq_self_eq_true _
 rw[k2]
 by_cases e2:r2=0
 case neg =>
  have k3:(r2 != 0)=true:=by rw[bne_iff_ne];exact e2
  have k4:fE [mE true 1,r2,mE b3 3]=r2:=by simp[fE,mE,e2]
  rw[k4]
  simp(disch:=(fail_if_success intro _);omega) only[go_sem,simprocAttr,↓Nat.reduceEqDiff,xx,fd39,m39,↓out16_eq,h1,u1,u2,w1,w2,k1,c2,k3,H.oo]
 subst e2
 cases b3
 . show _=some (i64 3,_,_)
   simp(disch:=(fail_if_success intro _);omega) only[go_sem,simprocAttr,↓Nat.reduceEqDiff,xx,fd39,m39,↓out16_eq,h1,h2,u1,u2,w1,w2,q,q2,k1,c2,c3,H.oo]
 . show _=some (i64 0,_,_)
   simp(disch:=(fail_if_success intro _);omega) only[go_sem,simprocAttr,↓Nat.reduceEqDiff,xx,fd39,m39,↓out16_eq,h1,h2,u1,u2,w1,w2,q,q2,k1,c2,c3,H.oo]
def ckH (ring:List Ky)(a b:Hd)(p:List Dg):Int:=fE [mE (a.site==b.site) 1,hdC ring a,hdC ring b,mE (decide (b.hi>=a.lo)) 9,mE (ckC a.size b.size a.root b.root p) 3]
theorem heads_at [Nonempty (GlK gl)](hn:61<=n)(hm:Mk ring m)(hv:VR ring){a b:Hd}(hh:HdOk a)(hh':HdOk b){f:Bool}{sh:Sh}{p:List Dg}(ha:All16 p)(hl:p.length<=1000000)(hs:Sd p sh sB) :
  call gl tab n 40 [.lst fr m (ks ring),hdAV a,hdAV b,.lst f sh (dgL p)] []=some (i64 (ckH ring a b p),[],[]):=by
 obtain⟨d,rfl⟩:=Nat.exists_eq_add_of_le' hn
 have u1:=b16 hh.r
 have u2:=b16 hh.s
 have w1:=H.bytes_all a.root
 have w2:=H.bytes_all a.sgn
 have u3:=b16 hh'.r
 have u4:=b16 hh'.s
 have w3:=H.bytes_all b.root
 have w4:=H.bytes_all b.sgn
 have c1:=@must_at gl (d+60) (by omega) (a.site==b.site) 1
 have c2:=hdC_at (gl:=gl) (n:=d+60) (f:=fr) (by omega) hm hv a hh
 have c3:=hdC_at (gl:=gl) (n:=d+60) (f:=fr) (by omega) hm hv b hh'
 have c4:=@must_at gl (d+60) (by omega) (decide (b.hi>=a.lo)) 9
 have c5:=ckC_at (gl:=gl) (n:=d+60) (old:=a.root) (root:=b.root) (m:=a.size) (N:=b.size) (f:=f) (by omega) hh.r hh'.r ha hl hs
 have c6:=@must_at gl (d+60) (by omega) (ckC a.size b.size a.root b.root p) 3
 have c7:=@first_at gl (d+60) (by omega) false [mE (a.site==b.site) 1,hdC ring a,hdC ring b,mE (decide (b.hi>=a.lo)) 9,mE (ckC a.size b.size a.root b.root p) 3] (by simp)
 unfold ckH
 generalize fE [mE (a.site==b.site) 1,hdC ring a,hdC ring b,mE (decide (b.hi>=a.lo)) 9,mE (ckC a.size b.size a.root b.root p) 3]=r at *
 have e5:nsI [mE (a.site==b.site) 1,hdC ring a,hdC ring b,mE (decide (b.hi>=a.lo)) 9,mE (ckC a.size b.size a.root b.root p) 3]=[i64 (mE (a.site==b.site) 1),i64 (hdC ring a),i64 (hdC ring b),i64 (mE (decide (b.hi>=a.lo)) 9),i64 (mE (ckC a.size b.size a.root b.root p) 3)]:=rfl
 rw[e5]at c7
 clear e5
 generalize mE (a.site==b.site) 1=r1 at *
 generalize hdC ring a=r2 at *
 generalize hdC ring b=r3 at *
 generalize mE (decide (b.hi>=a.lo)) 9=r4 at *
 generalize mE (ckC a.size b.size a.root b.root p) 3=r5 at *
 rw[zad (fd:=fd40) rfl]
 simp(disch:=(fail_if_success intro _);omega) only[go_sem,simprocAttr,↓Nat.reduceEqDiff,xx,fd40,m40,↓out16_eq,u1,u2,u3,u4,w1,w2,w3,w4,c1,c2,c3,c4,c5,c6,c7,H.oo]
theorem rheads_at [Nonempty (GlR gl)](hn:2001<=n)(hm:Mk ring m)(hv:VR ring){a b:Hd}(hh:HdOk a)(hh':HdOk b){f:Bool}{sh:Sh}{p:List Dg}(ha:All16 p)(hl:p.length<=1000)(hs:Sd p sh sB) :
  call gl tab n 41 [.lst fr m (ks ring),hdAV a,hdAV b,.lst f sh (dgL p)] []=some (i64 (ckH ring a b p),[],[]):=by
 obtain⟨d,rfl⟩:=Nat.exists_eq_add_of_le' hn
 have u1:=b16 hh.r
 have u2:=b16 hh.s
 have w1:=H.bytes_all a.root
 have w2:=H.bytes_all a.sgn
 have u3:=b16 hh'.r
 have u4:=b16 hh'.s
 have w3:=H.bytes_all b.root
 have w4:=H.bytes_all b.sgn
 have c2:=rhdC_at (gl:=gl) (n:=d+2000) (f:=fr) (by omega) hm hv a hh
 have c3:=rhdC_at (gl:=gl) (n:=d+2000) (f:=fr) (by omega) hm hv b hh'
 have c5:=rckC_at (gl:=gl) (n:=d+2000) (old:=a.root) (root:=b.root) (m:=a.size) (N:=b.size) (f:=f) (by omega) hh.r hh'.r ha hl hs
 unfold ckH
 generalize hdC ring a=r2 at *
 generalize hdC ring b=r3 at *
 generalize ckC a.size b.size a.root b.root p=b5 at *
 rw[zad (fd:=fd41) rfl]
 by_cases e1:a.site=b.site
 case neg =>
  have k1:(a.site != b.site)=true:=by rw[bne_iff_ne];exact e1
  have k2:(a.site==b.site)=false:=by rw[beq_eq_false_iff_ne];exact e1
  rw[k2]
  show _=some (i64 1,_,_)
  simp(disch:=(fail_if_success intro _);omega) only[go_sem,simprocAttr,↓Nat.reduceEqDiff,xx,fd41,m41,↓out16_eq,u1,u2,w1,w2,u3,u4,w3,w4,k1,H.oo]
 have k1:(a.site != b.site)=false:=by rw[e1];exact bne_self_eq_false _
 have k2:(a.site==b.site)=true:=by rw[e1];exact beq_self_eq_true _
 rw[k2]
 by_cases e2:r2=0
 case neg =>
  have k3:(r2 != 0)=true:=by rw[bne_iff_ne];exact e2
  have k4:fE [mE true 1,r2,r3,mE (decide (b.hi>=a.lo)) 9,mE b5 3]=r2:=by simp[fE,mE,e2]
  rw[k4]
  simp(disch:=(fail_if_success intro _);omega) only[go_sem,simprocAttr,↓Nat.reduceEqDiff,xx,fd41,m41,↓out16_eq,u1,u2,w1,w2,u3,u4,w3,w4,k1,c2,k3,H.oo]
 subst e2
 by_cases e3:r3=0
 case neg =>
  have k3:(r3 != 0)=true:=by rw[bne_iff_ne];exact e3
  have k4:fE [mE true 1,0,r3,mE (decide (b.hi>=a.lo)) 9,mE b5 3]=r3:=by simp[fE,mE,e3]
  rw[k4]
  simp(disch:=(fail_if_success intro _);omega) only[go_sem,simprocAttr,↓Nat.reduceEqDiff,xx,fd41,m41,↓out16_eq,u1,u2,w1,w2,u3,u4,w3,w4,k1,c2,c3,k3,H.oo]
 subst e3
 by_cases e4:b.hi>=a.lo
 case neg =>
  rw[decide_eq_false e4]
  show _=some (i64 9,_,_)
  simp(disch:=(fail_if_success intro _);omega) only[go_sem,simprocAttr,↓Nat.reduceEqDiff,xx,fd41,m41,↓out16_eq,u1,u2,w1,w2,u3,u4,w3,w4,k1,c2,c3,H.oo]
 rw[decide_eq_true e4]
 cases b5
 . show _=some (i64 3,_,_)
   simp(disch:=(fail_if_success intro _);omega) only[go_sem,simprocAttr,↓Nat.reduceEqDiff,xx,fd41,m41,↓out16_eq,u1,u2,w1,w2,u3,u4,w3,w4,k1,c2,c3,c5,H.oo]
 . show _=some (i64 0,_,_)
   simp(disch:=(fail_if_success intro _);omega) only[go_sem,simprocAttr,↓Nat.reduceEqDiff,xx,fd41,m41,↓out16_eq,u1,u2,w1,w2,u3,u4,w3,w4,k1,c2,c3,c5,H.oo]
end
end Go.Proofs.S44.L
namespace Go.Proofs.S44.L
open Go Go.Ev Go.Proofs Go.Proofs.S44
open Go.Proofs.S44.H (strsAV zab zan Sml GlK GlR zaj zbr nsI zak zdo)
abbrev kI :Kd:=.int .i64
abbrev kB :Kd:=.ar 16 (.int .u8)
abbrev kCd :Kd:=.st [kI,kI,.str,.sl .str,.sl .str,.sl kI,kI]
abbrev kTk :Kd:=.st [kI,kI,.str,.sl kCd,kB]
abbrev kVy :Kd:=.st [.str,.sl .str,.str]
abbrev kRl :Kd:=.st [.str,.str,.sl .str,kI,kI,kI,kI,.sl kVy,kCd,.bool,kI,.str]
abbrev kHr :Kd:=.st [.str,.str]
abbrev kSp :Kd:=.st [.str,.str,kI,kI,kB,.str,.st [kI,kI],kI,kI,kB]
abbrev kLe :Kd:=.st [kI,kI,kI,kI,kB]
abbrev kRe :Kd:=.st [kI,kI,.st [.str,.str,.str,kI,.st [kI,kI]],.sl kHr,kTk,kB,kRl,kI,kSp,kI,.st [kI,kI],kB,kLe,kI,kI]
theorem ml_le {n:Nat}(h:n<=Go.maxLen):n<=ML:=by simpa[Go.maxLen]using h
theorem kd_i {a:AV}(h:HasKd kI a):∃n,a=i64 n/\R64 n:=by
 obtain⟨n,rfl,h1,h2⟩:=h
 exact⟨n,rfl,h1,h2⟩
theorem zd0 {a:AV}(h:HasKd .str a):∃l,a= .str l/\l.length<=ML:=by
 obtain⟨l,rfl,h1⟩:=h
 exact⟨l,rfl,ml_le h1⟩
theorem byte_of {a:AV}(h:HasKd (.int .u8) a):∃b:UInt8,a= .int .u8 b.toNat:=by
 obtain⟨n,rfl,h1,h2⟩:=h
 have h3:0<=n:=h1
 have h4:n<=255:=h2
 refine⟨UInt8.ofNat n.toNat,?_⟩
 congr 1
 rw[UInt8.toNat_ofNat']
 omega
theorem bytes_of :∀{l:List AV},(∀x∈l,HasKd (.int .u8) x)->∃b:List UInt8,l=zac b
 | [],_=>⟨[],rfl⟩
 | x::l,h=>by
   obtain⟨a,rfl⟩:=byte_of (h x (by simp))
   obtain⟨r,rfl⟩:=bytes_of (l:=l) fun y hy=>h y (by simp[hy])
   exact⟨a::r,rfl⟩
theorem kd_B {a:AV}(h:HasKd kB a):∃b,a=bAV b/\b.length=16:=by
 obtain⟨l,rfl,hl,h⟩:=h
 obtain⟨b,rfl⟩:=bytes_of h
 exact⟨b,rfl,by rw[zaa]at hl;exact hl⟩
theorem strs_of :∀{l:List AV},(∀x∈l,HasKd .str x)->∃r:List (List UInt8),l=strsAV r/\∀y∈r,y.length<=ML
 | [],_=>⟨[],rfl,fun y h=>by simp at h⟩
 | x::l,h=>by
   obtain⟨a,rfl,ha⟩:=zd0 (h x (by simp))
   obtain⟨r,rfl,hr⟩:=strs_of (l:=l) fun y hy=>h y (by simp[hy])
   exact⟨a::r,rfl,fun y hy=>by
    simp at hy
    rcases hy with rfl|hy
    . exact ha
    . exact hr y hy⟩
theorem kd_strs {a:AV}(h:HasKd (.sl .str) a):∃r,a= .lst false .sc (strsAV r)/\r.length<=ML/\∀y∈r,y.length<=ML:=by
 obtain⟨l,rfl,h1,h2⟩:=h
 obtain⟨r,rfl,hr⟩:=strs_of h2
 exact⟨r,rfl,by rw[zab]at h1;exact ml_le h1,hr⟩
theorem ints_of :∀{l:List AV},(∀x∈l,HasKd kI x)->∃r:List Int,l=nsI r/\∀y∈r,R64 y
 | [],_=>⟨[],rfl,fun y h=>by simp at h⟩
 | x::l,h=>by
   obtain⟨a,rfl,ha⟩:=kd_i (h x (by simp))
   obtain⟨r,rfl,hr⟩:=ints_of (l:=l) fun y hy=>h y (by simp[hy])
   exact⟨a::r,rfl,fun y hy=>by
    simp at hy
    rcases hy with rfl|hy
    . exact ha
    . exact hr y hy⟩
theorem kd_ints {a:AV}(h:HasKd (.sl kI) a):∃r,a= .lst false .sc (nsI r)/\r.length<=ML/\∀y∈r,R64 y:=by
 obtain⟨l,rfl,h1,h2⟩:=h
 obtain⟨r,rfl,hr⟩:=ints_of h2
 exact⟨r,rfl,by rw[zak]at h1;exact ml_le h1,hr⟩
theorem kd_cd {a:AV}(h:HasKd kCd a):∃x,a=cdAV x/\CdR x:=by
 obtain⟨_,rfl,h⟩:=h
 simp only[HasKds]at h
 obtain⟨_,_,rfl,h1,_,_,rfl,h2,_,_,rfl,h3,_,_,rfl,h4,_,_,rfl,h5,_,_,rfl,h6,_,_,rfl,h7,rfl⟩:=h
 obtain⟨a1,rfl,b1⟩:=kd_i h1
 obtain⟨a2,rfl,b2⟩:=kd_i h2
 obtain⟨a3,rfl,b3⟩:=zd0 h3
 obtain⟨a4,rfl,b4,c4⟩:=kd_strs h4
 obtain⟨a5,rfl,b5,c5⟩:=kd_strs h5
 obtain⟨a6,rfl,b6,c6⟩:=kd_ints h6
 obtain⟨a7,rfl,b7⟩:=kd_i h7
 exact⟨⟨a1,a2,a3,a4,a5,a6,a7⟩,rfl,⟨b1,b2,b7,b3,b4,c4,b5,c5,b6,c6⟩⟩
theorem cds_of :∀{l:List AV},(∀x∈l,HasKd kCd x)->∃r:List Cd,l=cds r/\∀y∈r,CdR y
 | [],_=>⟨[],rfl,fun y h=>by simp at h⟩
 | x::l,h=>by
   obtain⟨a,rfl,ha⟩:=kd_cd (h x (by simp))
   obtain⟨r,rfl,hr⟩:=cds_of (l:=l) fun y hy=>h y (by simp[hy])
   exact⟨a::r,rfl,fun y hy=>by
    simp at hy
    rcases hy with rfl|hy
    . exact ha
    . exact hr y hy⟩
theorem kd_vy {a:AV}(h:HasKd kVy a):∃x,a=vyAV x/\VyR x:=by
 obtain⟨_,rfl,h⟩:=h
 simp only[HasKds]at h
 obtain⟨_,_,rfl,h1,_,_,rfl,h2,_,_,rfl,h3,rfl⟩:=h
 obtain⟨a1,rfl,b1⟩:=zd0 h1
 obtain⟨a2,rfl,b2,c2⟩:=kd_strs h2
 obtain⟨a3,rfl,b3⟩:=zd0 h3
 exact⟨⟨a1,a2,a3⟩,rfl,⟨b1,b2,c2,b3⟩⟩
theorem vys_of :∀{l:List AV},(∀x∈l,HasKd kVy x)->∃r:List Vy,l=vys r/\∀y∈r,VyR y
 | [],_=>⟨[],rfl,fun y h=>by simp at h⟩
 | x::l,h=>by
   obtain⟨a,rfl,ha⟩:=kd_vy (h x (by simp))
   obtain⟨r,rfl,hr⟩:=vys_of (l:=l) fun y hy=>h y (by simp[hy])
   exact⟨a::r,rfl,fun y hy=>by
    simp at hy
    rcases hy with rfl|hy
    . exact ha
    . exact hr y hy⟩
theorem hrs_of :∀{l:List AV},(∀x∈l,HasKd kHr x)->∃r:List Hr,l=hrs r/\∀y∈r,y.n.length<=ML/\y.v.length<=ML
 | [],_=>⟨[],rfl,fun y h=>by simp at h⟩
 | x::l,h=>by
   obtain⟨_,rfl,h0⟩:=h x (by simp)
   simp only[HasKds]at h0
   obtain⟨_,_,rfl,h1,_,_,rfl,h2,rfl⟩:=h0
   obtain⟨a1,rfl,b1⟩:=zd0 h1
   obtain⟨a2,rfl,b2⟩:=zd0 h2
   obtain⟨r,rfl,hr⟩:=hrs_of (l:=l) fun y hy=>h y (by simp[hy])
   exact⟨⟨a1,a2⟩::r,rfl,fun y hy=>by
    simp at hy
    rcases hy with rfl|hy
    . exact⟨b1,b2⟩
    . exact hr y hy⟩
theorem kd_tk {a:AV}(h:HasKd kTk a):∃x,a=tkAV x/\((R64 x.cu/\R64 x.se)/\x.id.length<=ML/\x.cs.length<=ML/\x.sgn.length=16)/\∀y∈x.cs,CdR y:=by
 obtain⟨_,rfl,h⟩:=h
 simp only[HasKds]at h
 obtain⟨_,_,rfl,h1,_,_,rfl,h2,_,_,rfl,h3,_,_,rfl,h4,_,_,rfl,h5,rfl⟩:=h
 obtain⟨a1,rfl,b1⟩:=kd_i h1
 obtain⟨a2,rfl,b2⟩:=kd_i h2
 obtain⟨a3,rfl,b3⟩:=zd0 h3
 obtain⟨l,rfl,h6,h7⟩:=h4
 obtain⟨r,rfl,hr⟩:=cds_of h7
 obtain⟨a5,rfl,b5⟩:=kd_B h5
 exact⟨⟨a1,a2,a3,r,a5⟩,rfl,⟨⟨b1,b2⟩,b3,by rw[zct]at h6;exact ml_le h6,b5⟩,hr⟩
theorem kd_sp {a:AV}(h:HasKd kSp a):∃x,a=spAV x/\SpOk x/\SpB x:=by
 obtain⟨_,rfl,h⟩:=h
 simp only[HasKds]at h
 obtain⟨_,_,rfl,h1,_,_,rfl,h2,_,_,rfl,h3,_,_,rfl,h4,_,_,rfl,h5,_,_,rfl,h6,_,_,rfl,h7,_,_,rfl,h8,_,_,rfl,h9,_,_,rfl,h10,rfl⟩:=h
 obtain⟨a1,rfl,b1⟩:=zd0 h1
 obtain⟨a2,rfl,b2⟩:=zd0 h2
 obtain⟨a3,rfl,b3⟩:=kd_i h3
 obtain⟨a4,rfl,b4⟩:=kd_i h4
 obtain⟨a5,rfl,b5⟩:=kd_B h5
 obtain⟨a6,rfl,b6⟩:=zd0 h6
 obtain⟨_,rfl,h7⟩:=h7
 simp only[HasKds]at h7
 obtain⟨_,_,rfl,h71,_,_,rfl,h72,rfl⟩:=h7
 obtain⟨a7,rfl,b7⟩:=kd_i h71
 obtain⟨a7',rfl,b7'⟩:=kd_i h72
 obtain⟨a8,rfl,b8⟩:=kd_i h8
 obtain⟨a9,rfl,b9⟩:=kd_i h9
 obtain⟨a10,rfl,b10⟩:=kd_B h10
 exact⟨⟨a1,a2,a3,a4,a5,a6,a7,a7',a8,a9,a10⟩,rfl,⟨few6 b3 b4 b7 b7' b8 b9,b5,b10⟩,⟨b1,b2,b6⟩⟩
theorem kd_le {a:AV}(h:HasKd kLe a):∃x,a=leAV x/\LeOk x:=by
 obtain⟨_,rfl,h⟩:=h
 simp only[HasKds]at h
 obtain⟨_,_,rfl,h1,_,_,rfl,h2,_,_,rfl,h3,_,_,rfl,h4,_,_,rfl,h5,rfl⟩:=h
 obtain⟨a1,rfl,b1⟩:=kd_i h1
 obtain⟨a2,rfl,b2⟩:=kd_i h2
 obtain⟨a3,rfl,b3⟩:=kd_i h3
 obtain⟨a4,rfl,b4⟩:=kd_i h4
 obtain⟨a5,rfl,b5⟩:=kd_B h5
 exact⟨⟨a1,a2,a3,a4,a5⟩,rfl,⟨few4 b1 b2 b3 b4,b5⟩⟩
theorem kd_rl {a:AV}(h:HasKd kRl a):∃x,a=rlAV x/\((R64 x.fr/\R64 x.sl/\R64 x.dn/\R64 x.ng/\R64 x.co)/\(x.nm.length<=ML/\x.pat.length<=ML/\x.pr.length<=ML)/\x.tg.length<=ML/\x.vy.length<=ML)/\(∀y∈x.tg,y.length<=ML)/\(∀y∈x.vy,VyR y)/\CdR x.al:=by
 obtain⟨_,rfl,h⟩:=h
 simp only[HasKds]at h
 obtain⟨_,_,rfl,h1,_,_,rfl,h2,_,_,rfl,h3,_,_,rfl,h4,_,_,rfl,h5,_,_,rfl,h6,_,_,rfl,h7,_,_,rfl,h8,_,_,rfl,h9,_,_,rfl,h10,_,_,rfl,h11,_,_,rfl,h12,rfl⟩:=h
 obtain⟨a1,rfl,b1⟩:=zd0 h1
 obtain⟨a2,rfl,b2⟩:=zd0 h2
 obtain⟨a3,rfl,b3,c3⟩:=kd_strs h3
 obtain⟨a4,rfl,b4⟩:=kd_i h4
 obtain⟨a5,rfl,b5⟩:=kd_i h5
 obtain⟨a6,rfl,b6⟩:=kd_i h6
 obtain⟨a7,rfl,b7⟩:=kd_i h7
 obtain⟨l,rfl,h13,h14⟩:=h8
 obtain⟨r,rfl,hr⟩:=vys_of h14
 obtain⟨a9,rfl,b9⟩:=kd_cd h9
 obtain⟨a10,rfl⟩:=h10
 obtain⟨a11,rfl,b11⟩:=kd_i h11
 obtain⟨a12,rfl,b12⟩:=zd0 h12
 exact⟨⟨a1,a2,a3,a4,a5,a6,a7,r,a9,a10,a11,a12⟩,rfl,⟨⟨b4,b5,b6,b7,b11⟩,⟨b1,b2,b12⟩,b3,by rw[zcr]at h13;exact ml_le h13⟩,c3,hr,b9⟩
theorem kd_re {a:AV}(h:HasKd kRe a):∃x,a=reAV x/\ReR x:=by
 obtain⟨_,rfl,h⟩:=h
 simp only[HasKds]at h
 obtain⟨_,_,rfl,h1,_,_,rfl,h2,_,_,rfl,h3,_,_,rfl,h4,_,_,rfl,h5,_,_,rfl,h6,_,_,rfl,h7,_,_,rfl,h8,_,_,rfl,h9,_,_,rfl,h10,_,_,rfl,h11,_,_,rfl,h12,_,_,rfl,h13,_,_,rfl,h14,_,_,rfl,h15,rfl⟩:=h
 obtain⟨a1,rfl,b1⟩:=kd_i h1
 obtain⟨a2,rfl,b2⟩:=kd_i h2
 obtain⟨_,rfl,h3⟩:=h3
 simp only[HasKds]at h3
 obtain⟨_,_,rfl,h31,_,_,rfl,h32,_,_,rfl,h33,_,_,rfl,h34,_,_,rfl,h35,rfl⟩:=h3
 obtain⟨c1,rfl,d1⟩:=zd0 h31
 obtain⟨c2,rfl,d2⟩:=zd0 h32
 obtain⟨c3,rfl,d3⟩:=zd0 h33
 obtain⟨c4,rfl,d4⟩:=kd_i h34
 obtain⟨_,rfl,h35⟩:=h35
 simp only[HasKds]at h35
 obtain⟨_,_,rfl,h36,_,_,rfl,h37,rfl⟩:=h35
 obtain⟨c5,rfl,d5⟩:=kd_i h36
 obtain⟨c6,rfl,d6⟩:=kd_i h37
 obtain⟨l,rfl,h41,h42⟩:=h4
 obtain⟨hs,rfl,hhs⟩:=hrs_of h42
 obtain⟨tk,rfl,t1,t2⟩:=kd_tk h5
 obtain⟨pol,rfl,p1⟩:=kd_B h6
 obtain⟨rl,rfl,r1,r2,r3,r4⟩:=kd_rl h7
 obtain⟨a8,rfl,b8⟩:=kd_i h8
 obtain⟨sp,rfl,s1,s2⟩:=kd_sp h9
 obtain⟨a10,rfl,b10⟩:=kd_i h10
 obtain⟨_,rfl,h11⟩:=h11
 simp only[HasKds]at h11
 obtain⟨_,_,rfl,h111,_,_,rfl,h112,rfl⟩:=h11
 obtain⟨a11,rfl,b11⟩:=kd_i h111
 obtain⟨a11',rfl,b11'⟩:=kd_i h112
 obtain⟨dat,rfl,dd⟩:=kd_B h12
 obtain⟨le,rfl,l1⟩:=kd_le h13
 obtain⟨a14,rfl,b14⟩:=kd_i h14
 obtain⟨a15,rfl,b15⟩:=kd_i h15
 exact⟨⟨a1,a2,c1,c2,c3,c4,c5,c6,hs,tk,pol,rl,a8,sp,a10,a11,a11',dat,le,a14,a15⟩,rfl,⟨⟨⟨b1,b2,b10,b11,b11',b14,b15,b8⟩,d4,d5,d6⟩,⟨d1,d2,d3⟩,by rw[zdb]at h41;exact ml_le h41,hhs,t1,t2,p1,r1,r2,r3,r4,s1,s2,dd,l1⟩⟩
end Go.Proofs.S44.L
namespace Go.Proofs.S44.L
open Go Go.Ev Go.Proofs Go.Proofs.S44
open Go.Proofs.S44.H (strsAV zab zan Sml GlK GlR zaj zbr nsI zak zdo)
open Go.Proofs.S44.M (lf zex Dg dgL dgL_length All16 Sd sB pkAV grw)
variable {gl :Gl} {n:Nat}
section
variable {fr :Bool} {m:Sh} {ring:List Ky}
def ckF (ring:List Ky)(a b:Hd):Bool:=decide (a.site=b.site/\a.size=b.size/\a.root≠b.root/\hdC ring a=0/\hdC ring b=0)
theorem forked_at [Nonempty (GlK gl)](hn:61<=n)(hm:Mk ring m)(hv:VR ring){a b:Hd}(hh:HdOk a)(hh':HdOk b) :
  call gl tab n 42 [.lst fr m (ks ring),hdAV a,hdAV b] []=some (.bool (ckF ring a b),[],[]):=by
 obtain⟨d,rfl⟩:=Nat.exists_eq_add_of_le' hn
 have u1:=b16 hh.r
 have u2:=b16 hh.s
 have w1:=H.bytes_all a.root
 have w2:=H.bytes_all a.sgn
 have u3:=b16 hh'.r
 have u4:=b16 hh'.s
 have w3:=H.bytes_all b.root
 have w4:=H.bytes_all b.sgn
 have r1:=hh.r
 have r2:=hh'.r
 have q:=eqB hh.r hh'.r
 have c2:=hdC_at (gl:=gl) (n:=d+60) (f:=fr) (by omega) hm hv a hh
 have c3:=hdC_at (gl:=gl) (n:=d+60) (f:=fr) (by omega) hm hv b hh'
 have c7:=@first_at gl (d+60) (by omega) false [hdC ring a,hdC ring b] (by simp)
 have e5:nsI [hdC ring a,hdC ring b]=[i64 (hdC ring a),i64 (hdC ring b)]:=rfl
 rw[e5]at c7
 clear e5
 have e6:fE [hdC ring a,hdC ring b]=0↔hdC ring a=0/\hdC ring b=0:=by
  by_cases h1:hdC ring a=0
  . by_cases h2:hdC ring b=0
    . simp[fE,h1,h2]
    . simp[fE,h1,h2]
  . simp[fE,h1]
 unfold ckF
 generalize hdC ring a=x1 at *
 generalize hdC ring b=x2 at *
 rw[zad (fd:=fd42) rfl]
 by_cases e1:a.site=b.site
 case neg =>
  rw[decide_eq_false fun h=>e1 h.1]
  have k1:(a.site==b.site)=false:=by rw[beq_eq_false_iff_ne];exact e1
  simp(disch:=(fail_if_success intro _);omega) only[go_sem,simprocAttr,↓Nat.reduceEqDiff,xx,fd42,m42,↓out16_eq,u1,u2,u3,u4,w1,w2,w3,w4,k1,H.oo]
 have k1:(a.site==b.site)=true:=by rw[e1];exact beq_self_eq_true _
 by_cases e2:a.size=b.size
 case neg =>
  rw[decide_eq_false fun h=>e2 h.2.1]
  have k2:(a.size==b.size)=false:=by rw[beq_eq_false_iff_ne];exact e2
  simp(disch:=(fail_if_success intro _);omega) only[go_sem,simprocAttr,↓Nat.reduceEqDiff,xx,fd42,m42,↓out16_eq,u1,u2,u3,u4,w1,w2,w3,w4,k1,k2,H.oo]
 have k2:(a.size==b.size)=true:=by rw[e2];exact beq_self_eq_true _
 by_cases e3:a.root=b.root
 . rw[decide_eq_false fun h=>h.2.2.1 e3]
   rw[decide_eq_true e3]at q
   simp(disch:=(fail_if_success intro _);omega) only[go_sem,simprocAttr,↓Nat.reduceEqDiff,xx,fd42,m42,↓out16_eq,u1,u2,u3,u4,w1,w2,w3,w4,k1,k2,q,r1,r2,zaa,H.oo]
 rw[decide_eq_false e3]at q
 by_cases e4:fE [x1,x2]=0
 . have:=e6.1 e4
   rw[decide_eq_true ⟨e1,e2,e3,this.1,this.2⟩]
   rw[e4]at c7
   simp(disch:=(fail_if_success intro _);omega) only[go_sem,simprocAttr,↓Nat.reduceEqDiff,xx,fd42,m42,↓out16_eq,u1,u2,u3,u4,w1,w2,w3,w4,k1,k2,q,r1,r2,c2,c3,c7,zaa,H.oo]
 . rw[decide_eq_false fun h=>e4 (e6.2 ⟨h.2.2.2.1,h.2.2.2.2⟩)]
   have k5:(fE [x1,x2]==0)=false:=by rw[beq_eq_false_iff_ne];exact e4
   generalize fE [x1,x2]=x3 at *
   simp(disch:=(fail_if_success intro _);omega) only[go_sem,simprocAttr,↓Nat.reduceEqDiff,xx,fd42,m42,↓out16_eq,u1,u2,u3,u4,w1,w2,w3,w4,k1,k2,q,r1,r2,c2,c3,c7,k5,zaa,H.oo]
theorem rforked_at [Nonempty (GlR gl)](hn:61<=n)(hm:Mk ring m)(hv:VR ring){a b:Hd}(hh:HdOk a)(hh':HdOk b) :
  call gl tab n 43 [.lst fr m (ks ring),hdAV a,hdAV b] []=some (.bool (ckF ring a b),[],[]):=by
 obtain⟨d,rfl⟩:=Nat.exists_eq_add_of_le' hn
 have u1:=b16 hh.r
 have u2:=b16 hh.s
 have w1:=H.bytes_all a.root
 have w2:=H.bytes_all a.sgn
 have u3:=b16 hh'.r
 have u4:=b16 hh'.s
 have w3:=H.bytes_all b.root
 have w4:=H.bytes_all b.sgn
 have r1:=hh.r
 have r2:=hh'.r
 have q:=eqB hh.r hh'.r
 have c2:=rhdC_at (gl:=gl) (n:=d+60) (f:=fr) (by omega) hm hv a hh
 have c3:=rhdC_at (gl:=gl) (n:=d+60) (f:=fr) (by omega) hm hv b hh'
 unfold ckF
 generalize hdC ring a=x1 at *
 generalize hdC ring b=x2 at *
 rw[zad (fd:=fd43) rfl]
 by_cases g1:x1=0
 case neg =>
  rw[decide_eq_false fun h=>g1 h.2.2.2.1]
  have k:(x1==0)=false:=by rw[beq_eq_false_iff_ne];exact g1
  simp(disch:=(fail_if_success intro _);omega) only[go_sem,simprocAttr,↓Nat.reduceEqDiff,xx,fd43,m43,↓out16_eq,u1,u2,u3,u4,w1,w2,w3,w4,c2,c3,k,H.oo]
 by_cases g2:x2=0
 case neg =>
  rw[decide_eq_false fun h=>g2 h.2.2.2.2]
  have k:(x2==0)=false:=by rw[beq_eq_false_iff_ne];exact g2
  subst g1
  simp(disch:=(fail_if_success intro _);omega) only[go_sem,simprocAttr,↓Nat.reduceEqDiff,xx,fd43,m43,↓out16_eq,u1,u2,u3,u4,w1,w2,w3,w4,c2,c3,k,H.oo]
 subst g1 g2
 by_cases e1:a.site=b.site
 case neg =>
  rw[decide_eq_false fun h=>e1 h.1]
  have k1:(a.site==b.site)=false:=by rw[beq_eq_false_iff_ne];exact e1
  simp(disch:=(fail_if_success intro _);omega) only[go_sem,simprocAttr,↓Nat.reduceEqDiff,xx,fd43,m43,↓out16_eq,u1,u2,u3,u4,w1,w2,w3,w4,c2,c3,k1,H.oo]
 have k1:(a.site==b.site)=true:=by rw[e1];exact beq_self_eq_true _
 by_cases e2:a.size=b.size
 case neg =>
  rw[decide_eq_false fun h=>e2 h.2.1]
  have k2:(a.size==b.size)=false:=by rw[beq_eq_false_iff_ne];exact e2
  simp(disch:=(fail_if_success intro _);omega) only[go_sem,simprocAttr,↓Nat.reduceEqDiff,xx,fd43,m43,↓out16_eq,u1,u2,u3,u4,w1,w2,w3,w4,c2,c3,k1,k2,H.oo]
 have k2:(a.size==b.size)=true:=by rw[e2];exact beq_self_eq_true _
 by_cases e3:a.root=b.root
 . rw[decide_eq_false fun h=>h.2.2.1 e3]
   rw[decide_eq_true e3]at q
   simp(disch:=(fail_if_success intro _);omega) only[go_sem,simprocAttr,↓Nat.reduceEqDiff,xx,fd43,m43,↓out16_eq,u1,u2,u3,u4,w1,w2,w3,w4,c2,c3,k1,k2,q,r1,r2,zaa,H.oo]
 . rw[decide_eq_true ⟨e1,e2,e3,rfl,rfl⟩]
   rw[decide_eq_false e3]at q
   simp(disch:=(fail_if_success intro _);omega) only[go_sem,simprocAttr,↓Nat.reduceEqDiff,xx,fd43,m43,↓out16_eq,u1,u2,u3,u4,w1,w2,w3,w4,c2,c3,k1,k2,q,r1,r2,zaa,H.oo]
end
def reT (x:Re):List AV:=[.agg [.str x.ad,.str x.cl,.str x.co,i64 x.sx,.agg [i64 x.lo,i64 x.hi]],.lst false sHr (hrs x.hs),tkAV x.tk,bAV x.pol,rlAV x.rl,i64 x.us,spAV x.sp,i64 x.mo,.agg [i64 x.fr,i64 x.to],bAV x.dat,leAV x.le,i64 x.he,i64 x.ca]
def toRv (x:Re):Rv:=⟨x.site,x.seq,reT x,leaf x⟩
theorem toRv_av (x:Re):rvAV (toRv x)=reAV x:=rfl
theorem toRv_ok [Nonempty (GlK gl)]{x:Re}(r:ReR x)(s:ReS x):RvOk gl (toRv x):=⟨by
 have w1:=H.bytes_all x.dat
 have w2:=H.bytes_all x.pol
 have w3:=H.bytes_all x.tk.sgn
 have w4:=H.bytes_all x.sp.body
 have w5:=H.bytes_all x.sp.sgn
 have w6:=H.bytes_all x.le.sgn
 have u1:=r.d
 have u2:=r.p
 have u3:=r.t.2.2.2
 have u4:=r.s.r
 have u5:=r.s.s
 have u6:=r.l.s
 show zba rSh (reT x)=true
 unfold reT
 simp(disch:=(fail_if_success intro _);omega) only[go_sem,simprocAttr,↓Nat.reduceEqDiff,xx,w1,w2,w3,w4,w5,w6,u1,u2,u3,u4,u5,u6,zaa],ziv _,fun n h=>leaf_at h r s⟩
theorem toRv_r [Nonempty (GlR gl)]{x:Re}(r:ReR x)(s:ReS x):RvR gl (toRv x):=fun n h=>rleaf_at h r s
end Go.Proofs.S44.L
